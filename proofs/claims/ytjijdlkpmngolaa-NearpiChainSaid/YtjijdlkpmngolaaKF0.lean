/- Texts of this work, joined: Fp0. -/
import Derived.Test.YtjijdlkpmngolaaKE
/- Functions of the translation as predicates over heaps, and that their calls do so. Written by a program of this work. -/
namespace Go.Proofs.Ytjijdlkpmngolaa.G
open Go.Gv
set_option linter.unusedVariables false
set_option maxRecDepth 100000
namespace gnomonlaw13_NearpiChain
noncomputable def C : Code := bodyOf Try.f3
def D4.t (R : Rt) (x0 : Int) (a12 : Option Addr) (l12 : Nat) (c12 : Nat) (a13 : Option Addr) (l13 : Nat) (c13 : Nat) (a14 : Option Addr) (l14 : Nat) (c14 : Nat) (a15 : Option Addr) (l15 : Nat) (c15 : Nat) (q16 : Addr) (q17 : Addr) (h : Hp) : Prop :=
  ldK h (q16.add 0) fun v119 =>
  gBool v119 fun b_120 =>
  ldK h (q16.add 1) fun v121 =>
  gSlice v121 fun a_122 l_122 c_122 =>
  ldK h (q17.add 0) fun v123 =>
  gBool v123 fun b_124 =>
  ldK h (q17.add 1) fun v125 =>
  gSlice v125 fun a_126 l_126 c_126 =>
  HC gnomonref04_Cmp.id #[.agg #[.bool b_120, .slice a_122 l_122 c_122], .agg #[.bool b_124, .slice a_126 l_126 c_126]] h fun v127 h128 =>
  gInt .i64 v127 fun x_129 =>
  cond (x_129 != 0) (R (.bool false) h128) (HC gnomonref01_Bits.id #[.slice a13 l13 c13] h128 fun v130 h131 =>
  gInt .i64 v130 fun x_132 =>
  HC gnomonref01_Bits.id #[.slice a15 l15 c15] h131 fun v133 h134 =>
  gInt .i64 v133 fun x_135 =>
  letK (IntKind.i64.wrap (x_132 + x_135)) fun n136 =>
  letK (IntKind.i64.wrap (n136 + 64)) fun n137 =>
  letK (IntKind.i64.wrap (n137 + 1)) fun n138 =>
  HC gnomonref07_PiFloor.id #[.int .i64 n138] h134 fun v139 h140 =>
  gSlice v139 fun a_141 l_141 c_141 =>
  letK (IntKind.i64.wrap (n137 + 2)) fun n142 =>
  HC gnomonref01_Shl.id #[.slice a14 l14 c14, .int .i64 n142] h140 fun v143 h144 =>
  gSlice v143 fun a_145 l_145 c_145 =>
  HC gnomonref04_Mk.id #[.bool false, .slice a_145 l_145 c_145] h144 fun v146 h147 =>
  gAgg v146 fun y148 =>
  uncons y148 fun v149 y149 =>
  gBool v149 fun b_150 =>
  uncons y149 fun v151 y151 =>
  gSlice v151 fun a_152 l_152 c_152 =>
  unnil y151 <| HC gnomonref01_Mul.id #[.slice a_141 l_141 c_141, .slice a15 l15 c15] h147 fun v153 h154 =>
  gSlice v153 fun a_155 l_155 c_155 =>
  HC gnomonref04_Mk.id #[.bool false, .slice a_155 l_155 c_155] h154 fun v156 h157 =>
  gAgg v156 fun y158 =>
  uncons y158 fun v159 y159 =>
  gBool v159 fun b_160 =>
  uncons y159 fun v161 y161 =>
  gSlice v161 fun a_162 l_162 c_162 =>
  unnil y161 <| HC gnomonref04_Sub.id #[.agg #[.bool b_150, .slice a_152 l_152 c_152], .agg #[.bool b_160, .slice a_162 l_162 c_162]] h157 fun v163 h164 =>
  gAgg v163 fun y165 =>
  uncons y165 fun v166 y166 =>
  gBool v166 fun b_167 =>
  uncons y166 fun v168 y168 =>
  gSlice v168 fun a_169 l_169 c_169 =>
  unnil y168 <| boxK h164 31 T31.zs fun q170 h171 =>
  stK h171 (q170.add 0) (.bool b_167) fun h172 =>
  stK h172 (q170.add 1) (.slice a_169 l_169 c_169) fun h173 =>
  letK (IntKind.i64.wrap (n137 + 2)) fun n174 =>
  HC gnomonref01_Shl.id #[.slice a12 l12 c12, .int .i64 n174] h173 fun v175 h176 =>
  gSlice v175 fun a_177 l_177 c_177 =>
  HC gnomonref04_Mk.id #[.bool false, .slice a_177 l_177 c_177] h176 fun v178 h179 =>
  gAgg v178 fun y180 =>
  uncons y180 fun v181 y181 =>
  gBool v181 fun b_182 =>
  uncons y181 fun v183 y183 =>
  gSlice v183 fun a_184 l_184 c_184 =>
  unnil y183 <| HC gnomonref01_Mul.id #[.slice a_141 l_141 c_141, .slice a13 l13 c13] h179 fun v185 h186 =>
  gSlice v185 fun a_187 l_187 c_187 =>
  HC gnomonref04_Mk.id #[.bool false, .slice a_187 l_187 c_187] h186 fun v188 h189 =>
  gAgg v188 fun y190 =>
  uncons y190 fun v191 y191 =>
  gBool v191 fun b_192 =>
  uncons y191 fun v193 y193 =>
  gSlice v193 fun a_194 l_194 c_194 =>
  unnil y193 <| HC gnomonref04_Sub.id #[.agg #[.bool b_182, .slice a_184 l_184 c_184], .agg #[.bool b_192, .slice a_194 l_194 c_194]] h189 fun v195 h196 =>
  gAgg v195 fun y197 =>
  uncons y197 fun v198 y198 =>
  gBool v198 fun b_199 =>
  uncons y198 fun v200 y200 =>
  gSlice v200 fun a_201 l_201 c_201 =>
  unnil y200 <| boxK h196 31 T31.zs fun q202 h203 =>
  stK h203 (q202.add 0) (.bool b_199) fun h204 =>
  stK h204 (q202.add 1) (.slice a_201 l_201 c_201) fun h205 =>
  q170.block < h205.size ∧ ldK h205 (q170.add 0) fun v206 =>
  gBool v206 fun b_207 =>
  ldK h205 (q170.add 1) fun v208 =>
  gSlice v208 fun a_209 l_209 c_209 =>
  HC gnomonref04_Sign.id #[.agg #[.bool b_207, .slice a_209 l_209 c_209]] h205 fun v210 h211 =>
  gInt .i64 v210 fun x_212 =>
  (Pre h205.size h205 h211) ∧ q202.block < h205.size ∧ ldK h211 (q202.add 0) fun v213 =>
  gBool v213 fun b_214 =>
  ldK h211 (q202.add 1) fun v215 =>
  gSlice v215 fun a_216 l_216 c_216 =>
  HC gnomonref04_Sign.id #[.agg #[.bool b_214, .slice a_216 l_216 c_216]] h211 fun v217 h218 =>
  gInt .i64 v217 fun x_219 =>
  (Pre h205.size h211 h218) ∧ letK (IntKind.i64.wrap (0 - x_219)) fun n220 =>
  cond (x_212 == n220) ((q170.add 1).block < h205.size ∧ ldK h218 (q170.add 1) fun v221 =>
  gSlice v221 fun a_222 l_222 c_222 =>
  (q202.add 1).block < h205.size ∧ ldK h218 (q202.add 1) fun v223 =>
  gSlice v223 fun a_224 l_224 c_224 =>
  HC gnomonref01_Cmp.id #[.slice a_222 l_222 c_222, .slice a_224 l_224 c_224] h218 fun v225 h226 =>
  gInt .i64 v225 fun x_227 =>
  (Pre h205.size h218 h226) ∧ cond (decide (x_227 < 0)) (q202.block < h205.size ∧ ldK h226 (q202.add 0) fun v228 =>
  gBool v228 fun b_229 =>
  ldK h226 (q202.add 1) fun v230 =>
  gSlice v230 fun a_231 l_231 c_231 =>
  HC gnomonref04_Sign.id #[.agg #[.bool b_229, .slice a_231 l_231 c_231]] h226 fun v232 h233 =>
  gInt .i64 v232 fun x_234 =>
  (Pre h205.size h226 h233) ∧ (2 : Int) ≠ 0 ∧ letK (Int.tmod x0 2) fun n235 =>
  R (.bool ((decide (x_234 < 0)) == (n235 == 0))) h233) (R (.bool false) h226)) (R (.bool false) h218))
def D4.g (R : Rt) (fr : Fr) (h : Hp) : Prop := gInt .i64 (fr 0) fun x0 => gSlice (fr 12) fun a12 l12 c12 => gSlice (fr 13) fun a13 l13 c13 => gSlice (fr 14) fun a14 l14 c14 => gSlice (fr 15) fun a15 l15 c15 => gPtrS (fr 16) fun q16 => gPtrS (fr 17) fun q17 => D4.t R x0 a12 l12 c12 a13 l13 c13 a14 l14 c14 a15 l15 c15 q16 q17 h
theorem D4.ok (R : Rt) (fr : Fr) (h : Hp) (g : D4.g R fr h) : den prog E (cAt C [true, true, true, true, true, true, true, true, true, true]) (retQ E [.tmp 2] R) fr h := by
  obtain ⟨x0, e0, g⟩ := gInt_elim g
  obtain ⟨a12, l12, c12, e12, g⟩ := gSlice_elim g
  obtain ⟨a13, l13, c13, e13, g⟩ := gSlice_elim g
  obtain ⟨a14, l14, c14, e14, g⟩ := gSlice_elim g
  obtain ⟨a15, l15, c15, e15, g⟩ := gSlice_elim g
  obtain ⟨q16, e16, g⟩ := gPtrS_elim g
  obtain ⟨q17, e17, g⟩ := gPtrS_elim g
  exact den_enter [(0, .int .i64 x0), (12, .slice a12 l12 c12), (13, .slice a13 l13 c13), (14, .slice a14 l14 c14), (15, .slice a15 l15 c15), (16, .pointer (some q16)), (17, .pointer (some q17))] ⟨e0, e12, e13, e14, e15, e16, e17, trivial⟩ (by kernel_rfl) g
def D3.t (R : Rt) (x0 : Int) (a6 : Option Addr) (l6 : Nat) (c6 : Nat) (a7 : Option Addr) (l7 : Nat) (c7 : Nat) (a9 : Option Addr) (l9 : Nat) (c9 : Nat) (a10 : Option Addr) (l10 : Nat) (c10 : Nat) (h : Hp) : Prop :=
  HC gnomonref01_From.id #[.slice a6 l6 c6] h fun v55 h56 =>
  gSlice v55 fun a_57 l_57 c_57 =>
  HC gnomonref01_From.id #[.slice a7 l7 c7] h56 fun v58 h59 =>
  gSlice v58 fun a_60 l_60 c_60 =>
  HC gnomonref01_From.id #[.slice a9 l9 c9] h59 fun v61 h62 =>
  gSlice v61 fun a_63 l_63 c_63 =>
  HC gnomonref01_From.id #[.slice a10 l10 c10] h62 fun v64 h65 =>
  gSlice v64 fun a_66 l_66 c_66 =>
  HC gnomonref01_Mul.id #[.slice a_63 l_63 c_63, .slice a_60 l_60 c_60] h65 fun v67 h68 =>
  gSlice v67 fun a_69 l_69 c_69 =>
  HC gnomonref04_Mk.id #[.bool false, .slice a_69 l_69 c_69] h68 fun v70 h71 =>
  gAgg v70 fun y72 =>
  uncons y72 fun v73 y73 =>
  gBool v73 fun b_74 =>
  uncons y73 fun v75 y75 =>
  gSlice v75 fun a_76 l_76 c_76 =>
  unnil y75 <| HC gnomonref01_Mul.id #[.slice a_57 l_57 c_57, .slice a_66 l_66 c_66] h71 fun v77 h78 =>
  gSlice v77 fun a_79 l_79 c_79 =>
  HC gnomonref04_Mk.id #[.bool false, .slice a_79 l_79 c_79] h78 fun v80 h81 =>
  gAgg v80 fun y82 =>
  uncons y82 fun v83 y83 =>
  gBool v83 fun b_84 =>
  uncons y83 fun v85 y85 =>
  gSlice v85 fun a_86 l_86 c_86 =>
  unnil y85 <| HC gnomonref04_Sub.id #[.agg #[.bool b_74, .slice a_76 l_76 c_76], .agg #[.bool b_84, .slice a_86 l_86 c_86]] h81 fun v87 h88 =>
  gAgg v87 fun y89 =>
  uncons y89 fun v90 y90 =>
  gBool v90 fun b_91 =>
  uncons y90 fun v92 y92 =>
  gSlice v92 fun a_93 l_93 c_93 =>
  unnil y92 <| boxK h88 31 T31.zs fun q94 h95 =>
  stK h95 (q94.add 0) (.bool b_91) fun h96 =>
  stK h96 (q94.add 1) (.slice a_93 l_93 c_93) fun h97 =>
  HC gnomonref04_Of.id #[.int .i64 1] h97 fun v98 h99 =>
  gAgg v98 fun y100 =>
  uncons y100 fun v101 y101 =>
  gBool v101 fun b_102 =>
  uncons y101 fun v103 y103 =>
  gSlice v103 fun a_104 l_104 c_104 =>
  unnil y103 <| boxK h99 31 T31.zs fun q105 h106 =>
  stK h106 (q105.add 0) (.bool b_102) fun h107 =>
  stK h107 (q105.add 1) (.slice a_104 l_104 c_104) fun h108 =>
  (2 : Int) ≠ 0 ∧ letK (Int.tmod x0 2) fun n109 =>
  cond (n109 == 1) (HC gnomonref04_Of.id #[.int .i64 (-1)] h108 fun v110 h111 =>
  gAgg v110 fun y112 =>
  uncons y112 fun v113 y113 =>
  gBool v113 fun b_114 =>
  uncons y113 fun v115 y115 =>
  gSlice v115 fun a_116 l_116 c_116 =>
  unnil y115 <| stK h111 (q105.add 0) (.bool b_114) fun h117 =>
  stK h117 (q105.add 1) (.slice a_116 l_116 c_116) fun h118 =>
  D4.t R x0 a_57 l_57 c_57 a_60 l_60 c_60 a_63 l_63 c_63 a_66 l_66 c_66 q94 q105 h118) (D4.t R x0 a_57 l_57 c_57 a_60 l_60 c_60 a_63 l_63 c_63 a_66 l_66 c_66 q94 q105 h108)
def D3.g (R : Rt) (fr : Fr) (h : Hp) : Prop := gInt .i64 (fr 0) fun x0 => gSlice (fr 6) fun a6 l6 c6 => gSlice (fr 7) fun a7 l7 c7 => gSlice (fr 9) fun a9 l9 c9 => gSlice (fr 10) fun a10 l10 c10 => D3.t R x0 a6 l6 c6 a7 l7 c7 a9 l9 c9 a10 l10 c10 h
theorem D3.ok (R : Rt) (fr : Fr) (h : Hp) (g : D3.g R fr h) : den prog E (cAt C [true, true, true, true, true, true]) (retQ E [.tmp 2] R) fr h := by
  obtain ⟨x0, e0, g⟩ := gInt_elim g
  obtain ⟨a6, l6, c6, e6, g⟩ := gSlice_elim g
  obtain ⟨a7, l7, c7, e7, g⟩ := gSlice_elim g
  obtain ⟨a9, l9, c9, e9, g⟩ := gSlice_elim g
  obtain ⟨a10, l10, c10, e10, g⟩ := gSlice_elim g
  exact den_cut 4 (r := (cAt C [true, true, true, true, true, true, true, true, true, true])) (by kernel_rfl) (D4.ok R) (den_enter [(0, .int .i64 x0), (6, .slice a6 l6 c6), (7, .slice a7 l7 c7), (9, .slice a9 l9 c9), (10, .slice a10 l10 c10)] ⟨e0, e6, e7, e9, e10, trivial⟩ (by kernel_rfl) g)
def D2.t (R : Rt) (x0 : Int) (h : Hp) : Prop :=
  HC nearpi_Convergent.id #[.int .i64 x0] h fun v24 h25 =>
  gTup v24 fun y26 =>
  uncons y26 fun v27 y27 =>
  gSlice v27 fun a_28 l_28 c_28 =>
  uncons y27 fun v29 y29 =>
  gSlice v29 fun a_30 l_30 c_30 =>
  uncons y29 fun v31 y31 =>
  gInt .i64 v31 fun x_32 =>
  unnil y31 <| letK (IntKind.i64.wrap (x0 + 1)) fun n33 =>
  HC nearpi_Convergent.id #[.int .i64 n33] h25 fun v34 h35 =>
  gTup v34 fun y36 =>
  uncons y36 fun v37 y37 =>
  gSlice v37 fun a_38 l_38 c_38 =>
  uncons y37 fun v39 y39 =>
  gSlice v39 fun a_40 l_40 c_40 =>
  uncons y39 fun v41 y41 =>
  gInt .i64 v41 fun x_42 =>
  unnil y41 <| cond (x_32 != 0) (R (.bool false) h35) (cond (x_42 != 0) (R (.bool false) h35) (HC gnomonref01_DocForm.id #[.slice a_28 l_28 c_28] h35 fun v43 h44 =>
  gBool v43 fun b_45 =>
  cond (!b_45) (R (.bool false) h44) (HC gnomonref01_DocForm.id #[.slice a_30 l_30 c_30] h44 fun v46 h47 =>
  gBool v46 fun b_48 =>
  cond (!b_48) (R (.bool false) h47) (HC gnomonref01_DocForm.id #[.slice a_38 l_38 c_38] h47 fun v49 h50 =>
  gBool v49 fun b_51 =>
  cond (!b_51) (R (.bool false) h50) (HC gnomonref01_DocForm.id #[.slice a_40 l_40 c_40] h50 fun v52 h53 =>
  gBool v52 fun b_54 =>
  cond (!b_54) (R (.bool false) h53) (D3.t R x0 a_28 l_28 c_28 a_30 l_30 c_30 a_38 l_38 c_38 a_40 l_40 c_40 h53))))))
def D2.g (R : Rt) (fr : Fr) (h : Hp) : Prop := gInt .i64 (fr 0) fun x0 => D2.t R x0 h
theorem D2.ok (R : Rt) (fr : Fr) (h : Hp) (g : D2.g R fr h) : den prog E (cAt C [true, true, true]) (retQ E [.tmp 2] R) fr h := by
  obtain ⟨x0, e0, g⟩ := gInt_elim g
  exact den_cut 3 (r := (cAt C [true, true, true, true, true, true])) (by kernel_rfl) (D3.ok R) (den_enter [(0, .int .i64 x0)] ⟨e0, trivial⟩ (by kernel_rfl) g)
def D1.t (R : Rt) (x0 : Int) (h : Hp) : Prop :=
  HC gnomonlaw13_awake.id #[] h fun v1 h2 =>
  gBool v1 fun b_3 =>
  cond (!b_3) (R (.bool false) h2) (cond (decide (x0 < 0)) (letK (IntKind.i64.wrap (x0 + 1)) fun n4 =>
  HC nearpi_Convergent.id #[.int .i64 n4] h2 fun v5 h6 =>
  gTup v5 fun y7 =>
  uncons y7 fun v8 y8 =>
  gSlice v8 fun a_9 l_9 c_9 =>
  uncons y8 fun v10 y10 =>
  gSlice v10 fun a_11 l_11 c_11 =>
  uncons y10 fun v12 y12 =>
  gInt .i64 v12 fun x_13 =>
  unnil y12 <| cond (decide (x0 > 4611686018427387904)) (R (.bool true) h6) (cond (x_13 == 1) (R (.bool true) h6) (R (.bool (x0 == (-1))) h6))) (cond (decide (x0 > 998)) (letK (IntKind.i64.wrap (x0 + 1)) fun n14 =>
  HC nearpi_Convergent.id #[.int .i64 n14] h2 fun v15 h16 =>
  gTup v15 fun y17 =>
  uncons y17 fun v18 y18 =>
  gSlice v18 fun a_19 l_19 c_19 =>
  uncons y18 fun v20 y20 =>
  gSlice v20 fun a_21 l_21 c_21 =>
  uncons y20 fun v22 y22 =>
  gInt .i64 v22 fun x_23 =>
  unnil y22 <| cond (decide (x0 > 4611686018427387904)) (R (.bool true) h16) (cond (x_23 == 1) (R (.bool true) h16) (R (.bool (x0 == (-1))) h16))) (D2.t R x0 h2)))
def D1.g (R : Rt) (fr : Fr) (h : Hp) : Prop := gInt .i64 (fr 0) fun x0 => D1.t R x0 h
theorem D1.ok (R : Rt) (fr : Fr) (h : Hp) (g : D1.g R fr h) : den prog E C (retQ E [.tmp 2] R) fr h := by
  obtain ⟨x0, e0, g⟩ := gInt_elim g
  exact den_cut 3 (r := (cAt C [true, true, true])) (by kernel_rfl) (D2.ok R) (den_enter [(0, .int .i64 x0)] ⟨e0, trivial⟩ (by kernel_rfl) g)
def t (x0 : Int) (h : Hp) (R : Rt) : Prop := D1.t R x0 h
theorem ok {x0 : Int} {h : Hp} {R : Rt} (g : t x0 h R) : HC id #[.int .i64 x0] h R :=
  calls_of_den' envOk (c := C) (rs := [.tmp 2]) Try.func3 (by kernel_rfl) (by kernel_rfl) (by kernel_rfl) (args := [.int .i64 x0]) (by kernel_rfl) (D1.ok R _ h (gInt_intro rfl (g)))
end gnomonlaw13_NearpiChain


namespace gnomonlaw13_awake
noncomputable def C : Code := bodyOf Try.f5
def D3.t (R : Rt) (q6 : Addr) (h : Hp) : Prop :=
  ldK h (q6.add 0) fun v47 =>
  gInt .u64 v47 fun x_48 =>
  cond (x_48 == 3) (ldK h (q6.add 1) fun v49 =>
  gSlice v49 fun a_50 l_50 c_50 =>
  boxK h 45 [.int .u64 2] fun q51 h52 =>
  HQC gnomonref01_Same.id #[.slice a_50 l_50 c_50, .slice (some q51) 1 1] h52 fun v53 =>
  gBool v53 fun b_54 =>
  cond b_54 (ldK h52 (q6.add 2) fun v55 =>
  gInt .i64 v55 fun x_56 =>
  R (.bool (x_56 == 3)) h52) (R (.bool false) h52)) (R (.bool false) h)
def D3.g (R : Rt) (fr : Fr) (h : Hp) : Prop := gPtrS (fr 6) fun q6 => D3.t R q6 h
theorem D3.ok (R : Rt) (fr : Fr) (h : Hp) (g : D3.g R fr h) : den prog E (cAt C [true, true, true, true, true, true]) (retQ E [.tmp 0] R) fr h := by
  obtain ⟨q6, e6, g⟩ := gPtrS_elim g
  exact den_enter [(6, .pointer (some q6))] ⟨e6, trivial⟩ (by kernel_rfl) g
def D2.t (R : Rt) (a1 : Option Addr) (l1 : Nat) (c1 : Nat) (a3 : Option Addr) (l3 : Nat) (c3 : Nat) (a4 : Option Addr) (l4 : Nat) (c4 : Nat) (q6 : Addr) (h : Hp) : Prop :=
  boxK h 45 [.int .u64 1, .int .u64 1, .int .u64 1, .int .u64 3, .int .u64 31] fun q35 h36 =>
  HQC gnomonref01_Same.id #[.slice a1 l1 c1, .slice (some q35) 5 5] h36 fun v37 =>
  gBool v37 fun b_38 =>
  cond (!b_38) (R (.bool false) h36) (boxK h36 45 [.int .u64 11] fun q39 h40 =>
  HQC gnomonref01_Same.id #[.slice a3 l3 c3, .slice (some q39) 1 1] h40 fun v41 =>
  gBool v41 fun b_42 =>
  cond (!b_42) (R (.bool false) h40) (boxK h40 45 [.int .u64 7] fun q43 h44 =>
  HQC gnomonref01_Same.id #[.slice a4 l4 c4, .slice (some q43) 1 1] h44 fun v45 =>
  gBool v45 fun b_46 =>
  cond (!b_46) (R (.bool false) h44) (D3.t R q6 h44)))
def D2.g (R : Rt) (fr : Fr) (h : Hp) : Prop := gSlice (fr 1) fun a1 l1 c1 => gSlice (fr 3) fun a3 l3 c3 => gSlice (fr 4) fun a4 l4 c4 => gPtrS (fr 6) fun q6 => D2.t R a1 l1 c1 a3 l3 c3 a4 l4 c4 q6 h
theorem D2.ok (R : Rt) (fr : Fr) (h : Hp) (g : D2.g R fr h) : den prog E (cAt C [true, true, true, true, true]) (retQ E [.tmp 0] R) fr h := by
  obtain ⟨a1, l1, c1, e1, g⟩ := gSlice_elim g
  obtain ⟨a3, l3, c3, e3, g⟩ := gSlice_elim g
  obtain ⟨a4, l4, c4, e4, g⟩ := gSlice_elim g
  obtain ⟨q6, e6, g⟩ := gPtrS_elim g
  exact den_cut 1 (r := (cAt C [true, true, true, true, true, true])) (by kernel_rfl) (D3.ok R) (den_enter [(1, .slice a1 l1 c1), (3, .slice a3 l3 c3), (4, .slice a4 l4 c4), (6, .pointer (some q6))] ⟨e1, e3, e4, e6, trivial⟩ (by kernel_rfl) g)
def D1.t (R : Rt)  (h : Hp) : Prop :=
  HC nearpi_Terms.id #[.int .i64 5] h fun v1 h2 =>
  gTup v1 fun y3 =>
  uncons y3 fun v4 y4 =>
  gSlice v4 fun a_5 l_5 c_5 =>
  uncons y4 fun v6 y6 =>
  gInt .i64 v6 fun x_7 =>
  unnil y6 <| HC nearpi_Convergent.id #[.int .i64 3] h2 fun v8 h9 =>
  gTup v8 fun y10 =>
  uncons y10 fun v11 y11 =>
  gSlice v11 fun a_12 l_12 c_12 =>
  uncons y11 fun v13 y13 =>
  gSlice v13 fun a_14 l_14 c_14 =>
  uncons y13 fun v15 y15 =>
  gInt .i64 v15 fun x_16 =>
  unnil y15 <| HC nearpi_Nearest.id #[.int .i64 2, .int .i64 0] h9 fun v17 h18 =>
  gTup v17 fun y19 =>
  uncons y19 fun v20 y20 =>
  gAgg v20 fun y21 =>
  uncons y21 fun v22 y22 =>
  gInt .u64 v22 fun x_23 =>
  uncons y22 fun v24 y24 =>
  gSlice v24 fun a_25 l_25 c_25 =>
  uncons y24 fun v26 y26 =>
  gInt .i64 v26 fun x_27 =>
  unnil y26 <| uncons y20 fun v28 y28 =>
  gInt .i64 v28 fun x_29 =>
  unnil y28 <| boxK h18 50 T50.zs fun q30 h31 =>
  stK h31 (q30.add 0) (.int .u64 x_23) fun h32 =>
  stK h32 (q30.add 1) (.slice a_25 l_25 c_25) fun h33 =>
  stK h33 (q30.add 2) (.int .i64 x_27) fun h34 =>
  cond (x_7 != 0) (R (.bool false) h34) (cond (x_16 != 0) (R (.bool false) h34) (cond (x_29 != 0) (R (.bool false) h34) (D2.t R a_5 l_5 c_5 a_12 l_12 c_12 a_14 l_14 c_14 q30 h34)))
def D1.g (R : Rt) (fr : Fr) (h : Hp) : Prop := D1.t R  h
theorem D1.ok (R : Rt) (fr : Fr) (h : Hp) (g : D1.g R fr h) : den prog E C (retQ E [.tmp 0] R) fr h := by
  exact den_cut 5 (r := (cAt C [true, true, true, true, true])) (by kernel_rfl) (D2.ok R) (den_enter [] trivial (by kernel_rfl) g)
def t  (h : Hp) (R : Rt) : Prop := D1.t R h
theorem ok  {h : Hp} {R : Rt} (g : t  h R) : HC id #[] h R :=
  calls_of_den' envOk (c := C) (rs := [.tmp 0]) Try.func5 (by kernel_rfl) (by kernel_rfl) (by kernel_rfl) (args := []) (by kernel_rfl) (D1.ok R _ h (g))
end gnomonlaw13_awake

namespace nearpi_Convergent
noncomputable def C : Code := bodyOf Try.f6
def D3.t (R : Rt) (a5 : Option Addr) (l5 : Nat) (c5 : Nat) (a6 : Option Addr) (l6 : Nat) (c6 : Nat) (h : Hp) : Prop :=
  R (.tuple #[.slice a5 l5 c5, .slice a6 l6 c6, .int .i64 0]) h
def D3.g (R : Rt) (fr : Fr) (h : Hp) : Prop := gSlice (fr 5) fun a5 l5 c5 => gSlice (fr 6) fun a6 l6 c6 => D3.t R a5 l5 c5 a6 l6 c6 h
theorem D3.ok (R : Rt) (fr : Fr) (h : Hp) (g : D3.g R fr h) : den prog E (cAt C [true, true, true, true]) (retQ E [.tmp 2, .tmp 3, .tmp 4] R) fr h := by
  obtain ⟨a5, l5, c5, e5, g⟩ := gSlice_elim g
  obtain ⟨a6, l6, c6, e6, g⟩ := gSlice_elim g
  exact den_enter [(5, .slice a5 l5 c5), (6, .slice a6 l6 c6)] ⟨e5, e6, trivial⟩ (by kernel_rfl) g
def L5.g (N : Option Addr → Nat → Nat → Option Addr → Nat → Nat → Option Addr → Nat → Nat → Option Addr → Nat → Nat → Option Addr → Nat → Nat → Int → Int → Hp → Prop) (fr : Fr) (h : Hp) : Prop := gSlice (fr 5) fun a5 l5 c5 => gSlice (fr 6) fun a6 l6 c6 => gSlice (fr 7) fun a7 l7 c7 => gSlice (fr 8) fun a8 l8 c8 => gSlice (fr 23) fun a23 l23 c23 => gInt .i64 (fr 24) fun x24 => gInt .i64 (fr 25) fun x25 => N a5 l5 c5 a6 l6 c6 a7 l7 c7 a8 l8 c8 a23 l23 c23 x24 x25 h
def D6.t (R : Rt) (N5 : Option Addr → Nat → Nat → Option Addr → Nat → Nat → Option Addr → Nat → Nat → Option Addr → Nat → Nat → Option Addr → Nat → Nat → Int → Int → Hp → Prop) (a5 : Option Addr) (l5 : Nat) (c5 : Nat) (a6 : Option Addr) (l6 : Nat) (c6 : Nat) (a7 : Option Addr) (l7 : Nat) (c7 : Nat) (a8 : Option Addr) (l8 : Nat) (c8 : Nat) (a23 : Option Addr) (l23 : Nat) (c23 : Nat) (x24 : Int) (x25 : Int) (h : Hp) : Prop :=
  cond (decide (x25 < x24)) (idxK a23 l23 x25 1 fun q5 =>
  ldK h q5 fun v6 =>
  gInt .u64 v6 fun x_7 =>
  cond (x25 == 0) (HC nat_Word.id #[.int .u64 x_7] h fun v8 h9 =>
  gSlice v8 fun a_10 l_10 c_10 =>
  HC nat_Word.id #[.int .u64 1] h9 fun v11 h12 =>
  gSlice v11 fun a_13 l_13 c_13 =>
  HC nat_Word.id #[.int .u64 1] h12 fun v14 h15 =>
  gSlice v14 fun a_16 l_16 c_16 =>
  letK (IntKind.i64.wrap (x25 + 1)) fun n17 =>
  N5 a_10 l_10 c_10 a_13 l_13 c_13 a_16 l_16 c_16 none 0 0 a23 l23 c23 x24 n17 h15) (HC nearpi_plus.id #[.slice a5 l5 c5, .int .u64 x_7, .slice a7 l7 c7] h fun v18 h19 =>
  gTup v18 fun y20 =>
  uncons y20 fun v21 y21 =>
  gSlice v21 fun a_22 l_22 c_22 =>
  uncons y21 fun v23 y23 =>
  gInt .i64 v23 fun x_24 =>
  unnil y23 <| HC nearpi_plus.id #[.slice a6 l6 c6, .int .u64 x_7, .slice a8 l8 c8] h19 fun v25 h26 =>
  gTup v25 fun y27 =>
  uncons y27 fun v28 y28 =>
  gSlice v28 fun a_29 l_29 c_29 =>
  uncons y28 fun v30 y30 =>
  gInt .i64 v30 fun x_31 =>
  unnil y30 <| cond (x_24 != 0) (R (.tuple #[.slice none 0 0, .slice none 0 0, .int .i64 (if x_31 > x_24 then x_31 else x_24)]) h26) (cond (x_31 != 0) (R (.tuple #[.slice none 0 0, .slice none 0 0, .int .i64 (if x_31 > x_24 then x_31 else x_24)]) h26) (letK (IntKind.i64.wrap (x25 + 1)) fun n32 =>
  N5 a_22 l_22 c_22 a_29 l_29 c_29 a5 l5 c5 a6 l6 c6 a23 l23 c23 x24 n32 h26)))) (D3.t R a5 l5 c5 a6 l6 c6 h)
def D6.g (R : Rt) (N5 : Option Addr → Nat → Nat → Option Addr → Nat → Nat → Option Addr → Nat → Nat → Option Addr → Nat → Nat → Option Addr → Nat → Nat → Int → Int → Hp → Prop) (fr : Fr) (h : Hp) : Prop := gSlice (fr 5) fun a5 l5 c5 => gSlice (fr 6) fun a6 l6 c6 => gSlice (fr 7) fun a7 l7 c7 => gSlice (fr 8) fun a8 l8 c8 => gSlice (fr 23) fun a23 l23 c23 => gInt .i64 (fr 24) fun x24 => gInt .i64 (fr 25) fun x25 => D6.t R N5 a5 l5 c5 a6 l6 c6 a7 l7 c7 a8 l8 c8 a23 l23 c23 x24 x25 h
theorem D6.ok (R : Rt) (N5 : Option Addr → Nat → Nat → Option Addr → Nat → Nat → Option Addr → Nat → Nat → Option Addr → Nat → Nat → Option Addr → Nat → Nat → Int → Int → Hp → Prop) (fr : Fr) (h : Hp) (g : D6.g R N5 fr h) : den prog E (cAt C [true, true, true, false, true, false, false]) (Ex.then (L5.g N5) (Ex.inBlock 0 (Ex.then (D3.g R) (retQ E [.tmp 2, .tmp 3, .tmp 4] R)))) fr h := by
  obtain ⟨a5, l5, c5, e5, g⟩ := gSlice_elim g
  obtain ⟨a6, l6, c6, e6, g⟩ := gSlice_elim g
  obtain ⟨a7, l7, c7, e7, g⟩ := gSlice_elim g
  obtain ⟨a8, l8, c8, e8, g⟩ := gSlice_elim g
  obtain ⟨a23, l23, c23, e23, g⟩ := gSlice_elim g
  obtain ⟨x24, e24, g⟩ := gInt_elim g
  obtain ⟨x25, e25, g⟩ := gInt_elim g
  exact den_enter [(5, .slice a5 l5 c5), (6, .slice a6 l6 c6), (7, .slice a7 l7 c7), (8, .slice a8 l8 c8), (23, .slice a23 l23 c23), (24, .int .i64 x24), (25, .int .i64 x25)] ⟨e5, e6, e7, e8, e23, e24, e25, trivial⟩ (by kernel_rfl) g
def L5.t (R : Rt) : Nat → Option Addr → Nat → Nat → Option Addr → Nat → Nat → Option Addr → Nat → Nat → Option Addr → Nat → Nat → Option Addr → Nat → Nat → Int → Int → Hp → Prop
  | 0 => fun _ _ _ _ _ _ _ _ _ _ _ _ _ _ _ _ _ _ => False
  | n + 1 => fun a5 l5 c5 a6 l6 c6 a7 l7 c7 a8 l8 c8 a23 l23 c23 x24 x25 h => D6.t R (L5.t R n) a5 l5 c5 a6 l6 c6 a7 l7 c7 a8 l8 c8 a23 l23 c23 x24 x25 h
theorem L5.ok (R : Rt) (fr : Fr) (h : Hp) (g : L5.g (fun a5 l5 c5 a6 l6 c6 a7 l7 c7 a8 l8 c8 a23 l23 c23 x24 x25 h => ∃ n, L5.t R n a5 l5 c5 a6 l6 c6 a7 l7 c7 a8 l8 c8 a23 l23 c23 x24 x25 h) fr h) : den prog E (cAt C [true, true, true, false, true, false]) (Ex.inBlock 0 (Ex.then (D3.g R) (retQ E [.tmp 2, .tmp 3, .tmp 4] R))) fr h := by
  obtain ⟨a5, l5, c5, e5, g⟩ := gSlice_elim g
  obtain ⟨a6, l6, c6, e6, g⟩ := gSlice_elim g
  obtain ⟨a7, l7, c7, e7, g⟩ := gSlice_elim g
  obtain ⟨a8, l8, c8, e8, g⟩ := gSlice_elim g
  obtain ⟨a23, l23, c23, e23, g⟩ := gSlice_elim g
  obtain ⟨x24, e24, g⟩ := gInt_elim g
  obtain ⟨x25, e25, g⟩ := gInt_elim g
  obtain ⟨n, g⟩ := g
  refine loop_ok (fun n => L5.g (L5.t R n)) (b := (cAt C [true, true, true, false, true, false, false])) (by kernel_rfl) (fun fr h g => ?_) (fun n => D6.ok R (L5.t R n)) n fr h (gSlice_intro e5 (gSlice_intro e6 (gSlice_intro e7 (gSlice_intro e8 (gSlice_intro e23 (gInt_intro e24 (gInt_intro e25 (g))))))))
  obtain ⟨a5, l5, c5, e5, g⟩ := gSlice_elim g
  obtain ⟨a6, l6, c6, e6, g⟩ := gSlice_elim g
  obtain ⟨a7, l7, c7, e7, g⟩ := gSlice_elim g
  obtain ⟨a8, l8, c8, e8, g⟩ := gSlice_elim g
  obtain ⟨a23, l23, c23, e23, g⟩ := gSlice_elim g
  obtain ⟨x24, e24, g⟩ := gInt_elim g
  obtain ⟨x25, e25, g⟩ := gInt_elim g
  exact g
theorem B7.ok (R : Rt) (fr : Fr) (h : Hp) (g : L5.g (fun a5 l5 c5 a6 l6 c6 a7 l7 c7 a8 l8 c8 a23 l23 c23 x24 x25 h => ∃ n, L5.t R n a5 l5 c5 a6 l6 c6 a7 l7 c7 a8 l8 c8 a23 l23 c23 x24 x25 h) fr h) : den prog E (cAt C [true, true, true, false, true]) (Ex.then (D3.g R) (retQ E [.tmp 2, .tmp 3, .tmp 4] R)) fr h :=
  den_block (by kernel_rfl) (L5.ok R fr h g)
def D4.t (R : Rt) (x0 : Int) (a5 : Option Addr) (l5 : Nat) (c5 : Nat) (a6 : Option Addr) (l6 : Nat) (c6 : Nat) (a7 : Option Addr) (l7 : Nat) (c7 : Nat) (a8 : Option Addr) (l8 : Nat) (c8 : Nat) (h : Hp) : Prop :=
  letK (IntKind.i64.wrap (x0 + 1)) fun n1 =>
  HC nearpi_first.id #[.int .i64 n1] h fun v2 h3 =>
  gSlice v2 fun a_4 l_4 c_4 =>
  (∃ n, L5.t R n a5 l5 c5 a6 l6 c6 a7 l7 c7 a8 l8 c8 a_4 l_4 c_4 (((l_4 : Nat) : Int)) 0 h3)
def D4.g (R : Rt) (fr : Fr) (h : Hp) : Prop := gInt .i64 (fr 0) fun x0 => gSlice (fr 5) fun a5 l5 c5 => gSlice (fr 6) fun a6 l6 c6 => gSlice (fr 7) fun a7 l7 c7 => gSlice (fr 8) fun a8 l8 c8 => D4.t R x0 a5 l5 c5 a6 l6 c6 a7 l7 c7 a8 l8 c8 h
theorem D4.ok (R : Rt) (fr : Fr) (h : Hp) (g : D4.g R fr h) : den prog E (cAt C [true, true, true, false]) (Ex.then (D3.g R) (retQ E [.tmp 2, .tmp 3, .tmp 4] R)) fr h := by
  obtain ⟨x0, e0, g⟩ := gInt_elim g
  obtain ⟨a5, l5, c5, e5, g⟩ := gSlice_elim g
  obtain ⟨a6, l6, c6, e6, g⟩ := gSlice_elim g
  obtain ⟨a7, l7, c7, e7, g⟩ := gSlice_elim g
  obtain ⟨a8, l8, c8, e8, g⟩ := gSlice_elim g
  exact den_cut 1 (r := (cAt C [true, true, true, false, true])) (by kernel_rfl) (B7.ok R) (den_enter [(0, .int .i64 x0), (5, .slice a5 l5 c5), (6, .slice a6 l6 c6), (7, .slice a7 l7 c7), (8, .slice a8 l8 c8)] ⟨e0, e5, e6, e7, e8, trivial⟩ (by kernel_rfl) g)
theorem W8.ok (R : Rt) (fr : Fr) (h : Hp) (g : D4.g R fr h) : den prog E (cAt C [true, true, true]) (retQ E [.tmp 2, .tmp 3, .tmp 4] R) fr h :=
  den_then (by kernel_rfl) (D3.ok R) (D4.ok R fr h g)
def D2.t (R : Rt) (x0 : Int) (h : Hp) : Prop :=
  D4.t R x0 none 0 0 none 0 0 none 0 0 none 0 0 h
def D2.g (R : Rt) (fr : Fr) (h : Hp) : Prop := gInt .i64 (fr 0) fun x0 => D2.t R x0 h
theorem D2.ok (R : Rt) (fr : Fr) (h : Hp) (g : D2.g R fr h) : den prog E (cAt C [true, true]) (retQ E [.tmp 2, .tmp 3, .tmp 4] R) fr h := by
  obtain ⟨x0, e0, g⟩ := gInt_elim g
  exact den_cut 1 (r := (cAt C [true, true, true])) (by kernel_rfl) (W8.ok R) (den_enter [(0, .int .i64 x0)] ⟨e0, trivial⟩ (by kernel_rfl) g)
def D1.t (R : Rt) (x0 : Int) (h : Hp) : Prop :=
  cond (decide (x0 < 0)) (R (.tuple #[.slice none 0 0, .slice none 0 0, .int .i64 1]) h) (cond (decide (x0 ≥ 1000)) (R (.tuple #[.slice none 0 0, .slice none 0 0, .int .i64 1]) h) (D2.t R x0 h))
def D1.g (R : Rt) (fr : Fr) (h : Hp) : Prop := gInt .i64 (fr 0) fun x0 => D1.t R x0 h
theorem D1.ok (R : Rt) (fr : Fr) (h : Hp) (g : D1.g R fr h) : den prog E C (retQ E [.tmp 2, .tmp 3, .tmp 4] R) fr h := by
  obtain ⟨x0, e0, g⟩ := gInt_elim g
  exact den_cut 2 (r := (cAt C [true, true])) (by kernel_rfl) (D2.ok R) (den_enter [(0, .int .i64 x0)] ⟨e0, trivial⟩ (by kernel_rfl) g)
def t (x0 : Int) (h : Hp) (R : Rt) : Prop := D1.t R x0 h
theorem ok {x0 : Int} {h : Hp} {R : Rt} (g : t x0 h R) : HC id #[.int .i64 x0] h R :=
  calls_of_den' envOk (c := C) (rs := [.tmp 2, .tmp 3, .tmp 4]) Try.func6 (by kernel_rfl) (by kernel_rfl) (by kernel_rfl) (args := [.int .i64 x0]) (by kernel_rfl) (D1.ok R _ h (gInt_intro rfl (g)))
end nearpi_Convergent

namespace gnomonref01_DocForm
noncomputable def C : Code := bodyOf Try.f7
def D1.t (R : Rt) (a0 : Option Addr) (l0 : Nat) (c0 : Nat) (h : Hp) : Prop :=
  cond (decide ((((l0 : Nat) : Int)) ≤ 8192)) (cond ((((l0 : Nat) : Int)) == 0) (R (.bool true) h) (letK (IntKind.i64.wrap ((((l0 : Nat) : Int)) - 1)) fun n1 =>
  idxK a0 l0 n1 1 fun q2 =>
  ldK h q2 fun v3 =>
  gInt .u64 v3 fun x_4 =>
  R (.bool (x_4 != 0)) h)) (R (.bool false) h)
def D1.g (R : Rt) (fr : Fr) (h : Hp) : Prop := gSlice (fr 0) fun a0 l0 c0 => D1.t R a0 l0 c0 h
theorem D1.ok (R : Rt) (fr : Fr) (h : Hp) (g : D1.g R fr h) : den prog E C (retQ E [.tmp 2] R) fr h := by
  obtain ⟨a0, l0, c0, e0, g⟩ := gSlice_elim g
  exact den_enter [(0, .slice a0 l0 c0)] ⟨e0, trivial⟩ (by kernel_rfl) g
def t (a0 : Option Addr) (l0 : Nat) (c0 : Nat) (h : Hp) (R : Rt) : Prop := D1.t R a0 l0 c0 h
theorem ok {a0 : Option Addr} {l0 : Nat} {c0 : Nat} {h : Hp} {R : Rt} (g : t a0 l0 c0 h R) : HC id #[.slice a0 l0 c0] h R :=
  calls_of_den' envOk (c := C) (rs := [.tmp 2]) Try.func7 (by kernel_rfl) (by kernel_rfl) (by kernel_rfl) (args := [.slice a0 l0 c0]) (by kernel_rfl) (D1.ok R _ h (gSlice_intro rfl (g)))
end gnomonref01_DocForm

namespace gnomonref01_From
noncomputable def C : Code := bodyOf Try.f8
def D2.t (R : Rt) (a3 : Option Addr) (l3 : Nat) (c3 : Nat) (h : Hp) : Prop :=
  HC gnomonref01_Norm.id #[.slice a3 l3 c3] h fun v4 h5 =>
  gSlice v4 fun a_6 l_6 c_6 =>
  R (.slice a_6 l_6 c_6) h5
def D2.g (R : Rt) (fr : Fr) (h : Hp) : Prop := gSlice (fr 3) fun a3 l3 c3 => D2.t R a3 l3 c3 h
theorem D2.ok (R : Rt) (fr : Fr) (h : Hp) (g : D2.g R fr h) : den prog E (cAt C [true, true, true]) (retQ E [.tmp 2] R) fr h := by
  obtain ⟨a3, l3, c3, e3, g⟩ := gSlice_elim g
  exact den_enter [(3, .slice a3 l3 c3)] ⟨e3, trivial⟩ (by kernel_rfl) g
def L4.g (N : Option Addr → Nat → Nat → Option Addr → Nat → Nat → Int → Hp → Prop) (fr : Fr) (h : Hp) : Prop := gSlice (fr 0) fun a0 l0 c0 => gSlice (fr 3) fun a3 l3 c3 => gInt .i64 (fr 4) fun x4 => N a0 l0 c0 a3 l3 c3 x4 h
def D5.t (R : Rt) (N4 : Option Addr → Nat → Nat → Option Addr → Nat → Nat → Int → Hp → Prop) (a0 : Option Addr) (l0 : Nat) (c0 : Nat) (a3 : Option Addr) (l3 : Nat) (c3 : Nat) (x4 : Int) (h : Hp) : Prop :=
  cond (decide (x4 < (((l0 : Nat) : Int)))) (idxK a0 l0 x4 1 fun q7 =>
  ldK h q7 fun v8 =>
  gInt .u64 v8 fun x_9 =>
  letK (andI .u64 x_9 4294967295) fun n10 =>
  letK (IntKind.u32.wrap n10) fun n11 =>
  idxK a0 l0 x4 1 fun q12 =>
  ldK h q12 fun v13 =>
  gInt .u64 v13 fun x_14 =>
  0 ≤ (32 : Int) ∧ letK (shrI .u64 x_14 32) fun n15 =>
  letK (IntKind.u32.wrap n15) fun n16 =>
  boxK h 56 [.int .u32 n11, .int .u32 n16] fun q17 h18 =>
  apK h18 56 T56 a3 l3 c3 (.slice (some q17) 2 2) fun a_19 l_19 c_19 h19 =>
  letK (IntKind.i64.wrap (x4 + 1)) fun n20 =>
  N4 a0 l0 c0 a_19 l_19 c_19 n20 h19) (D2.t R a3 l3 c3 h)
def D5.g (R : Rt) (N4 : Option Addr → Nat → Nat → Option Addr → Nat → Nat → Int → Hp → Prop) (fr : Fr) (h : Hp) : Prop := gSlice (fr 0) fun a0 l0 c0 => gSlice (fr 3) fun a3 l3 c3 => gInt .i64 (fr 4) fun x4 => D5.t R N4 a0 l0 c0 a3 l3 c3 x4 h
theorem D5.ok (R : Rt) (N4 : Option Addr → Nat → Nat → Option Addr → Nat → Nat → Int → Hp → Prop) (fr : Fr) (h : Hp) (g : D5.g R N4 fr h) : den prog E (cAt C [true, true, false, true, false, false]) (Ex.then (L4.g N4) (Ex.inBlock 0 (Ex.then (D2.g R) (retQ E [.tmp 2] R)))) fr h := by
  obtain ⟨a0, l0, c0, e0, g⟩ := gSlice_elim g
  obtain ⟨a3, l3, c3, e3, g⟩ := gSlice_elim g
  obtain ⟨x4, e4, g⟩ := gInt_elim g
  exact den_enter [(0, .slice a0 l0 c0), (3, .slice a3 l3 c3), (4, .int .i64 x4)] ⟨e0, e3, e4, trivial⟩ (by kernel_rfl) g
def L4.t (R : Rt) : Nat → Option Addr → Nat → Nat → Option Addr → Nat → Nat → Int → Hp → Prop
  | 0 => fun _ _ _ _ _ _ _ _ => False
  | n + 1 => fun a0 l0 c0 a3 l3 c3 x4 h => D5.t R (L4.t R n) a0 l0 c0 a3 l3 c3 x4 h
theorem L4.ok (R : Rt) (fr : Fr) (h : Hp) (g : L4.g (fun a0 l0 c0 a3 l3 c3 x4 h => ∃ n, L4.t R n a0 l0 c0 a3 l3 c3 x4 h) fr h) : den prog E (cAt C [true, true, false, true, false]) (Ex.inBlock 0 (Ex.then (D2.g R) (retQ E [.tmp 2] R))) fr h := by
  obtain ⟨a0, l0, c0, e0, g⟩ := gSlice_elim g
  obtain ⟨a3, l3, c3, e3, g⟩ := gSlice_elim g
  obtain ⟨x4, e4, g⟩ := gInt_elim g
  obtain ⟨n, g⟩ := g
  refine loop_ok (fun n => L4.g (L4.t R n)) (b := (cAt C [true, true, false, true, false, false])) (by kernel_rfl) (fun fr h g => ?_) (fun n => D5.ok R (L4.t R n)) n fr h (gSlice_intro e0 (gSlice_intro e3 (gInt_intro e4 (g))))
  obtain ⟨a0, l0, c0, e0, g⟩ := gSlice_elim g
  obtain ⟨a3, l3, c3, e3, g⟩ := gSlice_elim g
  obtain ⟨x4, e4, g⟩ := gInt_elim g
  exact g
theorem B6.ok (R : Rt) (fr : Fr) (h : Hp) (g : L4.g (fun a0 l0 c0 a3 l3 c3 x4 h => ∃ n, L4.t R n a0 l0 c0 a3 l3 c3 x4 h) fr h) : den prog E (cAt C [true, true, false, true]) (Ex.then (D2.g R) (retQ E [.tmp 2] R)) fr h :=
  den_block (by kernel_rfl) (L4.ok R fr h g)
def D3.t (R : Rt) (a0 : Option Addr) (l0 : Nat) (c0 : Nat) (a3 : Option Addr) (l3 : Nat) (c3 : Nat) (h : Hp) : Prop :=
  (∃ n, L4.t R n a0 l0 c0 a3 l3 c3 0 h)
def D3.g (R : Rt) (fr : Fr) (h : Hp) : Prop := gSlice (fr 0) fun a0 l0 c0 => gSlice (fr 3) fun a3 l3 c3 => D3.t R a0 l0 c0 a3 l3 c3 h
theorem D3.ok (R : Rt) (fr : Fr) (h : Hp) (g : D3.g R fr h) : den prog E (cAt C [true, true, false]) (Ex.then (D2.g R) (retQ E [.tmp 2] R)) fr h := by
  obtain ⟨a0, l0, c0, e0, g⟩ := gSlice_elim g
  obtain ⟨a3, l3, c3, e3, g⟩ := gSlice_elim g
  exact den_cut 1 (r := (cAt C [true, true, false, true])) (by kernel_rfl) (B6.ok R) (den_enter [(0, .slice a0 l0 c0), (3, .slice a3 l3 c3)] ⟨e0, e3, trivial⟩ (by kernel_rfl) g)
theorem W7.ok (R : Rt) (fr : Fr) (h : Hp) (g : D3.g R fr h) : den prog E (cAt C [true, true]) (retQ E [.tmp 2] R) fr h :=
  den_then (by kernel_rfl) (D2.ok R) (D3.ok R fr h g)
def D1.t (R : Rt) (a0 : Option Addr) (l0 : Nat) (c0 : Nat) (h : Hp) : Prop :=
  letK (IntKind.i64.wrap (2 * (((l0 : Nat) : Int)))) fun n1 =>
  mkK h 56 T56 0 n1 fun q2 h3 =>
  D3.t R a0 l0 c0 (some q2) ((0 : Int).toNat) n1.toNat h3
def D1.g (R : Rt) (fr : Fr) (h : Hp) : Prop := gSlice (fr 0) fun a0 l0 c0 => D1.t R a0 l0 c0 h
theorem D1.ok (R : Rt) (fr : Fr) (h : Hp) (g : D1.g R fr h) : den prog E C (retQ E [.tmp 2] R) fr h := by
  obtain ⟨a0, l0, c0, e0, g⟩ := gSlice_elim g
  exact den_cut 2 (r := (cAt C [true, true])) (by kernel_rfl) (W7.ok R) (den_enter [(0, .slice a0 l0 c0)] ⟨e0, trivial⟩ (by kernel_rfl) g)
def t (a0 : Option Addr) (l0 : Nat) (c0 : Nat) (h : Hp) (R : Rt) : Prop := D1.t R a0 l0 c0 h
theorem ok {a0 : Option Addr} {l0 : Nat} {c0 : Nat} {h : Hp} {R : Rt} (g : t a0 l0 c0 h R) : HC id #[.slice a0 l0 c0] h R :=
  calls_of_den' envOk (c := C) (rs := [.tmp 2]) Try.func8 (by kernel_rfl) (by kernel_rfl) (by kernel_rfl) (args := [.slice a0 l0 c0]) (by kernel_rfl) (D1.ok R _ h (gSlice_intro rfl (g)))
end gnomonref01_From

namespace gnomonref04_Sub
noncomputable def C : Code := bodyOf Try.f9
def D1.t (R : Rt) (b0_0 : Bool) (a0_1 : Option Addr) (l0_1 : Nat) (c0_1 : Nat) (b1_0 : Bool) (a1_1 : Option Addr) (l1_1 : Nat) (c1_1 : Nat) (h : Hp) : Prop :=
  boxK h 31 [.bool b0_0, .slice a0_1 l0_1 c0_1] fun q1 h2 =>
  boxK h2 31 [.bool b1_0, .slice a1_1 l1_1 c1_1] fun q3 h4 =>
  boxK h4 31 T31.zs fun q5 h6 =>
  q1.block < h6.size ∧ ldK h6 (q1.add 0) fun v7 =>
  gBool v7 fun b_8 =>
  ldK h6 (q1.add 1) fun v9 =>
  gSlice v9 fun a_10 l_10 c_10 =>
  q3.block < h6.size ∧ ldK h6 (q3.add 0) fun v11 =>
  gBool v11 fun b_12 =>
  ldK h6 (q3.add 1) fun v13 =>
  gSlice v13 fun a_14 l_14 c_14 =>
  HC gnomonref04_Flip.id #[.agg #[.bool b_12, .slice a_14 l_14 c_14]] h6 fun v15 h16 =>
  gAgg v15 fun y17 =>
  uncons y17 fun v18 y18 =>
  gBool v18 fun b_19 =>
  uncons y18 fun v20 y20 =>
  gSlice v20 fun a_21 l_21 c_21 =>
  unnil y20 <| (Pre h6.size h6 h16) ∧ HC gnomonref04_Add.id #[.agg #[.bool b_8, .slice a_10 l_10 c_10], .agg #[.bool b_19, .slice a_21 l_21 c_21]] h16 fun v22 h23 =>
  gAgg v22 fun y24 =>
  uncons y24 fun v25 y25 =>
  gBool v25 fun b_26 =>
  uncons y25 fun v27 y27 =>
  gSlice v27 fun a_28 l_28 c_28 =>
  unnil y27 <| (Pre h6.size h16 h23) ∧ stK h23 (q5.add 0) (.bool b_26) fun h29 =>
  stK h29 (q5.add 1) (.slice a_28 l_28 c_28) fun h30 =>
  ldK h30 (q5.add 0) fun v31 =>
  gBool v31 fun b_32 =>
  ldK h30 (q5.add 1) fun v33 =>
  gSlice v33 fun a_34 l_34 c_34 =>
  R (.agg #[.bool b_32, .slice a_34 l_34 c_34]) h30
def D1.g (R : Rt) (fr : Fr) (h : Hp) : Prop := gAgg (fr 0) fun z0 => uncons z0 fun w0_0 z0_0 => gBool w0_0 fun b0_0 => uncons z0_0 fun w0_1 z0_1 => gSlice w0_1 fun a0_1 l0_1 c0_1 => unnil z0_1 <| gAgg (fr 1) fun z1 => uncons z1 fun w1_0 z1_0 => gBool w1_0 fun b1_0 => uncons z1_0 fun w1_1 z1_1 => gSlice w1_1 fun a1_1 l1_1 c1_1 => unnil z1_1 <| D1.t R b0_0 a0_1 l0_1 c0_1 b1_0 a1_1 l1_1 c1_1 h
theorem D1.ok (R : Rt) (fr : Fr) (h : Hp) (g : D1.g R fr h) : den prog E C (retQ E [.cell 4 31] R) fr h := by
  obtain ⟨z0, e0, g0_0⟩ := gAgg_elim' g
  obtain ⟨w0_0, z0_0, rfl, g0_0x⟩ := uncons_elim g0_0
  obtain ⟨b0_0, rfl, g0_1⟩ := gBool_elim g0_0x
  obtain ⟨w0_1, z0_1, rfl, g0_1x⟩ := uncons_elim g0_1
  obtain ⟨a0_1, l0_1, c0_1, rfl, g0_2⟩ := gSlice_elim g0_1x
  obtain ⟨rfl, g⟩ := unnil_elim g0_2
  obtain ⟨z1, e1, g1_0⟩ := gAgg_elim' g
  obtain ⟨w1_0, z1_0, rfl, g1_0x⟩ := uncons_elim g1_0
  obtain ⟨b1_0, rfl, g1_1⟩ := gBool_elim g1_0x
  obtain ⟨w1_1, z1_1, rfl, g1_1x⟩ := uncons_elim g1_1
  obtain ⟨a1_1, l1_1, c1_1, rfl, g1_2⟩ := gSlice_elim g1_1x
  obtain ⟨rfl, g⟩ := unnil_elim g1_2
  exact den_enter [(0, .agg #[.bool b0_0, .slice a0_1 l0_1 c0_1]), (1, .agg #[.bool b1_0, .slice a1_1 l1_1 c1_1])] ⟨e0, e1, trivial⟩ (by kernel_rfl) g
def t (b0_0 : Bool) (a0_1 : Option Addr) (l0_1 : Nat) (c0_1 : Nat) (b1_0 : Bool) (a1_1 : Option Addr) (l1_1 : Nat) (c1_1 : Nat) (h : Hp) (R : Rt) : Prop := D1.t R b0_0 a0_1 l0_1 c0_1 b1_0 a1_1 l1_1 c1_1 h
theorem ok {b0_0 : Bool} {a0_1 : Option Addr} {l0_1 : Nat} {c0_1 : Nat} {b1_0 : Bool} {a1_1 : Option Addr} {l1_1 : Nat} {c1_1 : Nat} {h : Hp} {R : Rt} (g : t b0_0 a0_1 l0_1 c0_1 b1_0 a1_1 l1_1 c1_1 h R) : HC id #[.agg #[.bool b0_0, .slice a0_1 l0_1 c0_1], .agg #[.bool b1_0, .slice a1_1 l1_1 c1_1]] h R :=
  calls_of_den' envOk (c := C) (rs := [.cell 4 31]) Try.func9 (by kernel_rfl) (by kernel_rfl) (by kernel_rfl) (args := [.agg #[.bool b0_0, .slice a0_1 l0_1 c0_1], .agg #[.bool b1_0, .slice a1_1 l1_1 c1_1]]) (by kernel_rfl) (D1.ok R _ h (gAgg_intro rfl (uncons_intro (gBool_intro rfl (uncons_intro (gSlice_intro rfl (unnil_intro (gAgg_intro rfl (uncons_intro (gBool_intro rfl (uncons_intro (gSlice_intro rfl (unnil_intro (g))))))))))))))
end gnomonref04_Sub

namespace gnomonref04_Mk
noncomputable def C : Code := bodyOf Try.f10
def D1.t (R : Rt) (b0 : Bool) (a1 : Option Addr) (l1 : Nat) (c1 : Nat) (h : Hp) : Prop :=
  boxK h 31 T31.zs fun q1 h2 =>
  HC gnomonref01_Norm.id #[.slice a1 l1 c1] h2 fun v3 h4 =>
  gSlice v3 fun a_5 l_5 c_5 =>
  cond b0 (stK h4 (q1.add 0) (.bool (decide ((((l_5 : Nat) : Int)) > 0))) fun h6 =>
  stK h6 (q1.add 1) (.slice a_5 l_5 c_5) fun h7 =>
  ldK h7 (q1.add 0) fun v8 =>
  gBool v8 fun b_9 =>
  ldK h7 (q1.add 1) fun v10 =>
  gSlice v10 fun a_11 l_11 c_11 =>
  R (.agg #[.bool b_9, .slice a_11 l_11 c_11]) h7) (stK h4 (q1.add 0) (.bool false) fun h12 =>
  stK h12 (q1.add 1) (.slice a_5 l_5 c_5) fun h13 =>
  ldK h13 (q1.add 0) fun v14 =>
  gBool v14 fun b_15 =>
  ldK h13 (q1.add 1) fun v16 =>
  gSlice v16 fun a_17 l_17 c_17 =>
  R (.agg #[.bool b_15, .slice a_17 l_17 c_17]) h13)
def D1.g (R : Rt) (fr : Fr) (h : Hp) : Prop := gBool (fr 0) fun b0 => gSlice (fr 1) fun a1 l1 c1 => D1.t R b0 a1 l1 c1 h
theorem D1.ok (R : Rt) (fr : Fr) (h : Hp) (g : D1.g R fr h) : den prog E C (retQ E [.cell 4 31] R) fr h := by
  obtain ⟨b0, e0, g⟩ := gBool_elim g
  obtain ⟨a1, l1, c1, e1, g⟩ := gSlice_elim g
  exact den_enter [(0, .bool b0), (1, .slice a1 l1 c1)] ⟨e0, e1, trivial⟩ (by kernel_rfl) g
def t (b0 : Bool) (a1 : Option Addr) (l1 : Nat) (c1 : Nat) (h : Hp) (R : Rt) : Prop := D1.t R b0 a1 l1 c1 h
theorem ok {b0 : Bool} {a1 : Option Addr} {l1 : Nat} {c1 : Nat} {h : Hp} {R : Rt} (g : t b0 a1 l1 c1 h R) : HC id #[.bool b0, .slice a1 l1 c1] h R :=
  calls_of_den' envOk (c := C) (rs := [.cell 4 31]) Try.func10 (by kernel_rfl) (by kernel_rfl) (by kernel_rfl) (args := [.bool b0, .slice a1 l1 c1]) (by kernel_rfl) (D1.ok R _ h (gBool_intro rfl (gSlice_intro rfl (g))))
end gnomonref04_Mk

namespace gnomonref01_Mul
noncomputable def C : Code := bodyOf Try.f11
def D2.t (R : Rt) (a5 : Option Addr) (l5 : Nat) (c5 : Nat) (h : Hp) : Prop :=
  HC gnomonref01_Norm.id #[.slice a5 l5 c5] h fun v4 h5 =>
  gSlice v4 fun a_6 l_6 c_6 =>
  R (.slice a_6 l_6 c_6) h5
def D2.g (R : Rt) (fr : Fr) (h : Hp) : Prop := gSlice (fr 5) fun a5 l5 c5 => D2.t R a5 l5 c5 h
theorem D2.ok (R : Rt) (fr : Fr) (h : Hp) (g : D2.g R fr h) : den prog E (cAt C [true, true, true]) (retQ E [.tmp 4] R) fr h := by
  obtain ⟨a5, l5, c5, e5, g⟩ := gSlice_elim g
  exact den_enter [(5, .slice a5 l5 c5)] ⟨e5, trivial⟩ (by kernel_rfl) g
def L4.g (N : Option Addr → Nat → Nat → Option Addr → Nat → Nat → Option Addr → Nat → Nat → Int → Hp → Prop) (fr : Fr) (h : Hp) : Prop := gSlice (fr 0) fun a0 l0 c0 => gSlice (fr 1) fun a1 l1 c1 => gSlice (fr 5) fun a5 l5 c5 => gInt .i64 (fr 6) fun x6 => N a0 l0 c0 a1 l1 c1 a5 l5 c5 x6 h
def D6.t (R : Rt) (N4 : Option Addr → Nat → Nat → Option Addr → Nat → Nat → Option Addr → Nat → Nat → Int → Hp → Prop) (a0 : Option Addr) (l0 : Nat) (c0 : Nat) (a1 : Option Addr) (l1 : Nat) (c1 : Nat) (a5 : Option Addr) (l5 : Nat) (c5 : Nat) (x6 : Int) (h : Hp) : Prop :=
  letK (IntKind.i64.wrap (x6 + 1)) fun n7 => N4 a0 l0 c0 a1 l1 c1 a5 l5 c5 n7 h
def D6.g (R : Rt) (N4 : Option Addr → Nat → Nat → Option Addr → Nat → Nat → Option Addr → Nat → Nat → Int → Hp → Prop) (fr : Fr) (h : Hp) : Prop := gSlice (fr 0) fun a0 l0 c0 => gSlice (fr 1) fun a1 l1 c1 => gSlice (fr 5) fun a5 l5 c5 => gInt .i64 (fr 6) fun x6 => D6.t R N4 a0 l0 c0 a1 l1 c1 a5 l5 c5 x6 h
theorem D6.ok (R : Rt) (N4 : Option Addr → Nat → Nat → Option Addr → Nat → Nat → Option Addr → Nat → Nat → Int → Hp → Prop) (fr : Fr) (h : Hp) (g : D6.g R N4 fr h) : den prog E (cAt C [true, true, false, true, false, false, true, true]) (Ex.then (L4.g N4) (Ex.inBlock 0 (Ex.then (D2.g R) (retQ E [.tmp 4] R)))) fr h := by
  obtain ⟨a0, l0, c0, e0, g⟩ := gSlice_elim g
  obtain ⟨a1, l1, c1, e1, g⟩ := gSlice_elim g
  obtain ⟨a5, l5, c5, e5, g⟩ := gSlice_elim g
  obtain ⟨x6, e6, g⟩ := gInt_elim g
  exact den_enter [(0, .slice a0 l0 c0), (1, .slice a1 l1 c1), (5, .slice a5 l5 c5), (6, .int .i64 x6)] ⟨e0, e1, e5, e6, trivial⟩ (by kernel_rfl) g
def D8.t (R : Rt) (N4 : Option Addr → Nat → Nat → Option Addr → Nat → Nat → Option Addr → Nat → Nat → Int → Hp → Prop) (a0 : Option Addr) (l0 : Nat) (c0 : Nat) (a1 : Option Addr) (l1 : Nat) (c1 : Nat) (a5 : Option Addr) (l5 : Nat) (c5 : Nat) (x6 : Int) (x7 : Int) (h : Hp) : Prop :=
  letK (IntKind.i64.wrap (x6 + (((l1 : Nat) : Int)))) fun n12 =>
  letK (IntKind.u32.wrap x7) fun n13 =>
  idxK a5 l5 n12 1 fun q14 =>
  stK h q14 (.int .u32 n13) fun h15 =>
  D6.t R N4 a0 l0 c0 a1 l1 c1 a5 l5 c5 x6 h15
def D8.g (R : Rt) (N4 : Option Addr → Nat → Nat → Option Addr → Nat → Nat → Option Addr → Nat → Nat → Int → Hp → Prop) (fr : Fr) (h : Hp) : Prop := gSlice (fr 0) fun a0 l0 c0 => gSlice (fr 1) fun a1 l1 c1 => gSlice (fr 5) fun a5 l5 c5 => gInt .i64 (fr 6) fun x6 => gInt .u64 (fr 7) fun x7 => D8.t R N4 a0 l0 c0 a1 l1 c1 a5 l5 c5 x6 x7 h
theorem D8.ok (R : Rt) (N4 : Option Addr → Nat → Nat → Option Addr → Nat → Nat → Option Addr → Nat → Nat → Int → Hp → Prop) (fr : Fr) (h : Hp) (g : D8.g R N4 fr h) : den prog E (cAt C [true, true, false, true, false, false, true, false, false, true, true, true]) (Ex.inBlock 1 (Ex.then (D6.g R N4) (Ex.then (L4.g N4) (Ex.inBlock 0 (Ex.then (D2.g R) (retQ E [.tmp 4] R)))))) fr h := by
  obtain ⟨a0, l0, c0, e0, g⟩ := gSlice_elim g
  obtain ⟨a1, l1, c1, e1, g⟩ := gSlice_elim g
  obtain ⟨a5, l5, c5, e5, g⟩ := gSlice_elim g
  obtain ⟨x6, e6, g⟩ := gInt_elim g
  obtain ⟨x7, e7, g⟩ := gInt_elim g
  exact den_enter [(0, .slice a0 l0 c0), (1, .slice a1 l1 c1), (5, .slice a5 l5 c5), (6, .int .i64 x6), (7, .int .u64 x7)] ⟨e0, e1, e5, e6, e7, trivial⟩ (by kernel_rfl) g
def L10.g (N : Option Addr → Nat → Nat → Option Addr → Nat → Nat → Option Addr → Nat → Nat → Int → Int → Int → Int → Hp → Prop) (fr : Fr) (h : Hp) : Prop := gSlice (fr 0) fun a0 l0 c0 => gSlice (fr 1) fun a1 l1 c1 => gSlice (fr 5) fun a5 l5 c5 => gInt .i64 (fr 6) fun x6 => gInt .u64 (fr 7) fun x7 => gInt .u64 (fr 8) fun x8 => gInt .i64 (fr 9) fun x9 => N a0 l0 c0 a1 l1 c1 a5 l5 c5 x6 x7 x8 x9 h
def D11.t (R : Rt) (N4 : Option Addr → Nat → Nat → Option Addr → Nat → Nat → Option Addr → Nat → Nat → Int → Hp → Prop) (N10 : Option Addr → Nat → Nat → Option Addr → Nat → Nat → Option Addr → Nat → Nat → Int → Int → Int → Int → Hp → Prop) (a0 : Option Addr) (l0 : Nat) (c0 : Nat) (a1 : Option Addr) (l1 : Nat) (c1 : Nat) (a5 : Option Addr) (l5 : Nat) (c5 : Nat) (x6 : Int) (x7 : Int) (x8 : Int) (x9 : Int) (h : Hp) : Prop :=
  cond (decide (x9 < (((l1 : Nat) : Int)))) (letK (IntKind.i64.wrap (x6 + x9)) fun n16 =>
  idxK a5 l5 n16 1 fun q17 =>
  ldK h q17 fun v18 =>
  gInt .u32 v18 fun x_19 =>
  letK (IntKind.u64.wrap x_19) fun n20 =>
  idxK a1 l1 x9 1 fun q21 =>
  ldK h q21 fun v22 =>
  gInt .u32 v22 fun x_23 =>
  letK (IntKind.u64.wrap x_23) fun n24 =>
  letK (IntKind.u64.wrap (x8 * n24)) fun n25 =>
  letK (IntKind.u64.wrap (n20 + n25)) fun n26 =>
  letK (IntKind.u64.wrap (x7 + n26)) fun n27 =>
  letK (IntKind.i64.wrap (x6 + x9)) fun n28 =>
  letK (andI .u64 n27 4294967295) fun n29 =>
  letK (IntKind.u32.wrap n29) fun n30 =>
  idxK a5 l5 n28 1 fun q31 =>
  stK h q31 (.int .u32 n30) fun h32 =>
  0 ≤ (32 : Int) ∧ letK (shrI .u64 n27 32) fun n33 =>
  letK (IntKind.i64.wrap (x9 + 1)) fun n34 =>
  N10 a0 l0 c0 a1 l1 c1 a5 l5 c5 x6 n33 x8 n34 h32) (D8.t R N4 a0 l0 c0 a1 l1 c1 a5 l5 c5 x6 x7 h)
def D11.g (R : Rt) (N4 : Option Addr → Nat → Nat → Option Addr → Nat → Nat → Option Addr → Nat → Nat → Int → Hp → Prop) (N10 : Option Addr → Nat → Nat → Option Addr → Nat → Nat → Option Addr → Nat → Nat → Int → Int → Int → Int → Hp → Prop) (fr : Fr) (h : Hp) : Prop := gSlice (fr 0) fun a0 l0 c0 => gSlice (fr 1) fun a1 l1 c1 => gSlice (fr 5) fun a5 l5 c5 => gInt .i64 (fr 6) fun x6 => gInt .u64 (fr 7) fun x7 => gInt .u64 (fr 8) fun x8 => gInt .i64 (fr 9) fun x9 => D11.t R N4 N10 a0 l0 c0 a1 l1 c1 a5 l5 c5 x6 x7 x8 x9 h
theorem D11.ok (R : Rt) (N4 : Option Addr → Nat → Nat → Option Addr → Nat → Nat → Option Addr → Nat → Nat → Int → Hp → Prop) (N10 : Option Addr → Nat → Nat → Option Addr → Nat → Nat → Option Addr → Nat → Nat → Int → Int → Int → Int → Hp → Prop) (fr : Fr) (h : Hp) (g : D11.g R N4 N10 fr h) : den prog E (cAt C [true, true, false, true, false, false, true, false, false, true, true, false, true, false, false]) (Ex.then (L10.g N10) (Ex.inBlock 2 (Ex.then (D8.g R N4) (Ex.inBlock 1 (Ex.then (D6.g R N4) (Ex.then (L4.g N4) (Ex.inBlock 0 (Ex.then (D2.g R) (retQ E [.tmp 4] R))))))))) fr h := by
  obtain ⟨a0, l0, c0, e0, g⟩ := gSlice_elim g
  obtain ⟨a1, l1, c1, e1, g⟩ := gSlice_elim g
  obtain ⟨a5, l5, c5, e5, g⟩ := gSlice_elim g
  obtain ⟨x6, e6, g⟩ := gInt_elim g
  obtain ⟨x7, e7, g⟩ := gInt_elim g
  obtain ⟨x8, e8, g⟩ := gInt_elim g
  obtain ⟨x9, e9, g⟩ := gInt_elim g
  exact den_enter [(0, .slice a0 l0 c0), (1, .slice a1 l1 c1), (5, .slice a5 l5 c5), (6, .int .i64 x6), (7, .int .u64 x7), (8, .int .u64 x8), (9, .int .i64 x9)] ⟨e0, e1, e5, e6, e7, e8, e9, trivial⟩ (by kernel_rfl) g
def L10.t (R : Rt) (N4 : Option Addr → Nat → Nat → Option Addr → Nat → Nat → Option Addr → Nat → Nat → Int → Hp → Prop) : Nat → Option Addr → Nat → Nat → Option Addr → Nat → Nat → Option Addr → Nat → Nat → Int → Int → Int → Int → Hp → Prop
  | 0 => fun _ _ _ _ _ _ _ _ _ _ _ _ _ _ => False
  | n + 1 => fun a0 l0 c0 a1 l1 c1 a5 l5 c5 x6 x7 x8 x9 h => D11.t R N4 (L10.t R N4 n) a0 l0 c0 a1 l1 c1 a5 l5 c5 x6 x7 x8 x9 h
theorem L10.ok (R : Rt) (N4 : Option Addr → Nat → Nat → Option Addr → Nat → Nat → Option Addr → Nat → Nat → Int → Hp → Prop) (fr : Fr) (h : Hp) (g : L10.g (fun a0 l0 c0 a1 l1 c1 a5 l5 c5 x6 x7 x8 x9 h => ∃ n, L10.t R N4 n a0 l0 c0 a1 l1 c1 a5 l5 c5 x6 x7 x8 x9 h) fr h) : den prog E (cAt C [true, true, false, true, false, false, true, false, false, true, true, false, true, false]) (Ex.inBlock 2 (Ex.then (D8.g R N4) (Ex.inBlock 1 (Ex.then (D6.g R N4) (Ex.then (L4.g N4) (Ex.inBlock 0 (Ex.then (D2.g R) (retQ E [.tmp 4] R)))))))) fr h := by
  obtain ⟨a0, l0, c0, e0, g⟩ := gSlice_elim g
  obtain ⟨a1, l1, c1, e1, g⟩ := gSlice_elim g
  obtain ⟨a5, l5, c5, e5, g⟩ := gSlice_elim g
  obtain ⟨x6, e6, g⟩ := gInt_elim g
  obtain ⟨x7, e7, g⟩ := gInt_elim g
  obtain ⟨x8, e8, g⟩ := gInt_elim g
  obtain ⟨x9, e9, g⟩ := gInt_elim g
  obtain ⟨n, g⟩ := g
  refine loop_ok (fun n => L10.g (L10.t R N4 n)) (b := (cAt C [true, true, false, true, false, false, true, false, false, true, true, false, true, false, false])) (by kernel_rfl) (fun fr h g => ?_) (fun n => D11.ok R N4 (L10.t R N4 n)) n fr h (gSlice_intro e0 (gSlice_intro e1 (gSlice_intro e5 (gInt_intro e6 (gInt_intro e7 (gInt_intro e8 (gInt_intro e9 (g))))))))
  obtain ⟨a0, l0, c0, e0, g⟩ := gSlice_elim g
  obtain ⟨a1, l1, c1, e1, g⟩ := gSlice_elim g
  obtain ⟨a5, l5, c5, e5, g⟩ := gSlice_elim g
  obtain ⟨x6, e6, g⟩ := gInt_elim g
  obtain ⟨x7, e7, g⟩ := gInt_elim g
  obtain ⟨x8, e8, g⟩ := gInt_elim g
  obtain ⟨x9, e9, g⟩ := gInt_elim g
  exact g
theorem B12.ok (R : Rt) (N4 : Option Addr → Nat → Nat → Option Addr → Nat → Nat → Option Addr → Nat → Nat → Int → Hp → Prop) (fr : Fr) (h : Hp) (g : L10.g (fun a0 l0 c0 a1 l1 c1 a5 l5 c5 x6 x7 x8 x9 h => ∃ n, L10.t R N4 n a0 l0 c0 a1 l1 c1 a5 l5 c5 x6 x7 x8 x9 h) fr h) : den prog E (cAt C [true, true, false, true, false, false, true, false, false, true, true, false, true]) (Ex.then (D8.g R N4) (Ex.inBlock 1 (Ex.then (D6.g R N4) (Ex.then (L4.g N4) (Ex.inBlock 0 (Ex.then (D2.g R) (retQ E [.tmp 4] R))))))) fr h :=
  den_block (by kernel_rfl) (L10.ok R N4 fr h g)
def D9.t (R : Rt) (N4 : Option Addr → Nat → Nat → Option Addr → Nat → Nat → Option Addr → Nat → Nat → Int → Hp → Prop) (a0 : Option Addr) (l0 : Nat) (c0 : Nat) (a1 : Option Addr) (l1 : Nat) (c1 : Nat) (a5 : Option Addr) (l5 : Nat) (c5 : Nat) (x6 : Int) (x7 : Int) (x8 : Int) (h : Hp) : Prop :=
  (∃ n, L10.t R N4 n a0 l0 c0 a1 l1 c1 a5 l5 c5 x6 x7 x8 0 h)
def D9.g (R : Rt) (N4 : Option Addr → Nat → Nat → Option Addr → Nat → Nat → Option Addr → Nat → Nat → Int → Hp → Prop) (fr : Fr) (h : Hp) : Prop := gSlice (fr 0) fun a0 l0 c0 => gSlice (fr 1) fun a1 l1 c1 => gSlice (fr 5) fun a5 l5 c5 => gInt .i64 (fr 6) fun x6 => gInt .u64 (fr 7) fun x7 => gInt .u64 (fr 8) fun x8 => D9.t R N4 a0 l0 c0 a1 l1 c1 a5 l5 c5 x6 x7 x8 h
theorem D9.ok (R : Rt) (N4 : Option Addr → Nat → Nat → Option Addr → Nat → Nat → Option Addr → Nat → Nat → Int → Hp → Prop) (fr : Fr) (h : Hp) (g : D9.g R N4 fr h) : den prog E (cAt C [true, true, false, true, false, false, true, false, false, true, true, false]) (Ex.then (D8.g R N4) (Ex.inBlock 1 (Ex.then (D6.g R N4) (Ex.then (L4.g N4) (Ex.inBlock 0 (Ex.then (D2.g R) (retQ E [.tmp 4] R))))))) fr h := by
  obtain ⟨a0, l0, c0, e0, g⟩ := gSlice_elim g
  obtain ⟨a1, l1, c1, e1, g⟩ := gSlice_elim g
  obtain ⟨a5, l5, c5, e5, g⟩ := gSlice_elim g
  obtain ⟨x6, e6, g⟩ := gInt_elim g
  obtain ⟨x7, e7, g⟩ := gInt_elim g
  obtain ⟨x8, e8, g⟩ := gInt_elim g
  exact den_cut 1 (r := (cAt C [true, true, false, true, false, false, true, false, false, true, true, false, true])) (by kernel_rfl) (B12.ok R N4) (den_enter [(0, .slice a0 l0 c0), (1, .slice a1 l1 c1), (5, .slice a5 l5 c5), (6, .int .i64 x6), (7, .int .u64 x7), (8, .int .u64 x8)] ⟨e0, e1, e5, e6, e7, e8, trivial⟩ (by kernel_rfl) g)
theorem W13.ok (R : Rt) (N4 : Option Addr → Nat → Nat → Option Addr → Nat → Nat → Option Addr → Nat → Nat → Int → Hp → Prop) (fr : Fr) (h : Hp) (g : D9.g R N4 fr h) : den prog E (cAt C [true, true, false, true, false, false, true, false, false, true, true]) (Ex.inBlock 1 (Ex.then (D6.g R N4) (Ex.then (L4.g N4) (Ex.inBlock 0 (Ex.then (D2.g R) (retQ E [.tmp 4] R)))))) fr h :=
  den_then (by kernel_rfl) (D8.ok R N4) (D9.ok R N4 fr h g)
def D7.t (R : Rt) (N4 : Option Addr → Nat → Nat → Option Addr → Nat → Nat → Option Addr → Nat → Nat → Int → Hp → Prop) (a0 : Option Addr) (l0 : Nat) (c0 : Nat) (a1 : Option Addr) (l1 : Nat) (c1 : Nat) (a5 : Option Addr) (l5 : Nat) (c5 : Nat) (x6 : Int) (h : Hp) : Prop :=
  idxK a0 l0 x6 1 fun q8 =>
  ldK h q8 fun v9 =>
  gInt .u32 v9 fun x_10 =>
  letK (IntKind.u64.wrap x_10) fun n11 =>
  D9.t R N4 a0 l0 c0 a1 l1 c1 a5 l5 c5 x6 0 n11 h
def D7.g (R : Rt) (N4 : Option Addr → Nat → Nat → Option Addr → Nat → Nat → Option Addr → Nat → Nat → Int → Hp → Prop) (fr : Fr) (h : Hp) : Prop := gSlice (fr 0) fun a0 l0 c0 => gSlice (fr 1) fun a1 l1 c1 => gSlice (fr 5) fun a5 l5 c5 => gInt .i64 (fr 6) fun x6 => D7.t R N4 a0 l0 c0 a1 l1 c1 a5 l5 c5 x6 h
theorem D7.ok (R : Rt) (N4 : Option Addr → Nat → Nat → Option Addr → Nat → Nat → Option Addr → Nat → Nat → Int → Hp → Prop) (fr : Fr) (h : Hp) (g : D7.g R N4 fr h) : den prog E (cAt C [true, true, false, true, false, false, true, false, false]) (Ex.inBlock 1 (Ex.then (D6.g R N4) (Ex.then (L4.g N4) (Ex.inBlock 0 (Ex.then (D2.g R) (retQ E [.tmp 4] R)))))) fr h := by
  obtain ⟨a0, l0, c0, e0, g⟩ := gSlice_elim g
  obtain ⟨a1, l1, c1, e1, g⟩ := gSlice_elim g
  obtain ⟨a5, l5, c5, e5, g⟩ := gSlice_elim g
  obtain ⟨x6, e6, g⟩ := gInt_elim g
  exact den_cut 2 (r := (cAt C [true, true, false, true, false, false, true, false, false, true, true])) (by kernel_rfl) (W13.ok R N4) (den_enter [(0, .slice a0 l0 c0), (1, .slice a1 l1 c1), (5, .slice a5 l5 c5), (6, .int .i64 x6)] ⟨e0, e1, e5, e6, trivial⟩ (by kernel_rfl) g)
theorem B14.ok (R : Rt) (N4 : Option Addr → Nat → Nat → Option Addr → Nat → Nat → Option Addr → Nat → Nat → Int → Hp → Prop) (fr : Fr) (h : Hp) (g : D7.g R N4 fr h) : den prog E (cAt C [true, true, false, true, false, false, true, false]) (Ex.then (D6.g R N4) (Ex.then (L4.g N4) (Ex.inBlock 0 (Ex.then (D2.g R) (retQ E [.tmp 4] R))))) fr h :=
  den_block (by kernel_rfl) (D7.ok R N4 fr h g)
theorem W15.ok (R : Rt) (N4 : Option Addr → Nat → Nat → Option Addr → Nat → Nat → Option Addr → Nat → Nat → Int → Hp → Prop) (fr : Fr) (h : Hp) (g : D7.g R N4 fr h) : den prog E (cAt C [true, true, false, true, false, false, true]) (Ex.then (L4.g N4) (Ex.inBlock 0 (Ex.then (D2.g R) (retQ E [.tmp 4] R)))) fr h :=
  den_then (by kernel_rfl) (D6.ok R N4) (B14.ok R N4 fr h g)
def D5.t (R : Rt) (N4 : Option Addr → Nat → Nat → Option Addr → Nat → Nat → Option Addr → Nat → Nat → Int → Hp → Prop) (a0 : Option Addr) (l0 : Nat) (c0 : Nat) (a1 : Option Addr) (l1 : Nat) (c1 : Nat) (a5 : Option Addr) (l5 : Nat) (c5 : Nat) (x6 : Int) (h : Hp) : Prop :=
  cond (decide (x6 < (((l0 : Nat) : Int)))) (D7.t R N4 a0 l0 c0 a1 l1 c1 a5 l5 c5 x6 h) (D2.t R a5 l5 c5 h)
def D5.g (R : Rt) (N4 : Option Addr → Nat → Nat → Option Addr → Nat → Nat → Option Addr → Nat → Nat → Int → Hp → Prop) (fr : Fr) (h : Hp) : Prop := gSlice (fr 0) fun a0 l0 c0 => gSlice (fr 1) fun a1 l1 c1 => gSlice (fr 5) fun a5 l5 c5 => gInt .i64 (fr 6) fun x6 => D5.t R N4 a0 l0 c0 a1 l1 c1 a5 l5 c5 x6 h
theorem D5.ok (R : Rt) (N4 : Option Addr → Nat → Nat → Option Addr → Nat → Nat → Option Addr → Nat → Nat → Int → Hp → Prop) (fr : Fr) (h : Hp) (g : D5.g R N4 fr h) : den prog E (cAt C [true, true, false, true, false, false]) (Ex.then (L4.g N4) (Ex.inBlock 0 (Ex.then (D2.g R) (retQ E [.tmp 4] R)))) fr h := by
  obtain ⟨a0, l0, c0, e0, g⟩ := gSlice_elim g
  obtain ⟨a1, l1, c1, e1, g⟩ := gSlice_elim g
  obtain ⟨a5, l5, c5, e5, g⟩ := gSlice_elim g
  obtain ⟨x6, e6, g⟩ := gInt_elim g
  exact den_cut 1 (r := (cAt C [true, true, false, true, false, false, true])) (by kernel_rfl) (W15.ok R N4) (den_enter [(0, .slice a0 l0 c0), (1, .slice a1 l1 c1), (5, .slice a5 l5 c5), (6, .int .i64 x6)] ⟨e0, e1, e5, e6, trivial⟩ (by kernel_rfl) g)
def L4.t (R : Rt) : Nat → Option Addr → Nat → Nat → Option Addr → Nat → Nat → Option Addr → Nat → Nat → Int → Hp → Prop
  | 0 => fun _ _ _ _ _ _ _ _ _ _ _ => False
  | n + 1 => fun a0 l0 c0 a1 l1 c1 a5 l5 c5 x6 h => D5.t R (L4.t R n) a0 l0 c0 a1 l1 c1 a5 l5 c5 x6 h
theorem L4.ok (R : Rt) (fr : Fr) (h : Hp) (g : L4.g (fun a0 l0 c0 a1 l1 c1 a5 l5 c5 x6 h => ∃ n, L4.t R n a0 l0 c0 a1 l1 c1 a5 l5 c5 x6 h) fr h) : den prog E (cAt C [true, true, false, true, false]) (Ex.inBlock 0 (Ex.then (D2.g R) (retQ E [.tmp 4] R))) fr h := by
  obtain ⟨a0, l0, c0, e0, g⟩ := gSlice_elim g
  obtain ⟨a1, l1, c1, e1, g⟩ := gSlice_elim g
  obtain ⟨a5, l5, c5, e5, g⟩ := gSlice_elim g
  obtain ⟨x6, e6, g⟩ := gInt_elim g
  obtain ⟨n, g⟩ := g
  refine loop_ok (fun n => L4.g (L4.t R n)) (b := (cAt C [true, true, false, true, false, false])) (by kernel_rfl) (fun fr h g => ?_) (fun n => D5.ok R (L4.t R n)) n fr h (gSlice_intro e0 (gSlice_intro e1 (gSlice_intro e5 (gInt_intro e6 (g)))))
  obtain ⟨a0, l0, c0, e0, g⟩ := gSlice_elim g
  obtain ⟨a1, l1, c1, e1, g⟩ := gSlice_elim g
  obtain ⟨a5, l5, c5, e5, g⟩ := gSlice_elim g
  obtain ⟨x6, e6, g⟩ := gInt_elim g
  exact g
theorem B16.ok (R : Rt) (fr : Fr) (h : Hp) (g : L4.g (fun a0 l0 c0 a1 l1 c1 a5 l5 c5 x6 h => ∃ n, L4.t R n a0 l0 c0 a1 l1 c1 a5 l5 c5 x6 h) fr h) : den prog E (cAt C [true, true, false, true]) (Ex.then (D2.g R) (retQ E [.tmp 4] R)) fr h :=
  den_block (by kernel_rfl) (L4.ok R fr h g)
def D3.t (R : Rt) (a0 : Option Addr) (l0 : Nat) (c0 : Nat) (a1 : Option Addr) (l1 : Nat) (c1 : Nat) (a5 : Option Addr) (l5 : Nat) (c5 : Nat) (h : Hp) : Prop :=
  (∃ n, L4.t R n a0 l0 c0 a1 l1 c1 a5 l5 c5 0 h)
def D3.g (R : Rt) (fr : Fr) (h : Hp) : Prop := gSlice (fr 0) fun a0 l0 c0 => gSlice (fr 1) fun a1 l1 c1 => gSlice (fr 5) fun a5 l5 c5 => D3.t R a0 l0 c0 a1 l1 c1 a5 l5 c5 h
theorem D3.ok (R : Rt) (fr : Fr) (h : Hp) (g : D3.g R fr h) : den prog E (cAt C [true, true, false]) (Ex.then (D2.g R) (retQ E [.tmp 4] R)) fr h := by
  obtain ⟨a0, l0, c0, e0, g⟩ := gSlice_elim g
  obtain ⟨a1, l1, c1, e1, g⟩ := gSlice_elim g
  obtain ⟨a5, l5, c5, e5, g⟩ := gSlice_elim g
  exact den_cut 1 (r := (cAt C [true, true, false, true])) (by kernel_rfl) (B16.ok R) (den_enter [(0, .slice a0 l0 c0), (1, .slice a1 l1 c1), (5, .slice a5 l5 c5)] ⟨e0, e1, e5, trivial⟩ (by kernel_rfl) g)
theorem W17.ok (R : Rt) (fr : Fr) (h : Hp) (g : D3.g R fr h) : den prog E (cAt C [true, true]) (retQ E [.tmp 4] R) fr h :=
  den_then (by kernel_rfl) (D2.ok R) (D3.ok R fr h g)
def D1.t (R : Rt) (a0 : Option Addr) (l0 : Nat) (c0 : Nat) (a1 : Option Addr) (l1 : Nat) (c1 : Nat) (h : Hp) : Prop :=
  letK (IntKind.i64.wrap ((((l0 : Nat) : Int)) + (((l1 : Nat) : Int)))) fun n1 =>
  mkK h 56 T56 n1 n1 fun q2 h3 =>
  D3.t R a0 l0 c0 a1 l1 c1 (some q2) n1.toNat n1.toNat h3
def D1.g (R : Rt) (fr : Fr) (h : Hp) : Prop := gSlice (fr 0) fun a0 l0 c0 => gSlice (fr 1) fun a1 l1 c1 => D1.t R a0 l0 c0 a1 l1 c1 h
theorem D1.ok (R : Rt) (fr : Fr) (h : Hp) (g : D1.g R fr h) : den prog E C (retQ E [.tmp 4] R) fr h := by
  obtain ⟨a0, l0, c0, e0, g⟩ := gSlice_elim g
  obtain ⟨a1, l1, c1, e1, g⟩ := gSlice_elim g
  exact den_cut 2 (r := (cAt C [true, true])) (by kernel_rfl) (W17.ok R) (den_enter [(0, .slice a0 l0 c0), (1, .slice a1 l1 c1)] ⟨e0, e1, trivial⟩ (by kernel_rfl) g)
def t (a0 : Option Addr) (l0 : Nat) (c0 : Nat) (a1 : Option Addr) (l1 : Nat) (c1 : Nat) (h : Hp) (R : Rt) : Prop := D1.t R a0 l0 c0 a1 l1 c1 h
theorem ok {a0 : Option Addr} {l0 : Nat} {c0 : Nat} {a1 : Option Addr} {l1 : Nat} {c1 : Nat} {h : Hp} {R : Rt} (g : t a0 l0 c0 a1 l1 c1 h R) : HC id #[.slice a0 l0 c0, .slice a1 l1 c1] h R :=
  calls_of_den' envOk (c := C) (rs := [.tmp 4]) Try.func11 (by kernel_rfl) (by kernel_rfl) (by kernel_rfl) (args := [.slice a0 l0 c0, .slice a1 l1 c1]) (by kernel_rfl) (D1.ok R _ h (gSlice_intro rfl (gSlice_intro rfl (g))))
end gnomonref01_Mul

namespace gnomonref04_Of
noncomputable def C : Code := bodyOf Try.f12
def D1.t (R : Rt) (x0 : Int) (h : Hp) : Prop :=
  boxK h 31 T31.zs fun q1 h2 =>
  cond (decide (x0 < 0)) (letK (IntKind.i64.wrap (x0 + 1)) fun n3 =>
  letK (IntKind.i64.wrap (0 - n3)) fun n4 =>
  letK (IntKind.u64.wrap n4) fun n5 =>
  HC gnomonref01_Word.id #[.int .u64 n5] h2 fun v6 h7 =>
  gSlice v6 fun a_8 l_8 c_8 =>
  HC gnomonref01_Word.id #[.int .u64 1] h7 fun v9 h10 =>
  gSlice v9 fun a_11 l_11 c_11 =>
  HC gnomonref01_Add.id #[.slice a_8 l_8 c_8, .slice a_11 l_11 c_11] h10 fun v12 h13 =>
  gSlice v12 fun a_14 l_14 c_14 =>
  HC gnomonref04_Mk.id #[.bool true, .slice a_14 l_14 c_14] h13 fun v15 h16 =>
  gAgg v15 fun y17 =>
  uncons y17 fun v18 y18 =>
  gBool v18 fun b_19 =>
  uncons y18 fun v20 y20 =>
  gSlice v20 fun a_21 l_21 c_21 =>
  unnil y20 <| stK h16 (q1.add 0) (.bool b_19) fun h22 =>
  stK h22 (q1.add 1) (.slice a_21 l_21 c_21) fun h23 =>
  ldK h23 (q1.add 0) fun v24 =>
  gBool v24 fun b_25 =>
  ldK h23 (q1.add 1) fun v26 =>
  gSlice v26 fun a_27 l_27 c_27 =>
  R (.agg #[.bool b_25, .slice a_27 l_27 c_27]) h23) (letK (IntKind.u64.wrap x0) fun n28 =>
  HC gnomonref01_Word.id #[.int .u64 n28] h2 fun v29 h30 =>
  gSlice v29 fun a_31 l_31 c_31 =>
  HC gnomonref04_Mk.id #[.bool false, .slice a_31 l_31 c_31] h30 fun v32 h33 =>
  gAgg v32 fun y34 =>
  uncons y34 fun v35 y35 =>
  gBool v35 fun b_36 =>
  uncons y35 fun v37 y37 =>
  gSlice v37 fun a_38 l_38 c_38 =>
  unnil y37 <| stK h33 (q1.add 0) (.bool b_36) fun h39 =>
  stK h39 (q1.add 1) (.slice a_38 l_38 c_38) fun h40 =>
  ldK h40 (q1.add 0) fun v41 =>
  gBool v41 fun b_42 =>
  ldK h40 (q1.add 1) fun v43 =>
  gSlice v43 fun a_44 l_44 c_44 =>
  R (.agg #[.bool b_42, .slice a_44 l_44 c_44]) h40)
def D1.g (R : Rt) (fr : Fr) (h : Hp) : Prop := gInt .i64 (fr 0) fun x0 => D1.t R x0 h
theorem D1.ok (R : Rt) (fr : Fr) (h : Hp) (g : D1.g R fr h) : den prog E C (retQ E [.cell 2 31] R) fr h := by
  obtain ⟨x0, e0, g⟩ := gInt_elim g
  exact den_enter [(0, .int .i64 x0)] ⟨e0, trivial⟩ (by kernel_rfl) g
def t (x0 : Int) (h : Hp) (R : Rt) : Prop := D1.t R x0 h
theorem ok {x0 : Int} {h : Hp} {R : Rt} (g : t x0 h R) : HC id #[.int .i64 x0] h R :=
  calls_of_den' envOk (c := C) (rs := [.cell 2 31]) Try.func12 (by kernel_rfl) (by kernel_rfl) (by kernel_rfl) (args := [.int .i64 x0]) (by kernel_rfl) (D1.ok R _ h (gInt_intro rfl (g)))
end gnomonref04_Of

namespace gnomonref04_Cmp
noncomputable def C : Code := bodyOf Try.f13
def D1.t (R : Rt) (b0_0 : Bool) (a0_1 : Option Addr) (l0_1 : Nat) (c0_1 : Nat) (b1_0 : Bool) (a1_1 : Option Addr) (l1_1 : Nat) (c1_1 : Nat) (h : Hp) : Prop :=
  boxK h 31 [.bool b0_0, .slice a0_1 l0_1 c0_1] fun q1 h2 =>
  boxK h2 31 [.bool b1_0, .slice a1_1 l1_1 c1_1] fun q3 h4 =>
  ldK h4 (q1.add 0) fun v5 =>
  gBool v5 fun b_6 =>
  ldK h4 (q1.add 1) fun v7 =>
  gSlice v7 fun a_8 l_8 c_8 =>
  ldK h4 (q3.add 0) fun v9 =>
  gBool v9 fun b_10 =>
  ldK h4 (q3.add 1) fun v11 =>
  gSlice v11 fun a_12 l_12 c_12 =>
  HC gnomonref04_Sub.id #[.agg #[.bool b_6, .slice a_8 l_8 c_8], .agg #[.bool b_10, .slice a_12 l_12 c_12]] h4 fun v13 h14 =>
  gAgg v13 fun y15 =>
  uncons y15 fun v16 y16 =>
  gBool v16 fun b_17 =>
  uncons y16 fun v18 y18 =>
  gSlice v18 fun a_19 l_19 c_19 =>
  unnil y18 <| HC gnomonref04_Sign.id #[.agg #[.bool b_17, .slice a_19 l_19 c_19]] h14 fun v20 h21 =>
  gInt .i64 v20 fun x_22 =>
  R (.int .i64 x_22) h21
def D1.g (R : Rt) (fr : Fr) (h : Hp) : Prop := gAgg (fr 0) fun z0 => uncons z0 fun w0_0 z0_0 => gBool w0_0 fun b0_0 => uncons z0_0 fun w0_1 z0_1 => gSlice w0_1 fun a0_1 l0_1 c0_1 => unnil z0_1 <| gAgg (fr 1) fun z1 => uncons z1 fun w1_0 z1_0 => gBool w1_0 fun b1_0 => uncons z1_0 fun w1_1 z1_1 => gSlice w1_1 fun a1_1 l1_1 c1_1 => unnil z1_1 <| D1.t R b0_0 a0_1 l0_1 c0_1 b1_0 a1_1 l1_1 c1_1 h
theorem D1.ok (R : Rt) (fr : Fr) (h : Hp) (g : D1.g R fr h) : den prog E C (retQ E [.tmp 4] R) fr h := by
  obtain ⟨z0, e0, g0_0⟩ := gAgg_elim' g
  obtain ⟨w0_0, z0_0, rfl, g0_0x⟩ := uncons_elim g0_0
  obtain ⟨b0_0, rfl, g0_1⟩ := gBool_elim g0_0x
  obtain ⟨w0_1, z0_1, rfl, g0_1x⟩ := uncons_elim g0_1
  obtain ⟨a0_1, l0_1, c0_1, rfl, g0_2⟩ := gSlice_elim g0_1x
  obtain ⟨rfl, g⟩ := unnil_elim g0_2
  obtain ⟨z1, e1, g1_0⟩ := gAgg_elim' g
  obtain ⟨w1_0, z1_0, rfl, g1_0x⟩ := uncons_elim g1_0
  obtain ⟨b1_0, rfl, g1_1⟩ := gBool_elim g1_0x
  obtain ⟨w1_1, z1_1, rfl, g1_1x⟩ := uncons_elim g1_1
  obtain ⟨a1_1, l1_1, c1_1, rfl, g1_2⟩ := gSlice_elim g1_1x
  obtain ⟨rfl, g⟩ := unnil_elim g1_2
  exact den_enter [(0, .agg #[.bool b0_0, .slice a0_1 l0_1 c0_1]), (1, .agg #[.bool b1_0, .slice a1_1 l1_1 c1_1])] ⟨e0, e1, trivial⟩ (by kernel_rfl) g
def t (b0_0 : Bool) (a0_1 : Option Addr) (l0_1 : Nat) (c0_1 : Nat) (b1_0 : Bool) (a1_1 : Option Addr) (l1_1 : Nat) (c1_1 : Nat) (h : Hp) (R : Rt) : Prop := D1.t R b0_0 a0_1 l0_1 c0_1 b1_0 a1_1 l1_1 c1_1 h
theorem ok {b0_0 : Bool} {a0_1 : Option Addr} {l0_1 : Nat} {c0_1 : Nat} {b1_0 : Bool} {a1_1 : Option Addr} {l1_1 : Nat} {c1_1 : Nat} {h : Hp} {R : Rt} (g : t b0_0 a0_1 l0_1 c0_1 b1_0 a1_1 l1_1 c1_1 h R) : HC id #[.agg #[.bool b0_0, .slice a0_1 l0_1 c0_1], .agg #[.bool b1_0, .slice a1_1 l1_1 c1_1]] h R :=
  calls_of_den' envOk (c := C) (rs := [.tmp 4]) Try.func13 (by kernel_rfl) (by kernel_rfl) (by kernel_rfl) (args := [.agg #[.bool b0_0, .slice a0_1 l0_1 c0_1], .agg #[.bool b1_0, .slice a1_1 l1_1 c1_1]]) (by kernel_rfl) (D1.ok R _ h (gAgg_intro rfl (uncons_intro (gBool_intro rfl (uncons_intro (gSlice_intro rfl (unnil_intro (gAgg_intro rfl (uncons_intro (gBool_intro rfl (uncons_intro (gSlice_intro rfl (unnil_intro (g))))))))))))))
end gnomonref04_Cmp

namespace gnomonref01_Bits
noncomputable def C : Code := bodyOf Try.f14
def D2.t (R : Rt) (x3 : Int) (h : Hp) : Prop :=
  R (.int .i64 x3) h
def D2.g (R : Rt) (fr : Fr) (h : Hp) : Prop := gInt .i64 (fr 3) fun x3 => D2.t R x3 h
theorem D2.ok (R : Rt) (fr : Fr) (h : Hp) (g : D2.g R fr h) : den prog E (cAt C [true, true, true, true]) (retQ E [.tmp 2] R) fr h := by
  obtain ⟨x3, e3, g⟩ := gInt_elim g
  exact den_enter [(3, .int .i64 x3)] ⟨e3, trivial⟩ (by kernel_rfl) g
def L4.g (N : Int → Int → Hp → Prop) (fr : Fr) (h : Hp) : Prop := gInt .i64 (fr 3) fun x3 => gInt .u32 (fr 4) fun x4 => N x3 x4 h
def D5.t (R : Rt) (N4 : Int → Int → Hp → Prop) (x3 : Int) (x4 : Int) (h : Hp) : Prop :=
  cond (decide (x4 > 0)) (letK (IntKind.i64.wrap (x3 + 1)) fun n7 =>
  (2 : Int) ≠ 0 ∧ letK (IntKind.u32.wrap (Int.tdiv x4 2)) fun n8 =>
  N4 n7 n8 h) (D2.t R x3 h)
def D5.g (R : Rt) (N4 : Int → Int → Hp → Prop) (fr : Fr) (h : Hp) : Prop := gInt .i64 (fr 3) fun x3 => gInt .u32 (fr 4) fun x4 => D5.t R N4 x3 x4 h
theorem D5.ok (R : Rt) (N4 : Int → Int → Hp → Prop) (fr : Fr) (h : Hp) (g : D5.g R N4 fr h) : den prog E (cAt C [true, true, true, false, true, false, false]) (Ex.then (L4.g N4) (Ex.inBlock 0 (Ex.then (D2.g R) (retQ E [.tmp 2] R)))) fr h := by
  obtain ⟨x3, e3, g⟩ := gInt_elim g
  obtain ⟨x4, e4, g⟩ := gInt_elim g
  exact den_enter [(3, .int .i64 x3), (4, .int .u32 x4)] ⟨e3, e4, trivial⟩ (by kernel_rfl) g
def L4.t (R : Rt) : Nat → Int → Int → Hp → Prop
  | 0 => fun _ _ _ => False
  | n + 1 => fun x3 x4 h => D5.t R (L4.t R n) x3 x4 h
theorem L4.ok (R : Rt) (fr : Fr) (h : Hp) (g : L4.g (fun x3 x4 h => ∃ n, L4.t R n x3 x4 h) fr h) : den prog E (cAt C [true, true, true, false, true, false]) (Ex.inBlock 0 (Ex.then (D2.g R) (retQ E [.tmp 2] R))) fr h := by
  obtain ⟨x3, e3, g⟩ := gInt_elim g
  obtain ⟨x4, e4, g⟩ := gInt_elim g
  obtain ⟨n, g⟩ := g
  refine loop_ok (fun n => L4.g (L4.t R n)) (b := (cAt C [true, true, true, false, true, false, false])) (by kernel_rfl) (fun fr h g => ?_) (fun n => D5.ok R (L4.t R n)) n fr h (gInt_intro e3 (gInt_intro e4 (g)))
  obtain ⟨x3, e3, g⟩ := gInt_elim g
  obtain ⟨x4, e4, g⟩ := gInt_elim g
  exact g
theorem B6.ok (R : Rt) (fr : Fr) (h : Hp) (g : L4.g (fun x3 x4 h => ∃ n, L4.t R n x3 x4 h) fr h) : den prog E (cAt C [true, true, true, false, true]) (Ex.then (D2.g R) (retQ E [.tmp 2] R)) fr h :=
  den_block (by kernel_rfl) (L4.ok R fr h g)
def D3.t (R : Rt) (a0 : Option Addr) (l0 : Nat) (c0 : Nat) (x3 : Int) (h : Hp) : Prop :=
  letK (IntKind.i64.wrap ((((l0 : Nat) : Int)) - 1)) fun n3 =>
  idxK a0 l0 n3 1 fun q4 =>
  ldK h q4 fun v5 =>
  gInt .u32 v5 fun x_6 =>
  (∃ n, L4.t R n x3 x_6 h)
def D3.g (R : Rt) (fr : Fr) (h : Hp) : Prop := gSlice (fr 0) fun a0 l0 c0 => gInt .i64 (fr 3) fun x3 => D3.t R a0 l0 c0 x3 h
theorem D3.ok (R : Rt) (fr : Fr) (h : Hp) (g : D3.g R fr h) : den prog E (cAt C [true, true, true, false]) (Ex.then (D2.g R) (retQ E [.tmp 2] R)) fr h := by
  obtain ⟨a0, l0, c0, e0, g⟩ := gSlice_elim g
  obtain ⟨x3, e3, g⟩ := gInt_elim g
  exact den_cut 1 (r := (cAt C [true, true, true, false, true])) (by kernel_rfl) (B6.ok R) (den_enter [(0, .slice a0 l0 c0), (3, .int .i64 x3)] ⟨e0, e3, trivial⟩ (by kernel_rfl) g)
theorem W7.ok (R : Rt) (fr : Fr) (h : Hp) (g : D3.g R fr h) : den prog E (cAt C [true, true, true]) (retQ E [.tmp 2] R) fr h :=
  den_then (by kernel_rfl) (D2.ok R) (D3.ok R fr h g)
def D1.t (R : Rt) (a0 : Option Addr) (l0 : Nat) (c0 : Nat) (h : Hp) : Prop :=
  cond ((((l0 : Nat) : Int)) == 0) (R (.int .i64 0) h) (letK (IntKind.i64.wrap ((((l0 : Nat) : Int)) - 1)) fun n1 =>
  letK (IntKind.i64.wrap (32 * n1)) fun n2 =>
  D3.t R a0 l0 c0 n2 h)
def D1.g (R : Rt) (fr : Fr) (h : Hp) : Prop := gSlice (fr 0) fun a0 l0 c0 => D1.t R a0 l0 c0 h
theorem D1.ok (R : Rt) (fr : Fr) (h : Hp) (g : D1.g R fr h) : den prog E C (retQ E [.tmp 2] R) fr h := by
  obtain ⟨a0, l0, c0, e0, g⟩ := gSlice_elim g
  exact den_cut 3 (r := (cAt C [true, true, true])) (by kernel_rfl) (W7.ok R) (den_enter [(0, .slice a0 l0 c0)] ⟨e0, trivial⟩ (by kernel_rfl) g)
def t (a0 : Option Addr) (l0 : Nat) (c0 : Nat) (h : Hp) (R : Rt) : Prop := D1.t R a0 l0 c0 h
theorem ok {a0 : Option Addr} {l0 : Nat} {c0 : Nat} {h : Hp} {R : Rt} (g : t a0 l0 c0 h R) : HC id #[.slice a0 l0 c0] h R :=
  calls_of_den' envOk (c := C) (rs := [.tmp 2]) Try.func14 (by kernel_rfl) (by kernel_rfl) (by kernel_rfl) (args := [.slice a0 l0 c0]) (by kernel_rfl) (D1.ok R _ h (gSlice_intro rfl (g)))
end gnomonref01_Bits

namespace gnomonref07_PiFloor
noncomputable def C : Code := bodyOf Try.f15
def L2.g (N : Int → Int → Hp → Prop) (fr : Fr) (h : Hp) : Prop := gInt .i64 (fr 0) fun x0 => gInt .i64 (fr 3) fun x3 => N x0 x3 h
def D3.t (R : Rt) (N2 : Int → Int → Hp → Prop) (x0 : Int) (x3 : Int) (h : Hp) : Prop :=
  letK (IntKind.i64.wrap (x0 + x3)) fun n1 =>
  HC gnomonref07_arctan.id #[.int .u32 18, .int .i64 n1] h fun v2 h3 =>
  gTup v2 fun y4 =>
  uncons y4 fun v5 y5 =>
  gSlice v5 fun a_6 l_6 c_6 =>
  uncons y5 fun v7 y7 =>
  gInt .i64 v7 fun x_8 =>
  unnil y7 <| letK (IntKind.i64.wrap (x0 + x3)) fun n9 =>
  HC gnomonref07_arctan.id #[.int .u32 57, .int .i64 n9] h3 fun v10 h11 =>
  gTup v10 fun y12 =>
  uncons y12 fun v13 y13 =>
  gSlice v13 fun a_14 l_14 c_14 =>
  uncons y13 fun v15 y15 =>
  gInt .i64 v15 fun x_16 =>
  unnil y15 <| letK (IntKind.i64.wrap (x0 + x3)) fun n17 =>
  HC gnomonref07_arctan.id #[.int .u32 239, .int .i64 n17] h11 fun v18 h19 =>
  gTup v18 fun y20 =>
  uncons y20 fun v21 y21 =>
  gSlice v21 fun a_22 l_22 c_22 =>
  uncons y21 fun v23 y23 =>
  gInt .i64 v23 fun x_24 =>
  unnil y23 <| HC gnomonref01_MulSmall.id #[.slice a_6 l_6 c_6, .int .u32 48, .int .u32 0] h19 fun v25 h26 =>
  gSlice v25 fun a_27 l_27 c_27 =>
  HC gnomonref01_MulSmall.id #[.slice a_14 l_14 c_14, .int .u32 32, .int .u32 0] h26 fun v28 h29 =>
  gSlice v28 fun a_30 l_30 c_30 =>
  HC gnomonref01_Add.id #[.slice a_27 l_27 c_27, .slice a_30 l_30 c_30] h29 fun v31 h32 =>
  gSlice v31 fun a_33 l_33 c_33 =>
  HC gnomonref01_MulSmall.id #[.slice a_22 l_22 c_22, .int .u32 20, .int .u32 0] h32 fun v34 h35 =>
  gSlice v34 fun a_36 l_36 c_36 =>
  HC gnomonref01_Sub.id #[.slice a_33 l_33 c_33, .slice a_36 l_36 c_36] h35 fun v37 h38 =>
  gSlice v37 fun a_39 l_39 c_39 =>
  letK (IntKind.i64.wrap (x_8 + 2)) fun n40 =>
  letK (IntKind.i64.wrap (48 * n40)) fun n41 =>
  letK (IntKind.i64.wrap (x_16 + 2)) fun n42 =>
  letK (IntKind.i64.wrap (32 * n42)) fun n43 =>
  letK (IntKind.i64.wrap (n41 + n43)) fun n44 =>
  letK (IntKind.i64.wrap (x_24 + 2)) fun n45 =>
  letK (IntKind.i64.wrap (20 * n45)) fun n46 =>
  letK (IntKind.i64.wrap (n44 + n46)) fun n47 =>
  letK (IntKind.i64.wrap (4 * n47)) fun n48 =>
  HC gnomonref01_Small.id #[.int .i64 n48] h38 fun v49 h50 =>
  gSlice v49 fun a_51 l_51 c_51 =>
  HC gnomonref01_Sub.id #[.slice a_39 l_39 c_39, .slice a_51 l_51 c_51] h50 fun v52 h53 =>
  gSlice v52 fun a_54 l_54 c_54 =>
  HC gnomonref01_Shr.id #[.slice a_54 l_54 c_54, .int .i64 x3] h53 fun v55 h56 =>
  gSlice v55 fun a_57 l_57 c_57 =>
  HC gnomonref01_Add.id #[.slice a_39 l_39 c_39, .slice a_51 l_51 c_51] h56 fun v58 h59 =>
  gSlice v58 fun a_60 l_60 c_60 =>
  HC gnomonref01_Shr.id #[.slice a_60 l_60 c_60, .int .i64 x3] h59 fun v61 h62 =>
  gSlice v61 fun a_63 l_63 c_63 =>
  HC gnomonref01_Cmp.id #[.slice a_57 l_57 c_57, .slice a_63 l_63 c_63] h62 fun v64 h65 =>
  gInt .i64 v64 fun x_66 =>
  cond (x_66 == 0) (R (.slice a_57 l_57 c_57) h65) (letK (IntKind.i64.wrap (x3 * 2)) fun n67 =>
  N2 x0 n67 h65)
def D3.g (R : Rt) (N2 : Int → Int → Hp → Prop) (fr : Fr) (h : Hp) : Prop := gInt .i64 (fr 0) fun x0 => gInt .i64 (fr 3) fun x3 => D3.t R N2 x0 x3 h
theorem D3.ok (R : Rt) (N2 : Int → Int → Hp → Prop) (fr : Fr) (h : Hp) (g : D3.g R N2 fr h) : den prog E (cAt C [true, true, true, false, false]) (Ex.then (L2.g N2) (Ex.inBlock 0 (retQ E [.tmp 2] R))) fr h := by
  obtain ⟨x0, e0, g⟩ := gInt_elim g
  obtain ⟨x3, e3, g⟩ := gInt_elim g
  exact den_enter [(0, .int .i64 x0), (3, .int .i64 x3)] ⟨e0, e3, trivial⟩ (by kernel_rfl) g
def L2.t (R : Rt) : Nat → Int → Int → Hp → Prop
  | 0 => fun _ _ _ => False
  | n + 1 => fun x0 x3 h => D3.t R (L2.t R n) x0 x3 h
theorem L2.ok (R : Rt) (fr : Fr) (h : Hp) (g : L2.g (fun x0 x3 h => ∃ n, L2.t R n x0 x3 h) fr h) : den prog E (cAt C [true, true, true, false]) (Ex.inBlock 0 (retQ E [.tmp 2] R)) fr h := by
  obtain ⟨x0, e0, g⟩ := gInt_elim g
  obtain ⟨x3, e3, g⟩ := gInt_elim g
  obtain ⟨n, g⟩ := g
  refine loop_ok (fun n => L2.g (L2.t R n)) (b := (cAt C [true, true, true, false, false])) (by kernel_rfl) (fun fr h g => ?_) (fun n => D3.ok R (L2.t R n)) n fr h (gInt_intro e0 (gInt_intro e3 (g)))
  obtain ⟨x0, e0, g⟩ := gInt_elim g
  obtain ⟨x3, e3, g⟩ := gInt_elim g
  exact g
theorem B4.ok (R : Rt) (fr : Fr) (h : Hp) (g : L2.g (fun x0 x3 h => ∃ n, L2.t R n x0 x3 h) fr h) : den prog E (cAt C [true, true, true]) (retQ E [.tmp 2] R) fr h :=
  den_block (by kernel_rfl) (L2.ok R fr h g)
def D1.t (R : Rt) (x0 : Int) (h : Hp) : Prop :=
  (∃ n, L2.t R n (if 0 > x0 then 0 else x0) 64 h)
def D1.g (R : Rt) (fr : Fr) (h : Hp) : Prop := gInt .i64 (fr 0) fun x0 => D1.t R x0 h
theorem D1.ok (R : Rt) (fr : Fr) (h : Hp) (g : D1.g R fr h) : den prog E C (retQ E [.tmp 2] R) fr h := by
  obtain ⟨x0, e0, g⟩ := gInt_elim g
  exact den_cut 3 (r := (cAt C [true, true, true])) (by kernel_rfl) (B4.ok R) (den_enter [(0, .int .i64 x0)] ⟨e0, trivial⟩ (by kernel_rfl) g)
def t (x0 : Int) (h : Hp) (R : Rt) : Prop := D1.t R x0 h
theorem ok {x0 : Int} {h : Hp} {R : Rt} (g : t x0 h R) : HC id #[.int .i64 x0] h R :=
  calls_of_den' envOk (c := C) (rs := [.tmp 2]) Try.func15 (by kernel_rfl) (by kernel_rfl) (by kernel_rfl) (args := [.int .i64 x0]) (by kernel_rfl) (D1.ok R _ h (gInt_intro rfl (g)))
end gnomonref07_PiFloor

namespace gnomonref01_Shl
noncomputable def C : Code := bodyOf Try.f16
def D2.t (R : Rt) (a0 : Option Addr) (l0 : Nat) (c0 : Nat) (x1 : Int) (h : Hp) : Prop :=
  (32 : Int) ≠ 0 ∧ letK (IntKind.i64.wrap (Int.tdiv x1 32)) fun n7 =>
  (32 : Int) ≠ 0 ∧ letK (IntKind.i64.wrap (Int.tdiv x1 32)) fun n8 =>
  letK (IntKind.i64.wrap (n8 + (((l0 : Nat) : Int)))) fun n9 =>
  letK (IntKind.i64.wrap (n9 + 1)) fun n10 =>
  mkK h 56 T56 n7 n10 fun q11 h12 =>
  (32 : Int) ≠ 0 ∧ letK (Int.tmod x1 32) fun n13 =>
  0 ≤ n13 ∧ letK (shlI .u32 1 n13) fun n14 =>
  HC gnomonref01_MulSmall.id #[.slice a0 l0 c0, .int .u32 n14, .int .u32 0] h12 fun v15 h16 =>
  gSlice v15 fun a_17 l_17 c_17 =>
  apK h16 56 T56 (some q11) n7.toNat n10.toNat (.slice a_17 l_17 c_17) fun a_18 l_18 c_18 h18 =>
  HC gnomonref01_Norm.id #[.slice a_18 l_18 c_18] h18 fun v19 h20 =>
  gSlice v19 fun a_21 l_21 c_21 =>
  R (.slice a_21 l_21 c_21) h20
def D2.g (R : Rt) (fr : Fr) (h : Hp) : Prop := gSlice (fr 0) fun a0 l0 c0 => gInt .i64 (fr 1) fun x1 => D2.t R a0 l0 c0 x1 h
theorem D2.ok (R : Rt) (fr : Fr) (h : Hp) (g : D2.g R fr h) : den prog E (cAt C [true, true]) (retQ E [.tmp 4] R) fr h := by
  obtain ⟨a0, l0, c0, e0, g⟩ := gSlice_elim g
  obtain ⟨x1, e1, g⟩ := gInt_elim g
  exact den_enter [(0, .slice a0 l0 c0), (1, .int .i64 x1)] ⟨e0, e1, trivial⟩ (by kernel_rfl) g
def D1.t (R : Rt) (a0 : Option Addr) (l0 : Nat) (c0 : Nat) (x1 : Int) (h : Hp) : Prop :=
  cond (decide (x1 ≤ 0)) (HC gnomonref01_Norm.id #[.slice a0 l0 c0] h fun v1 h2 =>
  gSlice v1 fun a_3 l_3 c_3 =>
  R (.slice a_3 l_3 c_3) h2) (cond ((((l0 : Nat) : Int)) == 0) (HC gnomonref01_Norm.id #[.slice a0 l0 c0] h fun v4 h5 =>
  gSlice v4 fun a_6 l_6 c_6 =>
  R (.slice a_6 l_6 c_6) h5) (D2.t R a0 l0 c0 x1 h))
def D1.g (R : Rt) (fr : Fr) (h : Hp) : Prop := gSlice (fr 0) fun a0 l0 c0 => gInt .i64 (fr 1) fun x1 => D1.t R a0 l0 c0 x1 h
theorem D1.ok (R : Rt) (fr : Fr) (h : Hp) (g : D1.g R fr h) : den prog E C (retQ E [.tmp 4] R) fr h := by
  obtain ⟨a0, l0, c0, e0, g⟩ := gSlice_elim g
  obtain ⟨x1, e1, g⟩ := gInt_elim g
  exact den_cut 2 (r := (cAt C [true, true])) (by kernel_rfl) (D2.ok R) (den_enter [(0, .slice a0 l0 c0), (1, .int .i64 x1)] ⟨e0, e1, trivial⟩ (by kernel_rfl) g)
def t (a0 : Option Addr) (l0 : Nat) (c0 : Nat) (x1 : Int) (h : Hp) (R : Rt) : Prop := D1.t R a0 l0 c0 x1 h
theorem ok {a0 : Option Addr} {l0 : Nat} {c0 : Nat} {x1 : Int} {h : Hp} {R : Rt} (g : t a0 l0 c0 x1 h R) : HC id #[.slice a0 l0 c0, .int .i64 x1] h R :=
  calls_of_den' envOk (c := C) (rs := [.tmp 4]) Try.func16 (by kernel_rfl) (by kernel_rfl) (by kernel_rfl) (args := [.slice a0 l0 c0, .int .i64 x1]) (by kernel_rfl) (D1.ok R _ h (gSlice_intro rfl (gInt_intro rfl (g))))
end gnomonref01_Shl

namespace gnomonref04_Sign
noncomputable def C : Code := bodyOf Try.f17
def D1.t (R : Rt) (b0_0 : Bool) (a0_1 : Option Addr) (l0_1 : Nat) (c0_1 : Nat) (h : Hp) : Prop :=
  boxK h 31 [.bool b0_0, .slice a0_1 l0_1 c0_1] fun q1 h2 =>
  ldK h2 (q1.add 1) fun v3 =>
  gSlice v3 fun a_4 l_4 c_4 =>
  cond ((((l_4 : Nat) : Int)) == 0) (R (.int .i64 0) h2) (ldK h2 (q1.add 0) fun v5 =>
  gBool v5 fun b_6 =>
  cond b_6 (R (.int .i64 (-1)) h2) (R (.int .i64 1) h2))
def D1.g (R : Rt) (fr : Fr) (h : Hp) : Prop := gAgg (fr 0) fun z0 => uncons z0 fun w0_0 z0_0 => gBool w0_0 fun b0_0 => uncons z0_0 fun w0_1 z0_1 => gSlice w0_1 fun a0_1 l0_1 c0_1 => unnil z0_1 <| D1.t R b0_0 a0_1 l0_1 c0_1 h
theorem D1.ok (R : Rt) (fr : Fr) (h : Hp) (g : D1.g R fr h) : den prog E C (retQ E [.tmp 2] R) fr h := by
  obtain ⟨z0, e0, g0_0⟩ := gAgg_elim' g
  obtain ⟨w0_0, z0_0, rfl, g0_0x⟩ := uncons_elim g0_0
  obtain ⟨b0_0, rfl, g0_1⟩ := gBool_elim g0_0x
  obtain ⟨w0_1, z0_1, rfl, g0_1x⟩ := uncons_elim g0_1
  obtain ⟨a0_1, l0_1, c0_1, rfl, g0_2⟩ := gSlice_elim g0_1x
  obtain ⟨rfl, g⟩ := unnil_elim g0_2
  exact den_enter [(0, .agg #[.bool b0_0, .slice a0_1 l0_1 c0_1])] ⟨e0, trivial⟩ (by kernel_rfl) g
def t (b0_0 : Bool) (a0_1 : Option Addr) (l0_1 : Nat) (c0_1 : Nat) (h : Hp) (R : Rt) : Prop := D1.t R b0_0 a0_1 l0_1 c0_1 h
theorem ok {b0_0 : Bool} {a0_1 : Option Addr} {l0_1 : Nat} {c0_1 : Nat} {h : Hp} {R : Rt} (g : t b0_0 a0_1 l0_1 c0_1 h R) : HC id #[.agg #[.bool b0_0, .slice a0_1 l0_1 c0_1]] h R :=
  calls_of_den' envOk (c := C) (rs := [.tmp 2]) Try.func17 (by kernel_rfl) (by kernel_rfl) (by kernel_rfl) (args := [.agg #[.bool b0_0, .slice a0_1 l0_1 c0_1]]) (by kernel_rfl) (D1.ok R _ h (gAgg_intro rfl (uncons_intro (gBool_intro rfl (uncons_intro (gSlice_intro rfl (unnil_intro (g))))))))
end gnomonref04_Sign

namespace gnomonref01_Cmp
noncomputable def C : Code := bodyOf Try.f18
def D2.t (R : Rt)  (h : Hp) : Prop :=
  R (.int .i64 0) h
def D2.g (R : Rt) (fr : Fr) (h : Hp) : Prop := D2.t R  h
theorem D2.ok (R : Rt) (fr : Fr) (h : Hp) (g : D2.g R fr h) : den prog E (cAt C [true, true, true]) (retQ E [.tmp 4] R) fr h := by
  exact den_enter [] trivial (by kernel_rfl) g
def L4.g (N : Option Addr → Nat → Nat → Option Addr → Nat → Nat → Int → Hp → Prop) (fr : Fr) (h : Hp) : Prop := gSlice (fr 0) fun a0 l0 c0 => gSlice (fr 1) fun a1 l1 c1 => gInt .i64 (fr 5) fun x5 => N a0 l0 c0 a1 l1 c1 x5 h
def D5.t (R : Rt) (N4 : Option Addr → Nat → Nat → Option Addr → Nat → Nat → Int → Hp → Prop) (a0 : Option Addr) (l0 : Nat) (c0 : Nat) (a1 : Option Addr) (l1 : Nat) (c1 : Nat) (x5 : Int) (h : Hp) : Prop :=
  cond (decide (x5 ≥ 0)) (idxK a0 l0 x5 1 fun q2 =>
  ldK h q2 fun v3 =>
  gInt .u32 v3 fun x_4 =>
  idxK a1 l1 x5 1 fun q5 =>
  ldK h q5 fun v6 =>
  gInt .u32 v6 fun x_7 =>
  cond (decide (x_4 < x_7)) (R (.int .i64 (-1)) h) (idxK a0 l0 x5 1 fun q8 =>
  ldK h q8 fun v9 =>
  gInt .u32 v9 fun x_10 =>
  idxK a1 l1 x5 1 fun q11 =>
  ldK h q11 fun v12 =>
  gInt .u32 v12 fun x_13 =>
  cond (decide (x_10 > x_13)) (R (.int .i64 1) h) (letK (IntKind.i64.wrap (x5 - 1)) fun n14 =>
  N4 a0 l0 c0 a1 l1 c1 n14 h))) (D2.t R h)
def D5.g (R : Rt) (N4 : Option Addr → Nat → Nat → Option Addr → Nat → Nat → Int → Hp → Prop) (fr : Fr) (h : Hp) : Prop := gSlice (fr 0) fun a0 l0 c0 => gSlice (fr 1) fun a1 l1 c1 => gInt .i64 (fr 5) fun x5 => D5.t R N4 a0 l0 c0 a1 l1 c1 x5 h
theorem D5.ok (R : Rt) (N4 : Option Addr → Nat → Nat → Option Addr → Nat → Nat → Int → Hp → Prop) (fr : Fr) (h : Hp) (g : D5.g R N4 fr h) : den prog E (cAt C [true, true, false, true, false, false]) (Ex.then (L4.g N4) (Ex.inBlock 0 (Ex.then (D2.g R) (retQ E [.tmp 4] R)))) fr h := by
  obtain ⟨a0, l0, c0, e0, g⟩ := gSlice_elim g
  obtain ⟨a1, l1, c1, e1, g⟩ := gSlice_elim g
  obtain ⟨x5, e5, g⟩ := gInt_elim g
  exact den_enter [(0, .slice a0 l0 c0), (1, .slice a1 l1 c1), (5, .int .i64 x5)] ⟨e0, e1, e5, trivial⟩ (by kernel_rfl) g
def L4.t (R : Rt) : Nat → Option Addr → Nat → Nat → Option Addr → Nat → Nat → Int → Hp → Prop
  | 0 => fun _ _ _ _ _ _ _ _ => False
  | n + 1 => fun a0 l0 c0 a1 l1 c1 x5 h => D5.t R (L4.t R n) a0 l0 c0 a1 l1 c1 x5 h
theorem L4.ok (R : Rt) (fr : Fr) (h : Hp) (g : L4.g (fun a0 l0 c0 a1 l1 c1 x5 h => ∃ n, L4.t R n a0 l0 c0 a1 l1 c1 x5 h) fr h) : den prog E (cAt C [true, true, false, true, false]) (Ex.inBlock 0 (Ex.then (D2.g R) (retQ E [.tmp 4] R))) fr h := by
  obtain ⟨a0, l0, c0, e0, g⟩ := gSlice_elim g
  obtain ⟨a1, l1, c1, e1, g⟩ := gSlice_elim g
  obtain ⟨x5, e5, g⟩ := gInt_elim g
  obtain ⟨n, g⟩ := g
  refine loop_ok (fun n => L4.g (L4.t R n)) (b := (cAt C [true, true, false, true, false, false])) (by kernel_rfl) (fun fr h g => ?_) (fun n => D5.ok R (L4.t R n)) n fr h (gSlice_intro e0 (gSlice_intro e1 (gInt_intro e5 (g))))
  obtain ⟨a0, l0, c0, e0, g⟩ := gSlice_elim g
  obtain ⟨a1, l1, c1, e1, g⟩ := gSlice_elim g
  obtain ⟨x5, e5, g⟩ := gInt_elim g
  exact g
theorem B6.ok (R : Rt) (fr : Fr) (h : Hp) (g : L4.g (fun a0 l0 c0 a1 l1 c1 x5 h => ∃ n, L4.t R n a0 l0 c0 a1 l1 c1 x5 h) fr h) : den prog E (cAt C [true, true, false, true]) (Ex.then (D2.g R) (retQ E [.tmp 4] R)) fr h :=
  den_block (by kernel_rfl) (L4.ok R fr h g)
def D3.t (R : Rt) (a0 : Option Addr) (l0 : Nat) (c0 : Nat) (a1 : Option Addr) (l1 : Nat) (c1 : Nat) (h : Hp) : Prop :=
  letK (IntKind.i64.wrap ((((l0 : Nat) : Int)) - 1)) fun n1 => (∃ n, L4.t R n a0 l0 c0 a1 l1 c1 n1 h)
def D3.g (R : Rt) (fr : Fr) (h : Hp) : Prop := gSlice (fr 0) fun a0 l0 c0 => gSlice (fr 1) fun a1 l1 c1 => D3.t R a0 l0 c0 a1 l1 c1 h
theorem D3.ok (R : Rt) (fr : Fr) (h : Hp) (g : D3.g R fr h) : den prog E (cAt C [true, true, false]) (Ex.then (D2.g R) (retQ E [.tmp 4] R)) fr h := by
  obtain ⟨a0, l0, c0, e0, g⟩ := gSlice_elim g
  obtain ⟨a1, l1, c1, e1, g⟩ := gSlice_elim g
  exact den_cut 1 (r := (cAt C [true, true, false, true])) (by kernel_rfl) (B6.ok R) (den_enter [(0, .slice a0 l0 c0), (1, .slice a1 l1 c1)] ⟨e0, e1, trivial⟩ (by kernel_rfl) g)
theorem W7.ok (R : Rt) (fr : Fr) (h : Hp) (g : D3.g R fr h) : den prog E (cAt C [true, true]) (retQ E [.tmp 4] R) fr h :=
  den_then (by kernel_rfl) (D2.ok R) (D3.ok R fr h g)
def D1.t (R : Rt) (a0 : Option Addr) (l0 : Nat) (c0 : Nat) (a1 : Option Addr) (l1 : Nat) (c1 : Nat) (h : Hp) : Prop :=
  cond ((((l0 : Nat) : Int)) != (((l1 : Nat) : Int))) (cond (decide ((((l0 : Nat) : Int)) < (((l1 : Nat) : Int)))) (R (.int .i64 (-1)) h) (R (.int .i64 1) h)) (D3.t R a0 l0 c0 a1 l1 c1 h)
def D1.g (R : Rt) (fr : Fr) (h : Hp) : Prop := gSlice (fr 0) fun a0 l0 c0 => gSlice (fr 1) fun a1 l1 c1 => D1.t R a0 l0 c0 a1 l1 c1 h
theorem D1.ok (R : Rt) (fr : Fr) (h : Hp) (g : D1.g R fr h) : den prog E C (retQ E [.tmp 4] R) fr h := by
  obtain ⟨a0, l0, c0, e0, g⟩ := gSlice_elim g
  obtain ⟨a1, l1, c1, e1, g⟩ := gSlice_elim g
  exact den_cut 2 (r := (cAt C [true, true])) (by kernel_rfl) (W7.ok R) (den_enter [(0, .slice a0 l0 c0), (1, .slice a1 l1 c1)] ⟨e0, e1, trivial⟩ (by kernel_rfl) g)
def t (a0 : Option Addr) (l0 : Nat) (c0 : Nat) (a1 : Option Addr) (l1 : Nat) (c1 : Nat) (h : Hp) (R : Rt) : Prop := D1.t R a0 l0 c0 a1 l1 c1 h
theorem ok {a0 : Option Addr} {l0 : Nat} {c0 : Nat} {a1 : Option Addr} {l1 : Nat} {c1 : Nat} {h : Hp} {R : Rt} (g : t a0 l0 c0 a1 l1 c1 h R) : HC id #[.slice a0 l0 c0, .slice a1 l1 c1] h R :=
  calls_of_den' envOk (c := C) (rs := [.tmp 4]) Try.func18 (by kernel_rfl) (by kernel_rfl) (by kernel_rfl) (args := [.slice a0 l0 c0, .slice a1 l1 c1]) (by kernel_rfl) (D1.ok R _ h (gSlice_intro rfl (gSlice_intro rfl (g))))
end gnomonref01_Cmp

namespace nearpi_Terms
noncomputable def C : Code := bodyOf Try.f19
def D2.t (R : Rt) (x0 : Int) (h : Hp) : Prop :=
  HC nearpi_first.id #[.int .i64 x0] h fun v1 h2 =>
  gSlice v1 fun a_3 l_3 c_3 =>
  R (.tuple #[.slice a_3 l_3 c_3, .int .i64 0]) h2
def D2.g (R : Rt) (fr : Fr) (h : Hp) : Prop := gInt .i64 (fr 0) fun x0 => D2.t R x0 h
theorem D2.ok (R : Rt) (fr : Fr) (h : Hp) (g : D2.g R fr h) : den prog E (cAt C [true, true]) (retQ E [.tmp 2, .tmp 3] R) fr h := by
  obtain ⟨x0, e0, g⟩ := gInt_elim g
  exact den_enter [(0, .int .i64 x0)] ⟨e0, trivial⟩ (by kernel_rfl) g
def D1.t (R : Rt) (x0 : Int) (h : Hp) : Prop :=
  cond (decide (x0 < 1)) (R (.tuple #[.slice none 0 0, .int .i64 1]) h) (cond (decide (x0 > 1000)) (R (.tuple #[.slice none 0 0, .int .i64 1]) h) (D2.t R x0 h))
def D1.g (R : Rt) (fr : Fr) (h : Hp) : Prop := gInt .i64 (fr 0) fun x0 => D1.t R x0 h
theorem D1.ok (R : Rt) (fr : Fr) (h : Hp) (g : D1.g R fr h) : den prog E C (retQ E [.tmp 2, .tmp 3] R) fr h := by
  obtain ⟨x0, e0, g⟩ := gInt_elim g
  exact den_cut 2 (r := (cAt C [true, true])) (by kernel_rfl) (D2.ok R) (den_enter [(0, .int .i64 x0)] ⟨e0, trivial⟩ (by kernel_rfl) g)
def t (x0 : Int) (h : Hp) (R : Rt) : Prop := D1.t R x0 h
theorem ok {x0 : Int} {h : Hp} {R : Rt} (g : t x0 h R) : HC id #[.int .i64 x0] h R :=
  calls_of_den' envOk (c := C) (rs := [.tmp 2, .tmp 3]) Try.func19 (by kernel_rfl) (by kernel_rfl) (by kernel_rfl) (args := [.int .i64 x0]) (by kernel_rfl) (D1.ok R _ h (gInt_intro rfl (g)))
end nearpi_Terms

namespace gnomonref01_Word
noncomputable def C : Code := bodyOf Try.f20
def D1.t (R : Rt) (x0 : Int) (h : Hp) : Prop :=
  letK (andI .u64 x0 4294967295) fun n1 =>
  letK (IntKind.u32.wrap n1) fun n2 =>
  0 ≤ (32 : Int) ∧ letK (shrI .u64 x0 32) fun n3 =>
  letK (IntKind.u32.wrap n3) fun n4 =>
  boxK h 56 [.int .u32 n2, .int .u32 n4] fun q5 h6 =>
  HC gnomonref01_Norm.id #[.slice (some q5) 2 2] h6 fun v7 h8 =>
  gSlice v7 fun a_9 l_9 c_9 =>
  R (.slice a_9 l_9 c_9) h8
def D1.g (R : Rt) (fr : Fr) (h : Hp) : Prop := gInt .u64 (fr 0) fun x0 => D1.t R x0 h
theorem D1.ok (R : Rt) (fr : Fr) (h : Hp) (g : D1.g R fr h) : den prog E C (retQ E [.tmp 2] R) fr h := by
  obtain ⟨x0, e0, g⟩ := gInt_elim g
  exact den_enter [(0, .int .u64 x0)] ⟨e0, trivial⟩ (by kernel_rfl) g
def t (x0 : Int) (h : Hp) (R : Rt) : Prop := D1.t R x0 h
theorem ok {x0 : Int} {h : Hp} {R : Rt} (g : t x0 h R) : HC id #[.int .u64 x0] h R :=
  calls_of_den' envOk (c := C) (rs := [.tmp 2]) Try.func20 (by kernel_rfl) (by kernel_rfl) (by kernel_rfl) (args := [.int .u64 x0]) (by kernel_rfl) (D1.ok R _ h (gInt_intro rfl (g)))
end gnomonref01_Word

namespace gnomonref01_Add
noncomputable def C : Code := bodyOf Try.f21
def D2.t (R : Rt) (a5 : Option Addr) (l5 : Nat) (c5 : Nat) (h : Hp) : Prop :=
  HC gnomonref01_Norm.id #[.slice a5 l5 c5] h fun v4 h5 =>
  gSlice v4 fun a_6 l_6 c_6 =>
  R (.slice a_6 l_6 c_6) h5
def D2.g (R : Rt) (fr : Fr) (h : Hp) : Prop := gSlice (fr 5) fun a5 l5 c5 => D2.t R a5 l5 c5 h
theorem D2.ok (R : Rt) (fr : Fr) (h : Hp) (g : D2.g R fr h) : den prog E (cAt C [true, true, true, true]) (retQ E [.tmp 4] R) fr h := by
  obtain ⟨a5, l5, c5, e5, g⟩ := gSlice_elim g
  exact den_enter [(5, .slice a5 l5 c5)] ⟨e5, trivial⟩ (by kernel_rfl) g
def L4.g (N : Option Addr → Nat → Nat → Option Addr → Nat → Nat → Option Addr → Nat → Nat → Int → Int → Hp → Prop) (fr : Fr) (h : Hp) : Prop := gSlice (fr 0) fun a0 l0 c0 => gSlice (fr 1) fun a1 l1 c1 => gSlice (fr 5) fun a5 l5 c5 => gInt .u64 (fr 6) fun x6 => gInt .i64 (fr 7) fun x7 => N a0 l0 c0 a1 l1 c1 a5 l5 c5 x6 x7 h
def D6.t (R : Rt) (N4 : Option Addr → Nat → Nat → Option Addr → Nat → Nat → Option Addr → Nat → Nat → Int → Int → Hp → Prop) (a0 : Option Addr) (l0 : Nat) (c0 : Nat) (a1 : Option Addr) (l1 : Nat) (c1 : Nat) (a5 : Option Addr) (l5 : Nat) (c5 : Nat) (x6 : Int) (x7 : Int) (h : Hp) : Prop :=
  cond (decide (x7 < (((l0 : Nat) : Int)))) (idxK a0 l0 x7 1 fun q7 =>
  ldK h q7 fun v8 =>
  gInt .u32 v8 fun x_9 =>
  letK (IntKind.u64.wrap x_9) fun n10 =>
  letK (IntKind.u64.wrap (x6 + n10)) fun n11 =>
  cond (decide (x7 < (((l1 : Nat) : Int)))) (idxK a1 l1 x7 1 fun q12 =>
  ldK h q12 fun v13 =>
  gInt .u32 v13 fun x_14 =>
  letK (IntKind.u64.wrap x_14) fun n15 =>
  letK (IntKind.u64.wrap (n11 + n15)) fun n16 =>
  letK (andI .u64 n16 4294967295) fun n17 =>
  letK (IntKind.u32.wrap n17) fun n18 =>
  boxK h 56 [.int .u32 n18] fun q19 h20 =>
  apK h20 56 T56 a5 l5 c5 (.slice (some q19) 1 1) fun a_21 l_21 c_21 h21 =>
  0 ≤ (32 : Int) ∧ letK (shrI .u64 n16 32) fun n22 =>
  letK (IntKind.i64.wrap (x7 + 1)) fun n23 =>
  N4 a0 l0 c0 a1 l1 c1 a_21 l_21 c_21 n22 n23 h21) (letK (andI .u64 n11 4294967295) fun n24 =>
  letK (IntKind.u32.wrap n24) fun n25 =>
  boxK h 56 [.int .u32 n25] fun q26 h27 =>
  apK h27 56 T56 a5 l5 c5 (.slice (some q26) 1 1) fun a_28 l_28 c_28 h28 =>
  0 ≤ (32 : Int) ∧ letK (shrI .u64 n11 32) fun n29 =>
  letK (IntKind.i64.wrap (x7 + 1)) fun n30 =>
  N4 a0 l0 c0 a1 l1 c1 a_28 l_28 c_28 n29 n30 h28)) (cond (decide (x7 < (((l1 : Nat) : Int)))) (idxK a1 l1 x7 1 fun q31 =>
  ldK h q31 fun v32 =>
  gInt .u32 v32 fun x_33 =>
  letK (IntKind.u64.wrap x_33) fun n34 =>
  letK (IntKind.u64.wrap (x6 + n34)) fun n35 =>
  letK (andI .u64 n35 4294967295) fun n36 =>
  letK (IntKind.u32.wrap n36) fun n37 =>
  boxK h 56 [.int .u32 n37] fun q38 h39 =>
  apK h39 56 T56 a5 l5 c5 (.slice (some q38) 1 1) fun a_40 l_40 c_40 h40 =>
  0 ≤ (32 : Int) ∧ letK (shrI .u64 n35 32) fun n41 =>
  letK (IntKind.i64.wrap (x7 + 1)) fun n42 =>
  N4 a0 l0 c0 a1 l1 c1 a_40 l_40 c_40 n41 n42 h40) (letK (andI .u64 x6 4294967295) fun n43 =>
  letK (IntKind.u32.wrap n43) fun n44 =>
  boxK h 56 [.int .u32 n44] fun q45 h46 =>
  apK h46 56 T56 a5 l5 c5 (.slice (some q45) 1 1) fun a_47 l_47 c_47 h47 =>
  0 ≤ (32 : Int) ∧ letK (shrI .u64 x6 32) fun n48 =>
  letK (IntKind.i64.wrap (x7 + 1)) fun n49 =>
  N4 a0 l0 c0 a1 l1 c1 a_47 l_47 c_47 n48 n49 h47))
def D6.g (R : Rt) (N4 : Option Addr → Nat → Nat → Option Addr → Nat → Nat → Option Addr → Nat → Nat → Int → Int → Hp → Prop) (fr : Fr) (h : Hp) : Prop := gSlice (fr 0) fun a0 l0 c0 => gSlice (fr 1) fun a1 l1 c1 => gSlice (fr 5) fun a5 l5 c5 => gInt .u64 (fr 6) fun x6 => gInt .i64 (fr 7) fun x7 => D6.t R N4 a0 l0 c0 a1 l1 c1 a5 l5 c5 x6 x7 h
theorem D6.ok (R : Rt) (N4 : Option Addr → Nat → Nat → Option Addr → Nat → Nat → Option Addr → Nat → Nat → Int → Int → Hp → Prop) (fr : Fr) (h : Hp) (g : D6.g R N4 fr h) : den prog E (cAt C [true, true, true, false, true, false, false, true]) (Ex.then (L4.g N4) (Ex.inBlock 0 (Ex.then (D2.g R) (retQ E [.tmp 4] R)))) fr h := by
  obtain ⟨a0, l0, c0, e0, g⟩ := gSlice_elim g
  obtain ⟨a1, l1, c1, e1, g⟩ := gSlice_elim g
  obtain ⟨a5, l5, c5, e5, g⟩ := gSlice_elim g
  obtain ⟨x6, e6, g⟩ := gInt_elim g
  obtain ⟨x7, e7, g⟩ := gInt_elim g
  exact den_enter [(0, .slice a0 l0 c0), (1, .slice a1 l1 c1), (5, .slice a5 l5 c5), (6, .int .u64 x6), (7, .int .i64 x7)] ⟨e0, e1, e5, e6, e7, trivial⟩ (by kernel_rfl) g
def D5.t (R : Rt) (N4 : Option Addr → Nat → Nat → Option Addr → Nat → Nat → Option Addr → Nat → Nat → Int → Int → Hp → Prop) (a0 : Option Addr) (l0 : Nat) (c0 : Nat) (a1 : Option Addr) (l1 : Nat) (c1 : Nat) (a5 : Option Addr) (l5 : Nat) (c5 : Nat) (x6 : Int) (x7 : Int) (h : Hp) : Prop :=
  cond (decide (x7 < (((l0 : Nat) : Int)))) (D6.t R N4 a0 l0 c0 a1 l1 c1 a5 l5 c5 x6 x7 h) (cond (decide (x7 < (((l1 : Nat) : Int)))) (D6.t R N4 a0 l0 c0 a1 l1 c1 a5 l5 c5 x6 x7 h) (cond (decide (x6 > 0)) (D6.t R N4 a0 l0 c0 a1 l1 c1 a5 l5 c5 x6 x7 h) (D2.t R a5 l5 c5 h)))
def D5.g (R : Rt) (N4 : Option Addr → Nat → Nat → Option Addr → Nat → Nat → Option Addr → Nat → Nat → Int → Int → Hp → Prop) (fr : Fr) (h : Hp) : Prop := gSlice (fr 0) fun a0 l0 c0 => gSlice (fr 1) fun a1 l1 c1 => gSlice (fr 5) fun a5 l5 c5 => gInt .u64 (fr 6) fun x6 => gInt .i64 (fr 7) fun x7 => D5.t R N4 a0 l0 c0 a1 l1 c1 a5 l5 c5 x6 x7 h
theorem D5.ok (R : Rt) (N4 : Option Addr → Nat → Nat → Option Addr → Nat → Nat → Option Addr → Nat → Nat → Int → Int → Hp → Prop) (fr : Fr) (h : Hp) (g : D5.g R N4 fr h) : den prog E (cAt C [true, true, true, false, true, false, false]) (Ex.then (L4.g N4) (Ex.inBlock 0 (Ex.then (D2.g R) (retQ E [.tmp 4] R)))) fr h := by
  obtain ⟨a0, l0, c0, e0, g⟩ := gSlice_elim g
  obtain ⟨a1, l1, c1, e1, g⟩ := gSlice_elim g
  obtain ⟨a5, l5, c5, e5, g⟩ := gSlice_elim g
  obtain ⟨x6, e6, g⟩ := gInt_elim g
  obtain ⟨x7, e7, g⟩ := gInt_elim g
  exact den_cut 1 (r := (cAt C [true, true, true, false, true, false, false, true])) (by kernel_rfl) (D6.ok R N4) (den_enter [(0, .slice a0 l0 c0), (1, .slice a1 l1 c1), (5, .slice a5 l5 c5), (6, .int .u64 x6), (7, .int .i64 x7)] ⟨e0, e1, e5, e6, e7, trivial⟩ (by kernel_rfl) g)
def L4.t (R : Rt) : Nat → Option Addr → Nat → Nat → Option Addr → Nat → Nat → Option Addr → Nat → Nat → Int → Int → Hp → Prop
  | 0 => fun _ _ _ _ _ _ _ _ _ _ _ _ => False
  | n + 1 => fun a0 l0 c0 a1 l1 c1 a5 l5 c5 x6 x7 h => D5.t R (L4.t R n) a0 l0 c0 a1 l1 c1 a5 l5 c5 x6 x7 h
theorem L4.ok (R : Rt) (fr : Fr) (h : Hp) (g : L4.g (fun a0 l0 c0 a1 l1 c1 a5 l5 c5 x6 x7 h => ∃ n, L4.t R n a0 l0 c0 a1 l1 c1 a5 l5 c5 x6 x7 h) fr h) : den prog E (cAt C [true, true, true, false, true, false]) (Ex.inBlock 0 (Ex.then (D2.g R) (retQ E [.tmp 4] R))) fr h := by
  obtain ⟨a0, l0, c0, e0, g⟩ := gSlice_elim g
  obtain ⟨a1, l1, c1, e1, g⟩ := gSlice_elim g
  obtain ⟨a5, l5, c5, e5, g⟩ := gSlice_elim g
  obtain ⟨x6, e6, g⟩ := gInt_elim g
  obtain ⟨x7, e7, g⟩ := gInt_elim g
  obtain ⟨n, g⟩ := g
  refine loop_ok (fun n => L4.g (L4.t R n)) (b := (cAt C [true, true, true, false, true, false, false])) (by kernel_rfl) (fun fr h g => ?_) (fun n => D5.ok R (L4.t R n)) n fr h (gSlice_intro e0 (gSlice_intro e1 (gSlice_intro e5 (gInt_intro e6 (gInt_intro e7 (g))))))
  obtain ⟨a0, l0, c0, e0, g⟩ := gSlice_elim g
  obtain ⟨a1, l1, c1, e1, g⟩ := gSlice_elim g
  obtain ⟨a5, l5, c5, e5, g⟩ := gSlice_elim g
  obtain ⟨x6, e6, g⟩ := gInt_elim g
  obtain ⟨x7, e7, g⟩ := gInt_elim g
  exact g
theorem B7.ok (R : Rt) (fr : Fr) (h : Hp) (g : L4.g (fun a0 l0 c0 a1 l1 c1 a5 l5 c5 x6 x7 h => ∃ n, L4.t R n a0 l0 c0 a1 l1 c1 a5 l5 c5 x6 x7 h) fr h) : den prog E (cAt C [true, true, true, false, true]) (Ex.then (D2.g R) (retQ E [.tmp 4] R)) fr h :=
  den_block (by kernel_rfl) (L4.ok R fr h g)
def D3.t (R : Rt) (a0 : Option Addr) (l0 : Nat) (c0 : Nat) (a1 : Option Addr) (l1 : Nat) (c1 : Nat) (a5 : Option Addr) (l5 : Nat) (c5 : Nat) (x6 : Int) (h : Hp) : Prop :=
  (∃ n, L4.t R n a0 l0 c0 a1 l1 c1 a5 l5 c5 x6 0 h)
def D3.g (R : Rt) (fr : Fr) (h : Hp) : Prop := gSlice (fr 0) fun a0 l0 c0 => gSlice (fr 1) fun a1 l1 c1 => gSlice (fr 5) fun a5 l5 c5 => gInt .u64 (fr 6) fun x6 => D3.t R a0 l0 c0 a1 l1 c1 a5 l5 c5 x6 h
theorem D3.ok (R : Rt) (fr : Fr) (h : Hp) (g : D3.g R fr h) : den prog E (cAt C [true, true, true, false]) (Ex.then (D2.g R) (retQ E [.tmp 4] R)) fr h := by
  obtain ⟨a0, l0, c0, e0, g⟩ := gSlice_elim g
  obtain ⟨a1, l1, c1, e1, g⟩ := gSlice_elim g
  obtain ⟨a5, l5, c5, e5, g⟩ := gSlice_elim g
  obtain ⟨x6, e6, g⟩ := gInt_elim g
  exact den_cut 1 (r := (cAt C [true, true, true, false, true])) (by kernel_rfl) (B7.ok R) (den_enter [(0, .slice a0 l0 c0), (1, .slice a1 l1 c1), (5, .slice a5 l5 c5), (6, .int .u64 x6)] ⟨e0, e1, e5, e6, trivial⟩ (by kernel_rfl) g)
theorem W8.ok (R : Rt) (fr : Fr) (h : Hp) (g : D3.g R fr h) : den prog E (cAt C [true, true, true]) (retQ E [.tmp 4] R) fr h :=
  den_then (by kernel_rfl) (D2.ok R) (D3.ok R fr h g)
def D1.t (R : Rt) (a0 : Option Addr) (l0 : Nat) (c0 : Nat) (a1 : Option Addr) (l1 : Nat) (c1 : Nat) (h : Hp) : Prop :=
  letK (IntKind.i64.wrap ((if (((l1 : Nat) : Int)) > (((l0 : Nat) : Int)) then (((l1 : Nat) : Int)) else (((l0 : Nat) : Int))) + 1)) fun n1 =>
  mkK h 56 T56 0 n1 fun q2 h3 =>
  D3.t R a0 l0 c0 a1 l1 c1 (some q2) ((0 : Int).toNat) n1.toNat 0 h3
def D1.g (R : Rt) (fr : Fr) (h : Hp) : Prop := gSlice (fr 0) fun a0 l0 c0 => gSlice (fr 1) fun a1 l1 c1 => D1.t R a0 l0 c0 a1 l1 c1 h
theorem D1.ok (R : Rt) (fr : Fr) (h : Hp) (g : D1.g R fr h) : den prog E C (retQ E [.tmp 4] R) fr h := by
  obtain ⟨a0, l0, c0, e0, g⟩ := gSlice_elim g
  obtain ⟨a1, l1, c1, e1, g⟩ := gSlice_elim g
  exact den_cut 3 (r := (cAt C [true, true, true])) (by kernel_rfl) (W8.ok R) (den_enter [(0, .slice a0 l0 c0), (1, .slice a1 l1 c1)] ⟨e0, e1, trivial⟩ (by kernel_rfl) g)
def t (a0 : Option Addr) (l0 : Nat) (c0 : Nat) (a1 : Option Addr) (l1 : Nat) (c1 : Nat) (h : Hp) (R : Rt) : Prop := D1.t R a0 l0 c0 a1 l1 c1 h
theorem ok {a0 : Option Addr} {l0 : Nat} {c0 : Nat} {a1 : Option Addr} {l1 : Nat} {c1 : Nat} {h : Hp} {R : Rt} (g : t a0 l0 c0 a1 l1 c1 h R) : HC id #[.slice a0 l0 c0, .slice a1 l1 c1] h R :=
  calls_of_den' envOk (c := C) (rs := [.tmp 4]) Try.func21 (by kernel_rfl) (by kernel_rfl) (by kernel_rfl) (args := [.slice a0 l0 c0, .slice a1 l1 c1]) (by kernel_rfl) (D1.ok R _ h (gSlice_intro rfl (gSlice_intro rfl (g))))
end gnomonref01_Add

namespace gnomonref01_Same
noncomputable def C : Code := bodyOf Try.f22
def D2.t (R : Rt)  (h : Hp) : Prop :=
  R (.bool true) h
def D2.g (R : Rt) (fr : Fr) (h : Hp) : Prop := D2.t R  h
theorem D2.ok (R : Rt) (fr : Fr) (h : Hp) (g : D2.g R fr h) : den prog E (cAt C [true, true, true]) (retQ E [.tmp 4] R) fr h := by
  exact den_enter [] trivial (by kernel_rfl) g
def L4.g (N : Option Addr → Nat → Nat → Option Addr → Nat → Nat → Int → Hp → Prop) (fr : Fr) (h : Hp) : Prop := gSlice (fr 0) fun a0 l0 c0 => gSlice (fr 1) fun a1 l1 c1 => gInt .i64 (fr 5) fun x5 => N a0 l0 c0 a1 l1 c1 x5 h
def D5.t (R : Rt) (N4 : Option Addr → Nat → Nat → Option Addr → Nat → Nat → Int → Hp → Prop) (a0 : Option Addr) (l0 : Nat) (c0 : Nat) (a1 : Option Addr) (l1 : Nat) (c1 : Nat) (x5 : Int) (h : Hp) : Prop :=
  cond (decide (x5 < (((l0 : Nat) : Int)))) (idxK a0 l0 x5 1 fun q1 =>
  ldK h q1 fun v2 =>
  gInt .u64 v2 fun x_3 =>
  idxK a1 l1 x5 1 fun q4 =>
  ldK h q4 fun v5 =>
  gInt .u64 v5 fun x_6 =>
  cond (x_3 != x_6) (R (.bool false) h) (letK (IntKind.i64.wrap (x5 + 1)) fun n7 =>
  N4 a0 l0 c0 a1 l1 c1 n7 h)) (D2.t R h)
def D5.g (R : Rt) (N4 : Option Addr → Nat → Nat → Option Addr → Nat → Nat → Int → Hp → Prop) (fr : Fr) (h : Hp) : Prop := gSlice (fr 0) fun a0 l0 c0 => gSlice (fr 1) fun a1 l1 c1 => gInt .i64 (fr 5) fun x5 => D5.t R N4 a0 l0 c0 a1 l1 c1 x5 h
theorem D5.ok (R : Rt) (N4 : Option Addr → Nat → Nat → Option Addr → Nat → Nat → Int → Hp → Prop) (fr : Fr) (h : Hp) (g : D5.g R N4 fr h) : den prog E (cAt C [true, true, false, true, false, false]) (Ex.then (L4.g N4) (Ex.inBlock 0 (Ex.then (D2.g R) (retQ E [.tmp 4] R)))) fr h := by
  obtain ⟨a0, l0, c0, e0, g⟩ := gSlice_elim g
  obtain ⟨a1, l1, c1, e1, g⟩ := gSlice_elim g
  obtain ⟨x5, e5, g⟩ := gInt_elim g
  exact den_enter [(0, .slice a0 l0 c0), (1, .slice a1 l1 c1), (5, .int .i64 x5)] ⟨e0, e1, e5, trivial⟩ (by kernel_rfl) g
def L4.t (R : Rt) : Nat → Option Addr → Nat → Nat → Option Addr → Nat → Nat → Int → Hp → Prop
  | 0 => fun _ _ _ _ _ _ _ _ => False
  | n + 1 => fun a0 l0 c0 a1 l1 c1 x5 h => D5.t R (L4.t R n) a0 l0 c0 a1 l1 c1 x5 h
theorem L4.ok (R : Rt) (fr : Fr) (h : Hp) (g : L4.g (fun a0 l0 c0 a1 l1 c1 x5 h => ∃ n, L4.t R n a0 l0 c0 a1 l1 c1 x5 h) fr h) : den prog E (cAt C [true, true, false, true, false]) (Ex.inBlock 0 (Ex.then (D2.g R) (retQ E [.tmp 4] R))) fr h := by
  obtain ⟨a0, l0, c0, e0, g⟩ := gSlice_elim g
  obtain ⟨a1, l1, c1, e1, g⟩ := gSlice_elim g
  obtain ⟨x5, e5, g⟩ := gInt_elim g
  obtain ⟨n, g⟩ := g
  refine loop_ok (fun n => L4.g (L4.t R n)) (b := (cAt C [true, true, false, true, false, false])) (by kernel_rfl) (fun fr h g => ?_) (fun n => D5.ok R (L4.t R n)) n fr h (gSlice_intro e0 (gSlice_intro e1 (gInt_intro e5 (g))))
  obtain ⟨a0, l0, c0, e0, g⟩ := gSlice_elim g
  obtain ⟨a1, l1, c1, e1, g⟩ := gSlice_elim g
  obtain ⟨x5, e5, g⟩ := gInt_elim g
  exact g
theorem B6.ok (R : Rt) (fr : Fr) (h : Hp) (g : L4.g (fun a0 l0 c0 a1 l1 c1 x5 h => ∃ n, L4.t R n a0 l0 c0 a1 l1 c1 x5 h) fr h) : den prog E (cAt C [true, true, false, true]) (Ex.then (D2.g R) (retQ E [.tmp 4] R)) fr h :=
  den_block (by kernel_rfl) (L4.ok R fr h g)
def D3.t (R : Rt) (a0 : Option Addr) (l0 : Nat) (c0 : Nat) (a1 : Option Addr) (l1 : Nat) (c1 : Nat) (h : Hp) : Prop :=
  (∃ n, L4.t R n a0 l0 c0 a1 l1 c1 0 h)
def D3.g (R : Rt) (fr : Fr) (h : Hp) : Prop := gSlice (fr 0) fun a0 l0 c0 => gSlice (fr 1) fun a1 l1 c1 => D3.t R a0 l0 c0 a1 l1 c1 h
theorem D3.ok (R : Rt) (fr : Fr) (h : Hp) (g : D3.g R fr h) : den prog E (cAt C [true, true, false]) (Ex.then (D2.g R) (retQ E [.tmp 4] R)) fr h := by
  obtain ⟨a0, l0, c0, e0, g⟩ := gSlice_elim g
  obtain ⟨a1, l1, c1, e1, g⟩ := gSlice_elim g
  exact den_cut 1 (r := (cAt C [true, true, false, true])) (by kernel_rfl) (B6.ok R) (den_enter [(0, .slice a0 l0 c0), (1, .slice a1 l1 c1)] ⟨e0, e1, trivial⟩ (by kernel_rfl) g)
theorem W7.ok (R : Rt) (fr : Fr) (h : Hp) (g : D3.g R fr h) : den prog E (cAt C [true, true]) (retQ E [.tmp 4] R) fr h :=
  den_then (by kernel_rfl) (D2.ok R) (D3.ok R fr h g)
def D1.t (R : Rt) (a0 : Option Addr) (l0 : Nat) (c0 : Nat) (a1 : Option Addr) (l1 : Nat) (c1 : Nat) (h : Hp) : Prop :=
  cond ((((l0 : Nat) : Int)) != (((l1 : Nat) : Int))) (R (.bool false) h) (D3.t R a0 l0 c0 a1 l1 c1 h)
def D1.g (R : Rt) (fr : Fr) (h : Hp) : Prop := gSlice (fr 0) fun a0 l0 c0 => gSlice (fr 1) fun a1 l1 c1 => D1.t R a0 l0 c0 a1 l1 c1 h
theorem D1.ok (R : Rt) (fr : Fr) (h : Hp) (g : D1.g R fr h) : den prog E C (retQ E [.tmp 4] R) fr h := by
  obtain ⟨a0, l0, c0, e0, g⟩ := gSlice_elim g
  obtain ⟨a1, l1, c1, e1, g⟩ := gSlice_elim g
  exact den_cut 2 (r := (cAt C [true, true])) (by kernel_rfl) (W7.ok R) (den_enter [(0, .slice a0 l0 c0), (1, .slice a1 l1 c1)] ⟨e0, e1, trivial⟩ (by kernel_rfl) g)
def t (a0 : Option Addr) (l0 : Nat) (c0 : Nat) (a1 : Option Addr) (l1 : Nat) (c1 : Nat) (h : Hp) (R : Rt) : Prop := D1.t R a0 l0 c0 a1 l1 c1 h
theorem ok {a0 : Option Addr} {l0 : Nat} {c0 : Nat} {a1 : Option Addr} {l1 : Nat} {c1 : Nat} {h : Hp} {R : Rt} (g : t a0 l0 c0 a1 l1 c1 h R) : HC id #[.slice a0 l0 c0, .slice a1 l1 c1] h R :=
  calls_of_den' envOk (c := C) (rs := [.tmp 4]) Try.func22 (by kernel_rfl) (by kernel_rfl) (by kernel_rfl) (args := [.slice a0 l0 c0, .slice a1 l1 c1]) (by kernel_rfl) (D1.ok R _ h (gSlice_intro rfl (gSlice_intro rfl (g))))
end gnomonref01_Same


namespace nearpi_Nearest
noncomputable def C : Code := bodyOf Try.f24
def D3.t (R : Rt) (x1 : Int) (q4 : Addr) (a6 : Option Addr) (l6 : Nat) (c6 : Nat) (x10 : Int) (b12 : Bool) (h : Hp) : Prop :=
  HC nearpi_multiple.id #[.slice a6 l6 c6, .int .u64 x10, .bool b12] h fun v79 h80 =>
  gSlice v79 fun a_81 l_81 c_81 =>
  HC nearpi_depth.id #[.int .u64 x10, .int .i64 x1, .slice a_81 l_81 c_81] h80 fun v82 h83 =>
  gInt .i64 v82 fun x_84 =>
  stK h83 (q4.add 0) (.int .u64 x10) fun h85 =>
  stK h85 (q4.add 1) (.slice a_81 l_81 c_81) fun h86 =>
  stK h86 (q4.add 2) (.int .i64 x_84) fun h87 =>
  ldK h87 (q4.add 0) fun v88 =>
  gInt .u64 v88 fun x_89 =>
  ldK h87 (q4.add 1) fun v90 =>
  gSlice v90 fun a_91 l_91 c_91 =>
  ldK h87 (q4.add 2) fun v92 =>
  gInt .i64 v92 fun x_93 =>
  R (.tuple #[.agg #[.int .u64 x_89, .slice a_91 l_91 c_91, .int .i64 x_93], .int .i64 0]) h87
def D3.g (R : Rt) (fr : Fr) (h : Hp) : Prop := gInt .i64 (fr 1) fun x1 => gPtrS (fr 4) fun q4 => gSlice (fr 6) fun a6 l6 c6 => gInt .u64 (fr 10) fun x10 => gBool (fr 12) fun b12 => D3.t R x1 q4 a6 l6 c6 x10 b12 h
theorem D3.ok (R : Rt) (fr : Fr) (h : Hp) (g : D3.g R fr h) : den prog E (cAt C [true, true, true, true, true, true, true, true]) (retQ E [.cell 4 50, .tmp 5] R) fr h := by
  obtain ⟨x1, e1, g⟩ := gInt_elim g
  obtain ⟨q4, e4, g⟩ := gPtrS_elim g
  obtain ⟨a6, l6, c6, e6, g⟩ := gSlice_elim g
  obtain ⟨x10, e10, g⟩ := gInt_elim g
  obtain ⟨b12, e12, g⟩ := gBool_elim g
  exact den_enter [(1, .int .i64 x1), (4, .pointer (some q4)), (6, .slice a6 l6 c6), (10, .int .u64 x10), (12, .bool b12)] ⟨e1, e4, e6, e10, e12, trivial⟩ (by kernel_rfl) g
def D2.t (R : Rt) (x0 : Int) (x1 : Int) (q4 : Addr) (h : Hp) : Prop :=
  HC nearpi_fraction.id #[.int .i64 x1] h fun v39 h40 =>
  gTup v39 fun y41 =>
  uncons y41 fun v42 y42 =>
  gSlice v42 fun a_43 l_43 c_43 =>
  uncons y42 fun v44 y44 =>
  gInt .i64 v44 fun x_45 =>
  unnil y44 <| cond (x_45 != 0) (stK h40 (q4.add 0) (.int .u64 0) fun h46 =>
  stK h46 (q4.add 1) (.slice none 0 0) fun h47 =>
  stK h47 (q4.add 2) (.int .i64 0) fun h48 =>
  ldK h48 (q4.add 0) fun v49 =>
  gInt .u64 v49 fun x_50 =>
  ldK h48 (q4.add 1) fun v51 =>
  gSlice v51 fun a_52 l_52 c_52 =>
  ldK h48 (q4.add 2) fun v53 =>
  gInt .i64 v53 fun x_54 =>
  R (.tuple #[.agg #[.int .u64 x_50, .slice a_52 l_52 c_52, .int .i64 x_54], .int .i64 x_45]) h48) (letK (IntKind.i64.wrap (x0 - 1)) fun n55 =>
  0 ≤ n55 ∧ letK (shlI .u64 1 n55) fun n56 =>
  0 ≤ x0 ∧ letK (shlI .u64 1 x0) fun n57 =>
  letK (IntKind.u64.wrap (n57 - 1)) fun n58 =>
  HC nearpi_from.id #[.slice a_43 l_43 c_43, .int .u64 n56, .int .u64 n58, .bool true] h40 fun v59 h60 =>
  gTup v59 fun y61 =>
  uncons y61 fun v62 y62 =>
  gInt .u64 v62 fun x_63 =>
  uncons y62 fun v64 y64 =>
  gSlice v64 fun a_65 l_65 c_65 =>
  unnil y64 <| HC nearpi_firstOver.id #[.slice a_43 l_43 c_43, .int .u64 n56, .int .u64 n58] h60 fun v66 h67 =>
  gInt .u64 v66 fun x_68 =>
  cond (decide (x_68 ≤ n58)) (HC nearpi_from.id #[.slice a_43 l_43 c_43, .int .u64 x_68, .int .u64 n58, .bool false] h67 fun v69 h70 =>
  gTup v69 fun y71 =>
  uncons y71 fun v72 y72 =>
  gInt .u64 v72 fun x_73 =>
  uncons y72 fun v74 y74 =>
  gSlice v74 fun a_75 l_75 c_75 =>
  unnil y74 <| HC nat_Cmp.id #[.slice a_75 l_75 c_75, .slice a_65 l_65 c_65] h70 fun v76 h77 =>
  gInt .i64 v76 fun x_78 =>
  cond (decide (x_78 < 0)) (D3.t R x1 q4 a_43 l_43 c_43 x_73 false h77) (D3.t R x1 q4 a_43 l_43 c_43 x_63 true h77)) (D3.t R x1 q4 a_43 l_43 c_43 x_63 true h67))
def D2.g (R : Rt) (fr : Fr) (h : Hp) : Prop := gInt .i64 (fr 0) fun x0 => gInt .i64 (fr 1) fun x1 => gPtrS (fr 4) fun q4 => D2.t R x0 x1 q4 h
theorem D2.ok (R : Rt) (fr : Fr) (h : Hp) (g : D2.g R fr h) : den prog E (cAt C [true, true]) (retQ E [.cell 4 50, .tmp 5] R) fr h := by
  obtain ⟨x0, e0, g⟩ := gInt_elim g
  obtain ⟨x1, e1, g⟩ := gInt_elim g
  obtain ⟨q4, e4, g⟩ := gPtrS_elim g
  exact den_cut 6 (r := (cAt C [true, true, true, true, true, true, true, true])) (by kernel_rfl) (D3.ok R) (den_enter [(0, .int .i64 x0), (1, .int .i64 x1), (4, .pointer (some q4))] ⟨e0, e1, e4, trivial⟩ (by kernel_rfl) g)
def D1.t (R : Rt) (x0 : Int) (x1 : Int) (h : Hp) : Prop :=
  boxK h 50 T50.zs fun q1 h2 =>
  cond (decide (x0 < 1)) (stK h2 (q1.add 0) (.int .u64 0) fun h3 =>
  stK h3 (q1.add 1) (.slice none 0 0) fun h4 =>
  stK h4 (q1.add 2) (.int .i64 0) fun h5 =>
  ldK h5 (q1.add 0) fun v6 =>
  gInt .u64 v6 fun x_7 =>
  ldK h5 (q1.add 1) fun v8 =>
  gSlice v8 fun a_9 l_9 c_9 =>
  ldK h5 (q1.add 2) fun v10 =>
  gInt .i64 v10 fun x_11 =>
  R (.tuple #[.agg #[.int .u64 x_7, .slice a_9 l_9 c_9, .int .i64 x_11], .int .i64 1]) h5) (cond (decide (x0 > 53)) (stK h2 (q1.add 0) (.int .u64 0) fun h12 =>
  stK h12 (q1.add 1) (.slice none 0 0) fun h13 =>
  stK h13 (q1.add 2) (.int .i64 0) fun h14 =>
  ldK h14 (q1.add 0) fun v15 =>
  gInt .u64 v15 fun x_16 =>
  ldK h14 (q1.add 1) fun v17 =>
  gSlice v17 fun a_18 l_18 c_18 =>
  ldK h14 (q1.add 2) fun v19 =>
  gInt .i64 v19 fun x_20 =>
  R (.tuple #[.agg #[.int .u64 x_16, .slice a_18 l_18 c_18, .int .i64 x_20], .int .i64 1]) h14) (cond (decide (x1 < (-64))) (stK h2 (q1.add 0) (.int .u64 0) fun h21 =>
  stK h21 (q1.add 1) (.slice none 0 0) fun h22 =>
  stK h22 (q1.add 2) (.int .i64 0) fun h23 =>
  ldK h23 (q1.add 0) fun v24 =>
  gInt .u64 v24 fun x_25 =>
  ldK h23 (q1.add 1) fun v26 =>
  gSlice v26 fun a_27 l_27 c_27 =>
  ldK h23 (q1.add 2) fun v28 =>
  gInt .i64 v28 fun x_29 =>
  R (.tuple #[.agg #[.int .u64 x_25, .slice a_27 l_27 c_27, .int .i64 x_29], .int .i64 1]) h23) (cond (decide (x1 > 971)) (stK h2 (q1.add 0) (.int .u64 0) fun h30 =>
  stK h30 (q1.add 1) (.slice none 0 0) fun h31 =>
  stK h31 (q1.add 2) (.int .i64 0) fun h32 =>
  ldK h32 (q1.add 0) fun v33 =>
  gInt .u64 v33 fun x_34 =>
  ldK h32 (q1.add 1) fun v35 =>
  gSlice v35 fun a_36 l_36 c_36 =>
  ldK h32 (q1.add 2) fun v37 =>
  gInt .i64 v37 fun x_38 =>
  R (.tuple #[.agg #[.int .u64 x_34, .slice a_36 l_36 c_36, .int .i64 x_38], .int .i64 1]) h32) (D2.t R x0 x1 q1 h2))))
def D1.g (R : Rt) (fr : Fr) (h : Hp) : Prop := gInt .i64 (fr 0) fun x0 => gInt .i64 (fr 1) fun x1 => D1.t R x0 x1 h
theorem D1.ok (R : Rt) (fr : Fr) (h : Hp) (g : D1.g R fr h) : den prog E C (retQ E [.cell 4 50, .tmp 5] R) fr h := by
  obtain ⟨x0, e0, g⟩ := gInt_elim g
  obtain ⟨x1, e1, g⟩ := gInt_elim g
  exact den_cut 2 (r := (cAt C [true, true])) (by kernel_rfl) (D2.ok R) (den_enter [(0, .int .i64 x0), (1, .int .i64 x1)] ⟨e0, e1, trivial⟩ (by kernel_rfl) g)
def t (x0 : Int) (x1 : Int) (h : Hp) (R : Rt) : Prop := D1.t R x0 x1 h
theorem ok {x0 : Int} {x1 : Int} {h : Hp} {R : Rt} (g : t x0 x1 h R) : HC id #[.int .i64 x0, .int .i64 x1] h R :=
  calls_of_den' envOk (c := C) (rs := [.cell 4 50, .tmp 5]) Try.func24 (by kernel_rfl) (by kernel_rfl) (by kernel_rfl) (args := [.int .i64 x0, .int .i64 x1]) (by kernel_rfl) (D1.ok R _ h (gInt_intro rfl (gInt_intro rfl (g))))
end nearpi_Nearest

namespace nat_Word
noncomputable def C : Code := bodyOf Try.f26
def D1.t (R : Rt) (x0 : Int) (h : Hp) : Prop :=
  cond (x0 == 0) (R (.slice none 0 0) h) (boxK h 45 [.int .u64 x0] fun q1 h2 => R (.slice (some q1) 1 1) h2)
def D1.g (R : Rt) (fr : Fr) (h : Hp) : Prop := gInt .u64 (fr 0) fun x0 => D1.t R x0 h
theorem D1.ok (R : Rt) (fr : Fr) (h : Hp) (g : D1.g R fr h) : den prog E C (retQ E [.tmp 2] R) fr h := by
  obtain ⟨x0, e0, g⟩ := gInt_elim g
  exact den_enter [(0, .int .u64 x0)] ⟨e0, trivial⟩ (by kernel_rfl) g
def t (x0 : Int) (h : Hp) (R : Rt) : Prop := D1.t R x0 h
theorem ok {x0 : Int} {h : Hp} {R : Rt} (g : t x0 h R) : HC id #[.int .u64 x0] h R :=
  calls_of_den' envOk (c := C) (rs := [.tmp 2]) Try.func26 (by kernel_rfl) (by kernel_rfl) (by kernel_rfl) (args := [.int .u64 x0]) (by kernel_rfl) (D1.ok R _ h (gInt_intro rfl (g)))
end nat_Word

namespace nearpi_plus
noncomputable def C : Code := bodyOf Try.f27
def D1.t (R : Rt) (a0 : Option Addr) (l0 : Nat) (c0 : Nat) (x1 : Int) (a2 : Option Addr) (l2 : Nat) (c2 : Nat) (h : Hp) : Prop :=
  HC nat_MulWord.id #[.slice a0 l0 c0, .int .u64 x1] h fun v1 h2 =>
  gTup v1 fun y3 =>
  uncons y3 fun v4 y4 =>
  gSlice v4 fun a_5 l_5 c_5 =>
  uncons y4 fun v6 y6 =>
  gInt .i64 v6 fun x_7 =>
  unnil y6 <| cond (x_7 != 0) (R (.tuple #[.slice none 0 0, .int .i64 x_7]) h2) (HC nat_Add.id #[.slice a_5 l_5 c_5, .slice a2 l2 c2] h2 fun v8 h9 =>
  gTup v8 fun y10 =>
  uncons y10 fun v11 y11 =>
  gSlice v11 fun a_12 l_12 c_12 =>
  uncons y11 fun v13 y13 =>
  gInt .i64 v13 fun x_14 =>
  unnil y13 <| R (.tuple #[.slice a_12 l_12 c_12, .int .i64 x_14]) h9)
def D1.g (R : Rt) (fr : Fr) (h : Hp) : Prop := gSlice (fr 0) fun a0 l0 c0 => gInt .u64 (fr 1) fun x1 => gSlice (fr 2) fun a2 l2 c2 => D1.t R a0 l0 c0 x1 a2 l2 c2 h
theorem D1.ok (R : Rt) (fr : Fr) (h : Hp) (g : D1.g R fr h) : den prog E C (retQ E [.tmp 6, .tmp 7] R) fr h := by
  obtain ⟨a0, l0, c0, e0, g⟩ := gSlice_elim g
  obtain ⟨x1, e1, g⟩ := gInt_elim g
  obtain ⟨a2, l2, c2, e2, g⟩ := gSlice_elim g
  exact den_enter [(0, .slice a0 l0 c0), (1, .int .u64 x1), (2, .slice a2 l2 c2)] ⟨e0, e1, e2, trivial⟩ (by kernel_rfl) g
def t (a0 : Option Addr) (l0 : Nat) (c0 : Nat) (x1 : Int) (a2 : Option Addr) (l2 : Nat) (c2 : Nat) (h : Hp) (R : Rt) : Prop := D1.t R a0 l0 c0 x1 a2 l2 c2 h
theorem ok {a0 : Option Addr} {l0 : Nat} {c0 : Nat} {x1 : Int} {a2 : Option Addr} {l2 : Nat} {c2 : Nat} {h : Hp} {R : Rt} (g : t a0 l0 c0 x1 a2 l2 c2 h R) : HC id #[.slice a0 l0 c0, .int .u64 x1, .slice a2 l2 c2] h R :=
  calls_of_den' envOk (c := C) (rs := [.tmp 6, .tmp 7]) Try.func27 (by kernel_rfl) (by kernel_rfl) (by kernel_rfl) (args := [.slice a0 l0 c0, .int .u64 x1, .slice a2 l2 c2]) (by kernel_rfl) (D1.ok R _ h (gSlice_intro rfl (gInt_intro rfl (gSlice_intro rfl (g)))))
end nearpi_plus

namespace gnomonref01_Norm
noncomputable def C : Code := bodyOf Try.f28
def D2.t (R : Rt) (a0 : Option Addr) (l0 : Nat) (c0 : Nat) (x3 : Int) (h : Hp) : Prop :=
  mkK h 56 T56 x3 x3 fun q1 h2 =>
  slK 1 a0 l0 c0 none (some (.int .i64 x3)) none fun a_3 l_3 c_3 =>
  cpK h2 1 (some q1) x3.toNat (.slice a_3 l_3 c_3) fun n4 h4 =>
  R (.slice (some q1) x3.toNat x3.toNat) h4
def D2.g (R : Rt) (fr : Fr) (h : Hp) : Prop := gSlice (fr 0) fun a0 l0 c0 => gInt .i64 (fr 3) fun x3 => D2.t R a0 l0 c0 x3 h
theorem D2.ok (R : Rt) (fr : Fr) (h : Hp) (g : D2.g R fr h) : den prog E (cAt C [true, true, true]) (retQ E [.tmp 2] R) fr h := by
  obtain ⟨a0, l0, c0, e0, g⟩ := gSlice_elim g
  obtain ⟨x3, e3, g⟩ := gInt_elim g
  exact den_enter [(0, .slice a0 l0 c0), (3, .int .i64 x3)] ⟨e0, e3, trivial⟩ (by kernel_rfl) g
def L3.g (N : Option Addr → Nat → Nat → Int → Hp → Prop) (fr : Fr) (h : Hp) : Prop := gSlice (fr 0) fun a0 l0 c0 => gInt .i64 (fr 3) fun x3 => N a0 l0 c0 x3 h
def D4.t (R : Rt) (N3 : Option Addr → Nat → Nat → Int → Hp → Prop) (a0 : Option Addr) (l0 : Nat) (c0 : Nat) (x3 : Int) (h : Hp) : Prop :=
  cond (decide (x3 > 0)) (letK (IntKind.i64.wrap (x3 - 1)) fun n5 =>
  idxK a0 l0 n5 1 fun q6 =>
  ldK h q6 fun v7 =>
  gInt .u32 v7 fun x_8 =>
  cond (x_8 == 0) (letK (IntKind.i64.wrap (x3 - 1)) fun n9 =>
  N3 a0 l0 c0 n9 h) (D2.t R a0 l0 c0 x3 h)) (D2.t R a0 l0 c0 x3 h)
def D4.g (R : Rt) (N3 : Option Addr → Nat → Nat → Int → Hp → Prop) (fr : Fr) (h : Hp) : Prop := gSlice (fr 0) fun a0 l0 c0 => gInt .i64 (fr 3) fun x3 => D4.t R N3 a0 l0 c0 x3 h
theorem D4.ok (R : Rt) (N3 : Option Addr → Nat → Nat → Int → Hp → Prop) (fr : Fr) (h : Hp) (g : D4.g R N3 fr h) : den prog E (cAt C [true, true, false, false, false]) (Ex.then (L3.g N3) (Ex.inBlock 0 (Ex.then (D2.g R) (retQ E [.tmp 2] R)))) fr h := by
  obtain ⟨a0, l0, c0, e0, g⟩ := gSlice_elim g
  obtain ⟨x3, e3, g⟩ := gInt_elim g
  exact den_enter [(0, .slice a0 l0 c0), (3, .int .i64 x3)] ⟨e0, e3, trivial⟩ (by kernel_rfl) g
def L3.t (R : Rt) : Nat → Option Addr → Nat → Nat → Int → Hp → Prop
  | 0 => fun _ _ _ _ _ => False
  | n + 1 => fun a0 l0 c0 x3 h => D4.t R (L3.t R n) a0 l0 c0 x3 h
theorem L3.ok (R : Rt) (fr : Fr) (h : Hp) (g : L3.g (fun a0 l0 c0 x3 h => ∃ n, L3.t R n a0 l0 c0 x3 h) fr h) : den prog E (cAt C [true, true, false, false]) (Ex.inBlock 0 (Ex.then (D2.g R) (retQ E [.tmp 2] R))) fr h := by
  obtain ⟨a0, l0, c0, e0, g⟩ := gSlice_elim g
  obtain ⟨x3, e3, g⟩ := gInt_elim g
  obtain ⟨n, g⟩ := g
  refine loop_ok (fun n => L3.g (L3.t R n)) (b := (cAt C [true, true, false, false, false])) (by kernel_rfl) (fun fr h g => ?_) (fun n => D4.ok R (L3.t R n)) n fr h (gSlice_intro e0 (gInt_intro e3 (g)))
  obtain ⟨a0, l0, c0, e0, g⟩ := gSlice_elim g
  obtain ⟨x3, e3, g⟩ := gInt_elim g
  exact g
theorem B5.ok (R : Rt) (fr : Fr) (h : Hp) (g : L3.g (fun a0 l0 c0 x3 h => ∃ n, L3.t R n a0 l0 c0 x3 h) fr h) : den prog E (cAt C [true, true, false]) (Ex.then (D2.g R) (retQ E [.tmp 2] R)) fr h :=
  den_block (by kernel_rfl) (L3.ok R fr h g)
theorem W6.ok (R : Rt) (fr : Fr) (h : Hp) (g : L3.g (fun a0 l0 c0 x3 h => ∃ n, L3.t R n a0 l0 c0 x3 h) fr h) : den prog E (cAt C [true, true]) (retQ E [.tmp 2] R) fr h :=
  den_then (by kernel_rfl) (D2.ok R) (B5.ok R fr h g)
def D1.t (R : Rt) (a0 : Option Addr) (l0 : Nat) (c0 : Nat) (h : Hp) : Prop :=
  (∃ n, L3.t R n a0 l0 c0 (((l0 : Nat) : Int)) h)
def D1.g (R : Rt) (fr : Fr) (h : Hp) : Prop := gSlice (fr 0) fun a0 l0 c0 => D1.t R a0 l0 c0 h
theorem D1.ok (R : Rt) (fr : Fr) (h : Hp) (g : D1.g R fr h) : den prog E C (retQ E [.tmp 2] R) fr h := by
  obtain ⟨a0, l0, c0, e0, g⟩ := gSlice_elim g
  exact den_cut 2 (r := (cAt C [true, true])) (by kernel_rfl) (W6.ok R) (den_enter [(0, .slice a0 l0 c0)] ⟨e0, trivial⟩ (by kernel_rfl) g)
def t (a0 : Option Addr) (l0 : Nat) (c0 : Nat) (h : Hp) (R : Rt) : Prop := D1.t R a0 l0 c0 h
theorem ok {a0 : Option Addr} {l0 : Nat} {c0 : Nat} {h : Hp} {R : Rt} (g : t a0 l0 c0 h R) : HC id #[.slice a0 l0 c0] h R :=
  calls_of_den' envOk (c := C) (rs := [.tmp 2]) Try.func28 (by kernel_rfl) (by kernel_rfl) (by kernel_rfl) (args := [.slice a0 l0 c0]) (by kernel_rfl) (D1.ok R _ h (gSlice_intro rfl (g)))
end gnomonref01_Norm

namespace gnomonref04_Add
noncomputable def C : Code := bodyOf Try.f29
def D1.t (R : Rt) (b0_0 : Bool) (a0_1 : Option Addr) (l0_1 : Nat) (c0_1 : Nat) (b1_0 : Bool) (a1_1 : Option Addr) (l1_1 : Nat) (c1_1 : Nat) (h : Hp) : Prop :=
  boxK h 31 [.bool b0_0, .slice a0_1 l0_1 c0_1] fun q1 h2 =>
  boxK h2 31 [.bool b1_0, .slice a1_1 l1_1 c1_1] fun q3 h4 =>
  boxK h4 31 T31.zs fun q5 h6 =>
  ldK h6 (q1.add 0) fun v7 =>
  gBool v7 fun b_8 =>
  ldK h6 (q3.add 0) fun v9 =>
  gBool v9 fun b_10 =>
  cond (b_8 == b_10) ((q1.add 0).block < h6.size ∧ ldK h6 (q1.add 0) fun v11 =>
  gBool v11 fun b_12 =>
  (q1.add 1).block < h6.size ∧ ldK h6 (q1.add 1) fun v13 =>
  gSlice v13 fun a_14 l_14 c_14 =>
  (q3.add 1).block < h6.size ∧ ldK h6 (q3.add 1) fun v15 =>
  gSlice v15 fun a_16 l_16 c_16 =>
  HC gnomonref01_Add.id #[.slice a_14 l_14 c_14, .slice a_16 l_16 c_16] h6 fun v17 h18 =>
  gSlice v17 fun a_19 l_19 c_19 =>
  (Pre h6.size h6 h18) ∧ HC gnomonref04_Mk.id #[.bool b_12, .slice a_19 l_19 c_19] h18 fun v20 h21 =>
  gAgg v20 fun y22 =>
  uncons y22 fun v23 y23 =>
  gBool v23 fun b_24 =>
  uncons y23 fun v25 y25 =>
  gSlice v25 fun a_26 l_26 c_26 =>
  unnil y25 <| (Pre h6.size h18 h21) ∧ stK h21 (q5.add 0) (.bool b_24) fun h27 =>
  stK h27 (q5.add 1) (.slice a_26 l_26 c_26) fun h28 =>
  ldK h28 (q5.add 0) fun v29 =>
  gBool v29 fun b_30 =>
  ldK h28 (q5.add 1) fun v31 =>
  gSlice v31 fun a_32 l_32 c_32 =>
  R (.agg #[.bool b_30, .slice a_32 l_32 c_32]) h28) (ldK h6 (q1.add 1) fun v33 =>
  gSlice v33 fun a_34 l_34 c_34 =>
  ldK h6 (q3.add 1) fun v35 =>
  gSlice v35 fun a_36 l_36 c_36 =>
  HC gnomonref01_Cmp.id #[.slice a_34 l_34 c_34, .slice a_36 l_36 c_36] h6 fun v37 h38 =>
  gInt .i64 v37 fun x_39 =>
  cond (decide (x_39 ≥ 0)) ((q1.add 0).block < h38.size ∧ ldK h38 (q1.add 0) fun v40 =>
  gBool v40 fun b_41 =>
  (q1.add 1).block < h38.size ∧ ldK h38 (q1.add 1) fun v42 =>
  gSlice v42 fun a_43 l_43 c_43 =>
  (q3.add 1).block < h38.size ∧ ldK h38 (q3.add 1) fun v44 =>
  gSlice v44 fun a_45 l_45 c_45 =>
  HC gnomonref01_Sub.id #[.slice a_43 l_43 c_43, .slice a_45 l_45 c_45] h38 fun v46 h47 =>
  gSlice v46 fun a_48 l_48 c_48 =>
  (Pre h38.size h38 h47) ∧ HC gnomonref04_Mk.id #[.bool b_41, .slice a_48 l_48 c_48] h47 fun v49 h50 =>
  gAgg v49 fun y51 =>
  uncons y51 fun v52 y52 =>
  gBool v52 fun b_53 =>
  uncons y52 fun v54 y54 =>
  gSlice v54 fun a_55 l_55 c_55 =>
  unnil y54 <| (Pre h38.size h47 h50) ∧ stK h50 (q5.add 0) (.bool b_53) fun h56 =>
  stK h56 (q5.add 1) (.slice a_55 l_55 c_55) fun h57 =>
  ldK h57 (q5.add 0) fun v58 =>
  gBool v58 fun b_59 =>
  ldK h57 (q5.add 1) fun v60 =>
  gSlice v60 fun a_61 l_61 c_61 =>
  R (.agg #[.bool b_59, .slice a_61 l_61 c_61]) h57) ((q3.add 0).block < h38.size ∧ ldK h38 (q3.add 0) fun v62 =>
  gBool v62 fun b_63 =>
  (q3.add 1).block < h38.size ∧ ldK h38 (q3.add 1) fun v64 =>
  gSlice v64 fun a_65 l_65 c_65 =>
  (q1.add 1).block < h38.size ∧ ldK h38 (q1.add 1) fun v66 =>
  gSlice v66 fun a_67 l_67 c_67 =>
  HC gnomonref01_Sub.id #[.slice a_65 l_65 c_65, .slice a_67 l_67 c_67] h38 fun v68 h69 =>
  gSlice v68 fun a_70 l_70 c_70 =>
  (Pre h38.size h38 h69) ∧ HC gnomonref04_Mk.id #[.bool b_63, .slice a_70 l_70 c_70] h69 fun v71 h72 =>
  gAgg v71 fun y73 =>
  uncons y73 fun v74 y74 =>
  gBool v74 fun b_75 =>
  uncons y74 fun v76 y76 =>
  gSlice v76 fun a_77 l_77 c_77 =>
  unnil y76 <| (Pre h38.size h69 h72) ∧ stK h72 (q5.add 0) (.bool b_75) fun h78 =>
  stK h78 (q5.add 1) (.slice a_77 l_77 c_77) fun h79 =>
  ldK h79 (q5.add 0) fun v80 =>
  gBool v80 fun b_81 =>
  ldK h79 (q5.add 1) fun v82 =>
  gSlice v82 fun a_83 l_83 c_83 =>
  R (.agg #[.bool b_81, .slice a_83 l_83 c_83]) h79))
def D1.g (R : Rt) (fr : Fr) (h : Hp) : Prop := gAgg (fr 0) fun z0 => uncons z0 fun w0_0 z0_0 => gBool w0_0 fun b0_0 => uncons z0_0 fun w0_1 z0_1 => gSlice w0_1 fun a0_1 l0_1 c0_1 => unnil z0_1 <| gAgg (fr 1) fun z1 => uncons z1 fun w1_0 z1_0 => gBool w1_0 fun b1_0 => uncons z1_0 fun w1_1 z1_1 => gSlice w1_1 fun a1_1 l1_1 c1_1 => unnil z1_1 <| D1.t R b0_0 a0_1 l0_1 c0_1 b1_0 a1_1 l1_1 c1_1 h
theorem D1.ok (R : Rt) (fr : Fr) (h : Hp) (g : D1.g R fr h) : den prog E C (retQ E [.cell 4 31] R) fr h := by
  obtain ⟨z0, e0, g0_0⟩ := gAgg_elim' g
  obtain ⟨w0_0, z0_0, rfl, g0_0x⟩ := uncons_elim g0_0
  obtain ⟨b0_0, rfl, g0_1⟩ := gBool_elim g0_0x
  obtain ⟨w0_1, z0_1, rfl, g0_1x⟩ := uncons_elim g0_1
  obtain ⟨a0_1, l0_1, c0_1, rfl, g0_2⟩ := gSlice_elim g0_1x
  obtain ⟨rfl, g⟩ := unnil_elim g0_2
  obtain ⟨z1, e1, g1_0⟩ := gAgg_elim' g
  obtain ⟨w1_0, z1_0, rfl, g1_0x⟩ := uncons_elim g1_0
  obtain ⟨b1_0, rfl, g1_1⟩ := gBool_elim g1_0x
  obtain ⟨w1_1, z1_1, rfl, g1_1x⟩ := uncons_elim g1_1
  obtain ⟨a1_1, l1_1, c1_1, rfl, g1_2⟩ := gSlice_elim g1_1x
  obtain ⟨rfl, g⟩ := unnil_elim g1_2
  exact den_enter [(0, .agg #[.bool b0_0, .slice a0_1 l0_1 c0_1]), (1, .agg #[.bool b1_0, .slice a1_1 l1_1 c1_1])] ⟨e0, e1, trivial⟩ (by kernel_rfl) g
def t (b0_0 : Bool) (a0_1 : Option Addr) (l0_1 : Nat) (c0_1 : Nat) (b1_0 : Bool) (a1_1 : Option Addr) (l1_1 : Nat) (c1_1 : Nat) (h : Hp) (R : Rt) : Prop := D1.t R b0_0 a0_1 l0_1 c0_1 b1_0 a1_1 l1_1 c1_1 h
theorem ok {b0_0 : Bool} {a0_1 : Option Addr} {l0_1 : Nat} {c0_1 : Nat} {b1_0 : Bool} {a1_1 : Option Addr} {l1_1 : Nat} {c1_1 : Nat} {h : Hp} {R : Rt} (g : t b0_0 a0_1 l0_1 c0_1 b1_0 a1_1 l1_1 c1_1 h R) : HC id #[.agg #[.bool b0_0, .slice a0_1 l0_1 c0_1], .agg #[.bool b1_0, .slice a1_1 l1_1 c1_1]] h R :=
  calls_of_den' envOk (c := C) (rs := [.cell 4 31]) Try.func29 (by kernel_rfl) (by kernel_rfl) (by kernel_rfl) (args := [.agg #[.bool b0_0, .slice a0_1 l0_1 c0_1], .agg #[.bool b1_0, .slice a1_1 l1_1 c1_1]]) (by kernel_rfl) (D1.ok R _ h (gAgg_intro rfl (uncons_intro (gBool_intro rfl (uncons_intro (gSlice_intro rfl (unnil_intro (gAgg_intro rfl (uncons_intro (gBool_intro rfl (uncons_intro (gSlice_intro rfl (unnil_intro (g))))))))))))))
end gnomonref04_Add

namespace gnomonref04_Flip
noncomputable def C : Code := bodyOf Try.f30
def D1.t (R : Rt) (b0_0 : Bool) (a0_1 : Option Addr) (l0_1 : Nat) (c0_1 : Nat) (h : Hp) : Prop :=
  boxK h 31 [.bool b0_0, .slice a0_1 l0_1 c0_1] fun q1 h2 =>
  boxK h2 31 T31.zs fun q3 h4 =>
  ldK h4 (q1.add 0) fun v5 =>
  gBool v5 fun b_6 =>
  ldK h4 (q1.add 1) fun v7 =>
  gSlice v7 fun a_8 l_8 c_8 =>
  HC gnomonref04_Mk.id #[.bool (!b_6), .slice a_8 l_8 c_8] h4 fun v9 h10 =>
  gAgg v9 fun y11 =>
  uncons y11 fun v12 y12 =>
  gBool v12 fun b_13 =>
  uncons y12 fun v14 y14 =>
  gSlice v14 fun a_15 l_15 c_15 =>
  unnil y14 <| stK h10 (q3.add 0) (.bool b_13) fun h16 =>
  stK h16 (q3.add 1) (.slice a_15 l_15 c_15) fun h17 =>
  ldK h17 (q3.add 0) fun v18 =>
  gBool v18 fun b_19 =>
  ldK h17 (q3.add 1) fun v20 =>
  gSlice v20 fun a_21 l_21 c_21 =>
  R (.agg #[.bool b_19, .slice a_21 l_21 c_21]) h17
def D1.g (R : Rt) (fr : Fr) (h : Hp) : Prop := gAgg (fr 0) fun z0 => uncons z0 fun w0_0 z0_0 => gBool w0_0 fun b0_0 => uncons z0_0 fun w0_1 z0_1 => gSlice w0_1 fun a0_1 l0_1 c0_1 => unnil z0_1 <| D1.t R b0_0 a0_1 l0_1 c0_1 h
theorem D1.ok (R : Rt) (fr : Fr) (h : Hp) (g : D1.g R fr h) : den prog E C (retQ E [.cell 2 31] R) fr h := by
  obtain ⟨z0, e0, g0_0⟩ := gAgg_elim' g
  obtain ⟨w0_0, z0_0, rfl, g0_0x⟩ := uncons_elim g0_0
  obtain ⟨b0_0, rfl, g0_1⟩ := gBool_elim g0_0x
  obtain ⟨w0_1, z0_1, rfl, g0_1x⟩ := uncons_elim g0_1
  obtain ⟨a0_1, l0_1, c0_1, rfl, g0_2⟩ := gSlice_elim g0_1x
  obtain ⟨rfl, g⟩ := unnil_elim g0_2
  exact den_enter [(0, .agg #[.bool b0_0, .slice a0_1 l0_1 c0_1])] ⟨e0, trivial⟩ (by kernel_rfl) g
def t (b0_0 : Bool) (a0_1 : Option Addr) (l0_1 : Nat) (c0_1 : Nat) (h : Hp) (R : Rt) : Prop := D1.t R b0_0 a0_1 l0_1 c0_1 h
theorem ok {b0_0 : Bool} {a0_1 : Option Addr} {l0_1 : Nat} {c0_1 : Nat} {h : Hp} {R : Rt} (g : t b0_0 a0_1 l0_1 c0_1 h R) : HC id #[.agg #[.bool b0_0, .slice a0_1 l0_1 c0_1]] h R :=
  calls_of_den' envOk (c := C) (rs := [.cell 2 31]) Try.func30 (by kernel_rfl) (by kernel_rfl) (by kernel_rfl) (args := [.agg #[.bool b0_0, .slice a0_1 l0_1 c0_1]]) (by kernel_rfl) (D1.ok R _ h (gAgg_intro rfl (uncons_intro (gBool_intro rfl (uncons_intro (gSlice_intro rfl (unnil_intro (g))))))))
end gnomonref04_Flip

namespace gnomonref07_arctan
noncomputable def C : Code := bodyOf Try.f31
def D2.t (R : Rt) (a8 : Option Addr) (l8 : Nat) (c8 : Nat) (a9 : Option Addr) (l9 : Nat) (c9 : Nat) (x10 : Int) (h : Hp) : Prop :=
  HC gnomonref01_Sub.id #[.slice a8 l8 c8, .slice a9 l9 c9] h fun v17 h18 =>
  gSlice v17 fun a_19 l_19 c_19 =>
  R (.tuple #[.slice a_19 l_19 c_19, .int .i64 x10]) h18
def D2.g (R : Rt) (fr : Fr) (h : Hp) : Prop := gSlice (fr 8) fun a8 l8 c8 => gSlice (fr 9) fun a9 l9 c9 => gInt .i64 (fr 10) fun x10 => D2.t R a8 l8 c8 a9 l9 c9 x10 h
theorem D2.ok (R : Rt) (fr : Fr) (h : Hp) (g : D2.g R fr h) : den prog E (cAt C [true, true, true, true, true]) (retQ E [.tmp 4, .tmp 5] R) fr h := by
  obtain ⟨a8, l8, c8, e8, g⟩ := gSlice_elim g
  obtain ⟨a9, l9, c9, e9, g⟩ := gSlice_elim g
  obtain ⟨x10, e10, g⟩ := gInt_elim g
  exact den_enter [(8, .slice a8 l8 c8), (9, .slice a9 l9 c9), (10, .int .i64 x10)] ⟨e8, e9, e10, trivial⟩ (by kernel_rfl) g
def L4.g (N : Int → Option Addr → Nat → Nat → Option Addr → Nat → Nat → Option Addr → Nat → Nat → Int → Int → Hp → Prop) (fr : Fr) (h : Hp) : Prop := gInt .u32 (fr 0) fun x0 => gSlice (fr 6) fun a6 l6 c6 => gSlice (fr 8) fun a8 l8 c8 => gSlice (fr 9) fun a9 l9 c9 => gInt .i64 (fr 10) fun x10 => gInt .u32 (fr 11) fun x11 => N x0 a6 l6 c6 a8 l8 c8 a9 l9 c9 x10 x11 h
def D5.t (R : Rt) (N4 : Int → Option Addr → Nat → Nat → Option Addr → Nat → Nat → Option Addr → Nat → Nat → Int → Int → Hp → Prop) (x0 : Int) (a6 : Option Addr) (l6 : Nat) (c6 : Nat) (a8 : Option Addr) (l8 : Nat) (c8 : Nat) (a9 : Option Addr) (l9 : Nat) (c9 : Nat) (x10 : Int) (x11 : Int) (h : Hp) : Prop :=
  cond (decide ((((l6 : Nat) : Int)) > 0)) (HC gnomonref01_DivSmall.id #[.slice a6 l6 c6, .int .u32 x11] h fun v20 h21 =>
  gTup v20 fun y22 =>
  uncons y22 fun v23 y23 =>
  gSlice v23 fun a_24 l_24 c_24 =>
  uncons y23 fun v25 y25 =>
  gInt .u32 v25 fun x_26 =>
  unnil y25 <| (4 : Int) ≠ 0 ∧ letK (Int.tmod x11 4) fun n27 =>
  cond (n27 == 1) (HC gnomonref01_Add.id #[.slice a8 l8 c8, .slice a_24 l_24 c_24] h21 fun v28 h29 =>
  gSlice v28 fun a_30 l_30 c_30 =>
  HC gnomonref01_DivSmall.id #[.slice a6 l6 c6, .int .u32 x0] h29 fun v31 h32 =>
  gTup v31 fun y33 =>
  uncons y33 fun v34 y34 =>
  gSlice v34 fun a_35 l_35 c_35 =>
  uncons y34 fun v36 y36 =>
  gInt .u32 v36 fun x_37 =>
  unnil y36 <| HC gnomonref01_DivSmall.id #[.slice a_35 l_35 c_35, .int .u32 x0] h32 fun v38 h39 =>
  gTup v38 fun y40 =>
  uncons y40 fun v41 y41 =>
  gSlice v41 fun a_42 l_42 c_42 =>
  uncons y41 fun v43 y43 =>
  gInt .u32 v43 fun x_44 =>
  unnil y43 <| letK (IntKind.i64.wrap (x10 + 1)) fun n45 =>
  letK (IntKind.u32.wrap (x11 + 2)) fun n46 =>
  N4 x0 a_42 l_42 c_42 a_30 l_30 c_30 a9 l9 c9 n45 n46 h39) (HC gnomonref01_Add.id #[.slice a9 l9 c9, .slice a_24 l_24 c_24] h21 fun v47 h48 =>
  gSlice v47 fun a_49 l_49 c_49 =>
  HC gnomonref01_DivSmall.id #[.slice a6 l6 c6, .int .u32 x0] h48 fun v50 h51 =>
  gTup v50 fun y52 =>
  uncons y52 fun v53 y53 =>
  gSlice v53 fun a_54 l_54 c_54 =>
  uncons y53 fun v55 y55 =>
  gInt .u32 v55 fun x_56 =>
  unnil y55 <| HC gnomonref01_DivSmall.id #[.slice a_54 l_54 c_54, .int .u32 x0] h51 fun v57 h58 =>
  gTup v57 fun y59 =>
  uncons y59 fun v60 y60 =>
  gSlice v60 fun a_61 l_61 c_61 =>
  uncons y60 fun v62 y62 =>
  gInt .u32 v62 fun x_63 =>
  unnil y62 <| letK (IntKind.i64.wrap (x10 + 1)) fun n64 =>
  letK (IntKind.u32.wrap (x11 + 2)) fun n65 =>
  N4 x0 a_61 l_61 c_61 a8 l8 c8 a_49 l_49 c_49 n64 n65 h58)) (D2.t R a8 l8 c8 a9 l9 c9 x10 h)
def D5.g (R : Rt) (N4 : Int → Option Addr → Nat → Nat → Option Addr → Nat → Nat → Option Addr → Nat → Nat → Int → Int → Hp → Prop) (fr : Fr) (h : Hp) : Prop := gInt .u32 (fr 0) fun x0 => gSlice (fr 6) fun a6 l6 c6 => gSlice (fr 8) fun a8 l8 c8 => gSlice (fr 9) fun a9 l9 c9 => gInt .i64 (fr 10) fun x10 => gInt .u32 (fr 11) fun x11 => D5.t R N4 x0 a6 l6 c6 a8 l8 c8 a9 l9 c9 x10 x11 h
theorem D5.ok (R : Rt) (N4 : Int → Option Addr → Nat → Nat → Option Addr → Nat → Nat → Option Addr → Nat → Nat → Int → Int → Hp → Prop) (fr : Fr) (h : Hp) (g : D5.g R N4 fr h) : den prog E (cAt C [true, true, true, true, false, true, false, false]) (Ex.then (L4.g N4) (Ex.inBlock 0 (Ex.then (D2.g R) (retQ E [.tmp 4, .tmp 5] R)))) fr h := by
  obtain ⟨x0, e0, g⟩ := gInt_elim g
  obtain ⟨a6, l6, c6, e6, g⟩ := gSlice_elim g
  obtain ⟨a8, l8, c8, e8, g⟩ := gSlice_elim g
  obtain ⟨a9, l9, c9, e9, g⟩ := gSlice_elim g
  obtain ⟨x10, e10, g⟩ := gInt_elim g
  obtain ⟨x11, e11, g⟩ := gInt_elim g
  exact den_enter [(0, .int .u32 x0), (6, .slice a6 l6 c6), (8, .slice a8 l8 c8), (9, .slice a9 l9 c9), (10, .int .i64 x10), (11, .int .u32 x11)] ⟨e0, e6, e8, e9, e10, e11, trivial⟩ (by kernel_rfl) g
def L4.t (R : Rt) : Nat → Int → Option Addr → Nat → Nat → Option Addr → Nat → Nat → Option Addr → Nat → Nat → Int → Int → Hp → Prop
  | 0 => fun _ _ _ _ _ _ _ _ _ _ _ _ _ => False
  | n + 1 => fun x0 a6 l6 c6 a8 l8 c8 a9 l9 c9 x10 x11 h => D5.t R (L4.t R n) x0 a6 l6 c6 a8 l8 c8 a9 l9 c9 x10 x11 h
theorem L4.ok (R : Rt) (fr : Fr) (h : Hp) (g : L4.g (fun x0 a6 l6 c6 a8 l8 c8 a9 l9 c9 x10 x11 h => ∃ n, L4.t R n x0 a6 l6 c6 a8 l8 c8 a9 l9 c9 x10 x11 h) fr h) : den prog E (cAt C [true, true, true, true, false, true, false]) (Ex.inBlock 0 (Ex.then (D2.g R) (retQ E [.tmp 4, .tmp 5] R))) fr h := by
  obtain ⟨x0, e0, g⟩ := gInt_elim g
  obtain ⟨a6, l6, c6, e6, g⟩ := gSlice_elim g
  obtain ⟨a8, l8, c8, e8, g⟩ := gSlice_elim g
  obtain ⟨a9, l9, c9, e9, g⟩ := gSlice_elim g
  obtain ⟨x10, e10, g⟩ := gInt_elim g
  obtain ⟨x11, e11, g⟩ := gInt_elim g
  obtain ⟨n, g⟩ := g
  refine loop_ok (fun n => L4.g (L4.t R n)) (b := (cAt C [true, true, true, true, false, true, false, false])) (by kernel_rfl) (fun fr h g => ?_) (fun n => D5.ok R (L4.t R n)) n fr h (gInt_intro e0 (gSlice_intro e6 (gSlice_intro e8 (gSlice_intro e9 (gInt_intro e10 (gInt_intro e11 (g)))))))
  obtain ⟨x0, e0, g⟩ := gInt_elim g
  obtain ⟨a6, l6, c6, e6, g⟩ := gSlice_elim g
  obtain ⟨a8, l8, c8, e8, g⟩ := gSlice_elim g
  obtain ⟨a9, l9, c9, e9, g⟩ := gSlice_elim g
  obtain ⟨x10, e10, g⟩ := gInt_elim g
  obtain ⟨x11, e11, g⟩ := gInt_elim g
  exact g
theorem B6.ok (R : Rt) (fr : Fr) (h : Hp) (g : L4.g (fun x0 a6 l6 c6 a8 l8 c8 a9 l9 c9 x10 x11 h => ∃ n, L4.t R n x0 a6 l6 c6 a8 l8 c8 a9 l9 c9 x10 x11 h) fr h) : den prog E (cAt C [true, true, true, true, false, true]) (Ex.then (D2.g R) (retQ E [.tmp 4, .tmp 5] R)) fr h :=
  den_block (by kernel_rfl) (L4.ok R fr h g)
def D3.t (R : Rt) (x0 : Int) (a6 : Option Addr) (l6 : Nat) (c6 : Nat) (a8 : Option Addr) (l8 : Nat) (c8 : Nat) (a9 : Option Addr) (l9 : Nat) (c9 : Nat) (x10 : Int) (h : Hp) : Prop :=
  (∃ n, L4.t R n x0 a6 l6 c6 a8 l8 c8 a9 l9 c9 x10 1 h)
def D3.g (R : Rt) (fr : Fr) (h : Hp) : Prop := gInt .u32 (fr 0) fun x0 => gSlice (fr 6) fun a6 l6 c6 => gSlice (fr 8) fun a8 l8 c8 => gSlice (fr 9) fun a9 l9 c9 => gInt .i64 (fr 10) fun x10 => D3.t R x0 a6 l6 c6 a8 l8 c8 a9 l9 c9 x10 h
theorem D3.ok (R : Rt) (fr : Fr) (h : Hp) (g : D3.g R fr h) : den prog E (cAt C [true, true, true, true, false]) (Ex.then (D2.g R) (retQ E [.tmp 4, .tmp 5] R)) fr h := by
  obtain ⟨x0, e0, g⟩ := gInt_elim g
  obtain ⟨a6, l6, c6, e6, g⟩ := gSlice_elim g
  obtain ⟨a8, l8, c8, e8, g⟩ := gSlice_elim g
  obtain ⟨a9, l9, c9, e9, g⟩ := gSlice_elim g
  obtain ⟨x10, e10, g⟩ := gInt_elim g
  exact den_cut 1 (r := (cAt C [true, true, true, true, false, true])) (by kernel_rfl) (B6.ok R) (den_enter [(0, .int .u32 x0), (6, .slice a6 l6 c6), (8, .slice a8 l8 c8), (9, .slice a9 l9 c9), (10, .int .i64 x10)] ⟨e0, e6, e8, e9, e10, trivial⟩ (by kernel_rfl) g)
theorem W7.ok (R : Rt) (fr : Fr) (h : Hp) (g : D3.g R fr h) : den prog E (cAt C [true, true, true, true]) (retQ E [.tmp 4, .tmp 5] R) fr h :=
  den_then (by kernel_rfl) (D2.ok R) (D3.ok R fr h g)
def D1.t (R : Rt) (x0 : Int) (x1 : Int) (h : Hp) : Prop :=
  HC gnomonref01_Pow2.id #[.int .i64 x1] h fun v1 h2 =>
  gSlice v1 fun a_3 l_3 c_3 =>
  HC gnomonref01_DivSmall.id #[.slice a_3 l_3 c_3, .int .u32 x0] h2 fun v4 h5 =>
  gTup v4 fun y6 =>
  uncons y6 fun v7 y7 =>
  gSlice v7 fun a_8 l_8 c_8 =>
  uncons y7 fun v9 y9 =>
  gInt .u32 v9 fun x_10 =>
  unnil y9 <| HC gnomonref01_Word.id #[.int .u64 0] h5 fun v11 h12 =>
  gSlice v11 fun a_13 l_13 c_13 =>
  HC gnomonref01_Word.id #[.int .u64 0] h12 fun v14 h15 =>
  gSlice v14 fun a_16 l_16 c_16 =>
  D3.t R x0 a_8 l_8 c_8 a_13 l_13 c_13 a_16 l_16 c_16 0 h15
def D1.g (R : Rt) (fr : Fr) (h : Hp) : Prop := gInt .u32 (fr 0) fun x0 => gInt .i64 (fr 1) fun x1 => D1.t R x0 x1 h
theorem D1.ok (R : Rt) (fr : Fr) (h : Hp) (g : D1.g R fr h) : den prog E C (retQ E [.tmp 4, .tmp 5] R) fr h := by
  obtain ⟨x0, e0, g⟩ := gInt_elim g
  obtain ⟨x1, e1, g⟩ := gInt_elim g
  exact den_cut 4 (r := (cAt C [true, true, true, true])) (by kernel_rfl) (W7.ok R) (den_enter [(0, .int .u32 x0), (1, .int .i64 x1)] ⟨e0, e1, trivial⟩ (by kernel_rfl) g)
def t (x0 : Int) (x1 : Int) (h : Hp) (R : Rt) : Prop := D1.t R x0 x1 h
theorem ok {x0 : Int} {x1 : Int} {h : Hp} {R : Rt} (g : t x0 x1 h R) : HC id #[.int .u32 x0, .int .i64 x1] h R :=
  calls_of_den' envOk (c := C) (rs := [.tmp 4, .tmp 5]) Try.func31 (by kernel_rfl) (by kernel_rfl) (by kernel_rfl) (args := [.int .u32 x0, .int .i64 x1]) (by kernel_rfl) (D1.ok R _ h (gInt_intro rfl (gInt_intro rfl (g))))
end gnomonref07_arctan

namespace gnomonref01_Sub
noncomputable def C : Code := bodyOf Try.f32
def D2.t (R : Rt) (a5 : Option Addr) (l5 : Nat) (c5 : Nat) (h : Hp) : Prop :=
  HC gnomonref01_Norm.id #[.slice a5 l5 c5] h fun v9 h10 =>
  gSlice v9 fun a_11 l_11 c_11 =>
  R (.slice a_11 l_11 c_11) h10
def D2.g (R : Rt) (fr : Fr) (h : Hp) : Prop := gSlice (fr 5) fun a5 l5 c5 => D2.t R a5 l5 c5 h
theorem D2.ok (R : Rt) (fr : Fr) (h : Hp) (g : D2.g R fr h) : den prog E (cAt C [true, true, true, true, true]) (retQ E [.tmp 4] R) fr h := by
  obtain ⟨a5, l5, c5, e5, g⟩ := gSlice_elim g
  exact den_enter [(5, .slice a5 l5 c5)] ⟨e5, trivial⟩ (by kernel_rfl) g
def L4.g (N : Option Addr → Nat → Nat → Option Addr → Nat → Nat → Option Addr → Nat → Nat → Int → Int → Hp → Prop) (fr : Fr) (h : Hp) : Prop := gSlice (fr 0) fun a0 l0 c0 => gSlice (fr 1) fun a1 l1 c1 => gSlice (fr 5) fun a5 l5 c5 => gInt .u64 (fr 6) fun x6 => gInt .i64 (fr 7) fun x7 => N a0 l0 c0 a1 l1 c1 a5 l5 c5 x6 x7 h
def D5.t (R : Rt) (N4 : Option Addr → Nat → Nat → Option Addr → Nat → Nat → Option Addr → Nat → Nat → Int → Int → Hp → Prop) (a0 : Option Addr) (l0 : Nat) (c0 : Nat) (a1 : Option Addr) (l1 : Nat) (c1 : Nat) (a5 : Option Addr) (l5 : Nat) (c5 : Nat) (x6 : Int) (x7 : Int) (h : Hp) : Prop :=
  cond (decide (x7 < (((l0 : Nat) : Int)))) (cond (decide (x7 < (((l1 : Nat) : Int)))) (idxK a1 l1 x7 1 fun q12 =>
  ldK h q12 fun v13 =>
  gInt .u32 v13 fun x_14 =>
  letK (IntKind.u64.wrap x_14) fun n15 =>
  letK (IntKind.u64.wrap (x6 + n15)) fun n16 =>
  idxK a0 l0 x7 1 fun q17 =>
  ldK h q17 fun v18 =>
  gInt .u32 v18 fun x_19 =>
  letK (IntKind.u64.wrap x_19) fun n20 =>
  cond (decide (n20 < n16)) (letK (IntKind.u64.wrap (n20 + 4294967296)) fun n21 =>
  letK (IntKind.u64.wrap (n21 - n16)) fun n22 =>
  letK (IntKind.u32.wrap n22) fun n23 =>
  boxK h 56 [.int .u32 n23] fun q24 h25 =>
  apK h25 56 T56 a5 l5 c5 (.slice (some q24) 1 1) fun a_26 l_26 c_26 h26 =>
  letK (IntKind.i64.wrap (x7 + 1)) fun n27 =>
  N4 a0 l0 c0 a1 l1 c1 a_26 l_26 c_26 1 n27 h26) (letK (IntKind.u64.wrap (n20 - n16)) fun n28 =>
  letK (IntKind.u32.wrap n28) fun n29 =>
  boxK h 56 [.int .u32 n29] fun q30 h31 =>
  apK h31 56 T56 a5 l5 c5 (.slice (some q30) 1 1) fun a_32 l_32 c_32 h32 =>
  letK (IntKind.i64.wrap (x7 + 1)) fun n33 =>
  N4 a0 l0 c0 a1 l1 c1 a_32 l_32 c_32 0 n33 h32)) (idxK a0 l0 x7 1 fun q34 =>
  ldK h q34 fun v35 =>
  gInt .u32 v35 fun x_36 =>
  letK (IntKind.u64.wrap x_36) fun n37 =>
  cond (decide (n37 < x6)) (letK (IntKind.u64.wrap (n37 + 4294967296)) fun n38 =>
  letK (IntKind.u64.wrap (n38 - x6)) fun n39 =>
  letK (IntKind.u32.wrap n39) fun n40 =>
  boxK h 56 [.int .u32 n40] fun q41 h42 =>
  apK h42 56 T56 a5 l5 c5 (.slice (some q41) 1 1) fun a_43 l_43 c_43 h43 =>
  letK (IntKind.i64.wrap (x7 + 1)) fun n44 =>
  N4 a0 l0 c0 a1 l1 c1 a_43 l_43 c_43 1 n44 h43) (letK (IntKind.u64.wrap (n37 - x6)) fun n45 =>
  letK (IntKind.u32.wrap n45) fun n46 =>
  boxK h 56 [.int .u32 n46] fun q47 h48 =>
  apK h48 56 T56 a5 l5 c5 (.slice (some q47) 1 1) fun a_49 l_49 c_49 h49 =>
  letK (IntKind.i64.wrap (x7 + 1)) fun n50 =>
  N4 a0 l0 c0 a1 l1 c1 a_49 l_49 c_49 0 n50 h49))) (D2.t R a5 l5 c5 h)
def D5.g (R : Rt) (N4 : Option Addr → Nat → Nat → Option Addr → Nat → Nat → Option Addr → Nat → Nat → Int → Int → Hp → Prop) (fr : Fr) (h : Hp) : Prop := gSlice (fr 0) fun a0 l0 c0 => gSlice (fr 1) fun a1 l1 c1 => gSlice (fr 5) fun a5 l5 c5 => gInt .u64 (fr 6) fun x6 => gInt .i64 (fr 7) fun x7 => D5.t R N4 a0 l0 c0 a1 l1 c1 a5 l5 c5 x6 x7 h
theorem D5.ok (R : Rt) (N4 : Option Addr → Nat → Nat → Option Addr → Nat → Nat → Option Addr → Nat → Nat → Int → Int → Hp → Prop) (fr : Fr) (h : Hp) (g : D5.g R N4 fr h) : den prog E (cAt C [true, true, true, true, false, true, false, false]) (Ex.then (L4.g N4) (Ex.inBlock 0 (Ex.then (D2.g R) (retQ E [.tmp 4] R)))) fr h := by
  obtain ⟨a0, l0, c0, e0, g⟩ := gSlice_elim g
  obtain ⟨a1, l1, c1, e1, g⟩ := gSlice_elim g
  obtain ⟨a5, l5, c5, e5, g⟩ := gSlice_elim g
  obtain ⟨x6, e6, g⟩ := gInt_elim g
  obtain ⟨x7, e7, g⟩ := gInt_elim g
  exact den_enter [(0, .slice a0 l0 c0), (1, .slice a1 l1 c1), (5, .slice a5 l5 c5), (6, .int .u64 x6), (7, .int .i64 x7)] ⟨e0, e1, e5, e6, e7, trivial⟩ (by kernel_rfl) g
def L4.t (R : Rt) : Nat → Option Addr → Nat → Nat → Option Addr → Nat → Nat → Option Addr → Nat → Nat → Int → Int → Hp → Prop
  | 0 => fun _ _ _ _ _ _ _ _ _ _ _ _ => False
  | n + 1 => fun a0 l0 c0 a1 l1 c1 a5 l5 c5 x6 x7 h => D5.t R (L4.t R n) a0 l0 c0 a1 l1 c1 a5 l5 c5 x6 x7 h
theorem L4.ok (R : Rt) (fr : Fr) (h : Hp) (g : L4.g (fun a0 l0 c0 a1 l1 c1 a5 l5 c5 x6 x7 h => ∃ n, L4.t R n a0 l0 c0 a1 l1 c1 a5 l5 c5 x6 x7 h) fr h) : den prog E (cAt C [true, true, true, true, false, true, false]) (Ex.inBlock 0 (Ex.then (D2.g R) (retQ E [.tmp 4] R))) fr h := by
  obtain ⟨a0, l0, c0, e0, g⟩ := gSlice_elim g
  obtain ⟨a1, l1, c1, e1, g⟩ := gSlice_elim g
  obtain ⟨a5, l5, c5, e5, g⟩ := gSlice_elim g
  obtain ⟨x6, e6, g⟩ := gInt_elim g
  obtain ⟨x7, e7, g⟩ := gInt_elim g
  obtain ⟨n, g⟩ := g
  refine loop_ok (fun n => L4.g (L4.t R n)) (b := (cAt C [true, true, true, true, false, true, false, false])) (by kernel_rfl) (fun fr h g => ?_) (fun n => D5.ok R (L4.t R n)) n fr h (gSlice_intro e0 (gSlice_intro e1 (gSlice_intro e5 (gInt_intro e6 (gInt_intro e7 (g))))))
  obtain ⟨a0, l0, c0, e0, g⟩ := gSlice_elim g
  obtain ⟨a1, l1, c1, e1, g⟩ := gSlice_elim g
  obtain ⟨a5, l5, c5, e5, g⟩ := gSlice_elim g
  obtain ⟨x6, e6, g⟩ := gInt_elim g
  obtain ⟨x7, e7, g⟩ := gInt_elim g
  exact g
theorem B6.ok (R : Rt) (fr : Fr) (h : Hp) (g : L4.g (fun a0 l0 c0 a1 l1 c1 a5 l5 c5 x6 x7 h => ∃ n, L4.t R n a0 l0 c0 a1 l1 c1 a5 l5 c5 x6 x7 h) fr h) : den prog E (cAt C [true, true, true, true, false, true]) (Ex.then (D2.g R) (retQ E [.tmp 4] R)) fr h :=
  den_block (by kernel_rfl) (L4.ok R fr h g)
def D3.t (R : Rt) (a0 : Option Addr) (l0 : Nat) (c0 : Nat) (a1 : Option Addr) (l1 : Nat) (c1 : Nat) (a5 : Option Addr) (l5 : Nat) (c5 : Nat) (x6 : Int) (h : Hp) : Prop :=
  (∃ n, L4.t R n a0 l0 c0 a1 l1 c1 a5 l5 c5 x6 0 h)
def D3.g (R : Rt) (fr : Fr) (h : Hp) : Prop := gSlice (fr 0) fun a0 l0 c0 => gSlice (fr 1) fun a1 l1 c1 => gSlice (fr 5) fun a5 l5 c5 => gInt .u64 (fr 6) fun x6 => D3.t R a0 l0 c0 a1 l1 c1 a5 l5 c5 x6 h
theorem D3.ok (R : Rt) (fr : Fr) (h : Hp) (g : D3.g R fr h) : den prog E (cAt C [true, true, true, true, false]) (Ex.then (D2.g R) (retQ E [.tmp 4] R)) fr h := by
  obtain ⟨a0, l0, c0, e0, g⟩ := gSlice_elim g
  obtain ⟨a1, l1, c1, e1, g⟩ := gSlice_elim g
  obtain ⟨a5, l5, c5, e5, g⟩ := gSlice_elim g
  obtain ⟨x6, e6, g⟩ := gInt_elim g
  exact den_cut 1 (r := (cAt C [true, true, true, true, false, true])) (by kernel_rfl) (B6.ok R) (den_enter [(0, .slice a0 l0 c0), (1, .slice a1 l1 c1), (5, .slice a5 l5 c5), (6, .int .u64 x6)] ⟨e0, e1, e5, e6, trivial⟩ (by kernel_rfl) g)
theorem W7.ok (R : Rt) (fr : Fr) (h : Hp) (g : D3.g R fr h) : den prog E (cAt C [true, true, true, true]) (retQ E [.tmp 4] R) fr h :=
  den_then (by kernel_rfl) (D2.ok R) (D3.ok R fr h g)
def D1.t (R : Rt) (a0 : Option Addr) (l0 : Nat) (c0 : Nat) (a1 : Option Addr) (l1 : Nat) (c1 : Nat) (h : Hp) : Prop :=
  HC gnomonref01_Cmp.id #[.slice a0 l0 c0, .slice a1 l1 c1] h fun v1 h2 =>
  gInt .i64 v1 fun x_3 =>
  cond (decide (x_3 ≤ 0)) (HC gnomonref01_Word.id #[.int .u64 0] h2 fun v4 h5 =>
  gSlice v4 fun a_6 l_6 c_6 =>
  R (.slice a_6 l_6 c_6) h5) (mkK h2 56 T56 0 (((l0 : Nat) : Int)) fun q7 h8 =>
  D3.t R a0 l0 c0 a1 l1 c1 (some q7) ((0 : Int).toNat) ((((l0 : Nat) : Int)).toNat) 0 h8)
def D1.g (R : Rt) (fr : Fr) (h : Hp) : Prop := gSlice (fr 0) fun a0 l0 c0 => gSlice (fr 1) fun a1 l1 c1 => D1.t R a0 l0 c0 a1 l1 c1 h
theorem D1.ok (R : Rt) (fr : Fr) (h : Hp) (g : D1.g R fr h) : den prog E C (retQ E [.tmp 4] R) fr h := by
  obtain ⟨a0, l0, c0, e0, g⟩ := gSlice_elim g
  obtain ⟨a1, l1, c1, e1, g⟩ := gSlice_elim g
  exact den_cut 4 (r := (cAt C [true, true, true, true])) (by kernel_rfl) (W7.ok R) (den_enter [(0, .slice a0 l0 c0), (1, .slice a1 l1 c1)] ⟨e0, e1, trivial⟩ (by kernel_rfl) g)
def t (a0 : Option Addr) (l0 : Nat) (c0 : Nat) (a1 : Option Addr) (l1 : Nat) (c1 : Nat) (h : Hp) (R : Rt) : Prop := D1.t R a0 l0 c0 a1 l1 c1 h
theorem ok {a0 : Option Addr} {l0 : Nat} {c0 : Nat} {a1 : Option Addr} {l1 : Nat} {c1 : Nat} {h : Hp} {R : Rt} (g : t a0 l0 c0 a1 l1 c1 h R) : HC id #[.slice a0 l0 c0, .slice a1 l1 c1] h R :=
  calls_of_den' envOk (c := C) (rs := [.tmp 4]) Try.func32 (by kernel_rfl) (by kernel_rfl) (by kernel_rfl) (args := [.slice a0 l0 c0, .slice a1 l1 c1]) (by kernel_rfl) (D1.ok R _ h (gSlice_intro rfl (gSlice_intro rfl (g))))
end gnomonref01_Sub

namespace gnomonref01_MulSmall
noncomputable def C : Code := bodyOf Try.f33
def D2.t (R : Rt) (a7 : Option Addr) (l7 : Nat) (c7 : Nat) (x8 : Int) (h : Hp) : Prop :=
  letK (IntKind.u32.wrap x8) fun n5 =>
  boxK h 56 [.int .u32 n5] fun q6 h7 =>
  apK h7 56 T56 a7 l7 c7 (.slice (some q6) 1 1) fun a_8 l_8 c_8 h8 =>
  HC gnomonref01_Norm.id #[.slice a_8 l_8 c_8] h8 fun v9 h10 =>
  gSlice v9 fun a_11 l_11 c_11 =>
  R (.slice a_11 l_11 c_11) h10
def D2.g (R : Rt) (fr : Fr) (h : Hp) : Prop := gSlice (fr 7) fun a7 l7 c7 => gInt .u64 (fr 8) fun x8 => D2.t R a7 l7 c7 x8 h
theorem D2.ok (R : Rt) (fr : Fr) (h : Hp) (g : D2.g R fr h) : den prog E (cAt C [true, true, true, true]) (retQ E [.tmp 6] R) fr h := by
  obtain ⟨a7, l7, c7, e7, g⟩ := gSlice_elim g
  obtain ⟨x8, e8, g⟩ := gInt_elim g
  exact den_enter [(7, .slice a7 l7 c7), (8, .int .u64 x8)] ⟨e7, e8, trivial⟩ (by kernel_rfl) g
def L4.g (N : Option Addr → Nat → Nat → Int → Option Addr → Nat → Nat → Int → Int → Hp → Prop) (fr : Fr) (h : Hp) : Prop := gSlice (fr 0) fun a0 l0 c0 => gInt .u32 (fr 1) fun x1 => gSlice (fr 7) fun a7 l7 c7 => gInt .u64 (fr 8) fun x8 => gInt .i64 (fr 9) fun x9 => N a0 l0 c0 x1 a7 l7 c7 x8 x9 h
def D5.t (R : Rt) (N4 : Option Addr → Nat → Nat → Int → Option Addr → Nat → Nat → Int → Int → Hp → Prop) (a0 : Option Addr) (l0 : Nat) (c0 : Nat) (x1 : Int) (a7 : Option Addr) (l7 : Nat) (c7 : Nat) (x8 : Int) (x9 : Int) (h : Hp) : Prop :=
  cond (decide (x9 < (((l0 : Nat) : Int)))) (idxK a0 l0 x9 1 fun q12 =>
  ldK h q12 fun v13 =>
  gInt .u32 v13 fun x_14 =>
  letK (IntKind.u64.wrap x_14) fun n15 =>
  letK (IntKind.u64.wrap x1) fun n16 =>
  letK (IntKind.u64.wrap (n15 * n16)) fun n17 =>
  letK (IntKind.u64.wrap (x8 + n17)) fun n18 =>
  letK (andI .u64 n18 4294967295) fun n19 =>
  letK (IntKind.u32.wrap n19) fun n20 =>
  boxK h 56 [.int .u32 n20] fun q21 h22 =>
  apK h22 56 T56 a7 l7 c7 (.slice (some q21) 1 1) fun a_23 l_23 c_23 h23 =>
  0 ≤ (32 : Int) ∧ letK (shrI .u64 n18 32) fun n24 =>
  letK (IntKind.i64.wrap (x9 + 1)) fun n25 =>
  N4 a0 l0 c0 x1 a_23 l_23 c_23 n24 n25 h23) (D2.t R a7 l7 c7 x8 h)
def D5.g (R : Rt) (N4 : Option Addr → Nat → Nat → Int → Option Addr → Nat → Nat → Int → Int → Hp → Prop) (fr : Fr) (h : Hp) : Prop := gSlice (fr 0) fun a0 l0 c0 => gInt .u32 (fr 1) fun x1 => gSlice (fr 7) fun a7 l7 c7 => gInt .u64 (fr 8) fun x8 => gInt .i64 (fr 9) fun x9 => D5.t R N4 a0 l0 c0 x1 a7 l7 c7 x8 x9 h
theorem D5.ok (R : Rt) (N4 : Option Addr → Nat → Nat → Int → Option Addr → Nat → Nat → Int → Int → Hp → Prop) (fr : Fr) (h : Hp) (g : D5.g R N4 fr h) : den prog E (cAt C [true, true, true, false, true, false, false]) (Ex.then (L4.g N4) (Ex.inBlock 0 (Ex.then (D2.g R) (retQ E [.tmp 6] R)))) fr h := by
  obtain ⟨a0, l0, c0, e0, g⟩ := gSlice_elim g
  obtain ⟨x1, e1, g⟩ := gInt_elim g
  obtain ⟨a7, l7, c7, e7, g⟩ := gSlice_elim g
  obtain ⟨x8, e8, g⟩ := gInt_elim g
  obtain ⟨x9, e9, g⟩ := gInt_elim g
  exact den_enter [(0, .slice a0 l0 c0), (1, .int .u32 x1), (7, .slice a7 l7 c7), (8, .int .u64 x8), (9, .int .i64 x9)] ⟨e0, e1, e7, e8, e9, trivial⟩ (by kernel_rfl) g
def L4.t (R : Rt) : Nat → Option Addr → Nat → Nat → Int → Option Addr → Nat → Nat → Int → Int → Hp → Prop
  | 0 => fun _ _ _ _ _ _ _ _ _ _ => False
  | n + 1 => fun a0 l0 c0 x1 a7 l7 c7 x8 x9 h => D5.t R (L4.t R n) a0 l0 c0 x1 a7 l7 c7 x8 x9 h
theorem L4.ok (R : Rt) (fr : Fr) (h : Hp) (g : L4.g (fun a0 l0 c0 x1 a7 l7 c7 x8 x9 h => ∃ n, L4.t R n a0 l0 c0 x1 a7 l7 c7 x8 x9 h) fr h) : den prog E (cAt C [true, true, true, false, true, false]) (Ex.inBlock 0 (Ex.then (D2.g R) (retQ E [.tmp 6] R))) fr h := by
  obtain ⟨a0, l0, c0, e0, g⟩ := gSlice_elim g
  obtain ⟨x1, e1, g⟩ := gInt_elim g
  obtain ⟨a7, l7, c7, e7, g⟩ := gSlice_elim g
  obtain ⟨x8, e8, g⟩ := gInt_elim g
  obtain ⟨x9, e9, g⟩ := gInt_elim g
  obtain ⟨n, g⟩ := g
  refine loop_ok (fun n => L4.g (L4.t R n)) (b := (cAt C [true, true, true, false, true, false, false])) (by kernel_rfl) (fun fr h g => ?_) (fun n => D5.ok R (L4.t R n)) n fr h (gSlice_intro e0 (gInt_intro e1 (gSlice_intro e7 (gInt_intro e8 (gInt_intro e9 (g))))))
  obtain ⟨a0, l0, c0, e0, g⟩ := gSlice_elim g
  obtain ⟨x1, e1, g⟩ := gInt_elim g
  obtain ⟨a7, l7, c7, e7, g⟩ := gSlice_elim g
  obtain ⟨x8, e8, g⟩ := gInt_elim g
  obtain ⟨x9, e9, g⟩ := gInt_elim g
  exact g
theorem B6.ok (R : Rt) (fr : Fr) (h : Hp) (g : L4.g (fun a0 l0 c0 x1 a7 l7 c7 x8 x9 h => ∃ n, L4.t R n a0 l0 c0 x1 a7 l7 c7 x8 x9 h) fr h) : den prog E (cAt C [true, true, true, false, true]) (Ex.then (D2.g R) (retQ E [.tmp 6] R)) fr h :=
  den_block (by kernel_rfl) (L4.ok R fr h g)
def D3.t (R : Rt) (a0 : Option Addr) (l0 : Nat) (c0 : Nat) (x1 : Int) (a7 : Option Addr) (l7 : Nat) (c7 : Nat) (x8 : Int) (h : Hp) : Prop :=
  (∃ n, L4.t R n a0 l0 c0 x1 a7 l7 c7 x8 0 h)
def D3.g (R : Rt) (fr : Fr) (h : Hp) : Prop := gSlice (fr 0) fun a0 l0 c0 => gInt .u32 (fr 1) fun x1 => gSlice (fr 7) fun a7 l7 c7 => gInt .u64 (fr 8) fun x8 => D3.t R a0 l0 c0 x1 a7 l7 c7 x8 h
theorem D3.ok (R : Rt) (fr : Fr) (h : Hp) (g : D3.g R fr h) : den prog E (cAt C [true, true, true, false]) (Ex.then (D2.g R) (retQ E [.tmp 6] R)) fr h := by
  obtain ⟨a0, l0, c0, e0, g⟩ := gSlice_elim g
  obtain ⟨x1, e1, g⟩ := gInt_elim g
  obtain ⟨a7, l7, c7, e7, g⟩ := gSlice_elim g
  obtain ⟨x8, e8, g⟩ := gInt_elim g
  exact den_cut 1 (r := (cAt C [true, true, true, false, true])) (by kernel_rfl) (B6.ok R) (den_enter [(0, .slice a0 l0 c0), (1, .int .u32 x1), (7, .slice a7 l7 c7), (8, .int .u64 x8)] ⟨e0, e1, e7, e8, trivial⟩ (by kernel_rfl) g)
theorem W7.ok (R : Rt) (fr : Fr) (h : Hp) (g : D3.g R fr h) : den prog E (cAt C [true, true, true]) (retQ E [.tmp 6] R) fr h :=
  den_then (by kernel_rfl) (D2.ok R) (D3.ok R fr h g)
def D1.t (R : Rt) (a0 : Option Addr) (l0 : Nat) (c0 : Nat) (x1 : Int) (x2 : Int) (h : Hp) : Prop :=
  letK (IntKind.i64.wrap ((((l0 : Nat) : Int)) + 1)) fun n1 =>
  mkK h 56 T56 0 n1 fun q2 h3 =>
  letK (IntKind.u64.wrap x2) fun n4 =>
  D3.t R a0 l0 c0 x1 (some q2) ((0 : Int).toNat) n1.toNat n4 h3
def D1.g (R : Rt) (fr : Fr) (h : Hp) : Prop := gSlice (fr 0) fun a0 l0 c0 => gInt .u32 (fr 1) fun x1 => gInt .u32 (fr 2) fun x2 => D1.t R a0 l0 c0 x1 x2 h
theorem D1.ok (R : Rt) (fr : Fr) (h : Hp) (g : D1.g R fr h) : den prog E C (retQ E [.tmp 6] R) fr h := by
  obtain ⟨a0, l0, c0, e0, g⟩ := gSlice_elim g
  obtain ⟨x1, e1, g⟩ := gInt_elim g
  obtain ⟨x2, e2, g⟩ := gInt_elim g
  exact den_cut 3 (r := (cAt C [true, true, true])) (by kernel_rfl) (W7.ok R) (den_enter [(0, .slice a0 l0 c0), (1, .int .u32 x1), (2, .int .u32 x2)] ⟨e0, e1, e2, trivial⟩ (by kernel_rfl) g)
def t (a0 : Option Addr) (l0 : Nat) (c0 : Nat) (x1 : Int) (x2 : Int) (h : Hp) (R : Rt) : Prop := D1.t R a0 l0 c0 x1 x2 h
theorem ok {a0 : Option Addr} {l0 : Nat} {c0 : Nat} {x1 : Int} {x2 : Int} {h : Hp} {R : Rt} (g : t a0 l0 c0 x1 x2 h R) : HC id #[.slice a0 l0 c0, .int .u32 x1, .int .u32 x2] h R :=
  calls_of_den' envOk (c := C) (rs := [.tmp 6]) Try.func33 (by kernel_rfl) (by kernel_rfl) (by kernel_rfl) (args := [.slice a0 l0 c0, .int .u32 x1, .int .u32 x2]) (by kernel_rfl) (D1.ok R _ h (gSlice_intro rfl (gInt_intro rfl (gInt_intro rfl (g)))))
end gnomonref01_MulSmall

namespace gnomonref01_Small
noncomputable def C : Code := bodyOf Try.f34
def D1.t (R : Rt) (x0 : Int) (h : Hp) : Prop :=
  cond (decide (x0 < 0)) (HC gnomonref01_Word.id #[.int .u64 0] h fun v1 h2 =>
  gSlice v1 fun a_3 l_3 c_3 =>
  R (.slice a_3 l_3 c_3) h2) (letK (IntKind.u64.wrap x0) fun n4 =>
  HC gnomonref01_Word.id #[.int .u64 n4] h fun v5 h6 =>
  gSlice v5 fun a_7 l_7 c_7 =>
  R (.slice a_7 l_7 c_7) h6)
def D1.g (R : Rt) (fr : Fr) (h : Hp) : Prop := gInt .i64 (fr 0) fun x0 => D1.t R x0 h
theorem D1.ok (R : Rt) (fr : Fr) (h : Hp) (g : D1.g R fr h) : den prog E C (retQ E [.tmp 2] R) fr h := by
  obtain ⟨x0, e0, g⟩ := gInt_elim g
  exact den_enter [(0, .int .i64 x0)] ⟨e0, trivial⟩ (by kernel_rfl) g
def t (x0 : Int) (h : Hp) (R : Rt) : Prop := D1.t R x0 h
theorem ok {x0 : Int} {h : Hp} {R : Rt} (g : t x0 h R) : HC id #[.int .i64 x0] h R :=
  calls_of_den' envOk (c := C) (rs := [.tmp 2]) Try.func34 (by kernel_rfl) (by kernel_rfl) (by kernel_rfl) (args := [.int .i64 x0]) (by kernel_rfl) (D1.ok R _ h (gInt_intro rfl (g)))
end gnomonref01_Small

namespace gnomonref01_Shr
noncomputable def C : Code := bodyOf Try.f35
def D1.t (R : Rt) (a0 : Option Addr) (l0 : Nat) (c0 : Nat) (x1 : Int) (h : Hp) : Prop :=
  cond (decide (x1 ≤ 0)) (HC gnomonref01_Norm.id #[.slice a0 l0 c0] h fun v1 h2 =>
  gSlice v1 fun a_3 l_3 c_3 =>
  R (.slice a_3 l_3 c_3) h2) ((32 : Int) ≠ 0 ∧ letK (IntKind.i64.wrap (Int.tdiv x1 32)) fun n4 =>
  cond (decide (n4 ≥ (((l0 : Nat) : Int)))) (HC gnomonref01_Word.id #[.int .u64 0] h fun v5 h6 =>
  gSlice v5 fun a_7 l_7 c_7 =>
  R (.slice a_7 l_7 c_7) h6) ((32 : Int) ≠ 0 ∧ letK (IntKind.i64.wrap (Int.tdiv x1 32)) fun n8 =>
  slK 1 a0 l0 c0 (some (.int .i64 n8)) none none fun a_9 l_9 c_9 =>
  (32 : Int) ≠ 0 ∧ letK (Int.tmod x1 32) fun n10 =>
  0 ≤ n10 ∧ letK (shlI .u32 1 n10) fun n11 =>
  HC gnomonref01_DivSmall.id #[.slice a_9 l_9 c_9, .int .u32 n11] h fun v12 h13 =>
  gTup v12 fun y14 =>
  uncons y14 fun v15 y15 =>
  gSlice v15 fun a_16 l_16 c_16 =>
  uncons y15 fun v17 y17 =>
  gInt .u32 v17 fun x_18 =>
  unnil y17 <| R (.slice a_16 l_16 c_16) h13))
def D1.g (R : Rt) (fr : Fr) (h : Hp) : Prop := gSlice (fr 0) fun a0 l0 c0 => gInt .i64 (fr 1) fun x1 => D1.t R a0 l0 c0 x1 h
theorem D1.ok (R : Rt) (fr : Fr) (h : Hp) (g : D1.g R fr h) : den prog E C (retQ E [.tmp 4] R) fr h := by
  obtain ⟨a0, l0, c0, e0, g⟩ := gSlice_elim g
  obtain ⟨x1, e1, g⟩ := gInt_elim g
  exact den_enter [(0, .slice a0 l0 c0), (1, .int .i64 x1)] ⟨e0, e1, trivial⟩ (by kernel_rfl) g
def t (a0 : Option Addr) (l0 : Nat) (c0 : Nat) (x1 : Int) (h : Hp) (R : Rt) : Prop := D1.t R a0 l0 c0 x1 h
theorem ok {a0 : Option Addr} {l0 : Nat} {c0 : Nat} {x1 : Int} {h : Hp} {R : Rt} (g : t a0 l0 c0 x1 h R) : HC id #[.slice a0 l0 c0, .int .i64 x1] h R :=
  calls_of_den' envOk (c := C) (rs := [.tmp 4]) Try.func35 (by kernel_rfl) (by kernel_rfl) (by kernel_rfl) (args := [.slice a0 l0 c0, .int .i64 x1]) (by kernel_rfl) (D1.ok R _ h (gSlice_intro rfl (gInt_intro rfl (g))))
end gnomonref01_Shr

namespace nearpi_fraction
noncomputable def C : Code := bodyOf Try.f36
def D1.t (R : Rt) (x0 : Int) (h : Hp) : Prop :=
  letK (IntKind.i64.wrap (x0 + 320)) fun n1 =>
  HC piconst_FloorInv.id #[.int .i64 n1] h fun v2 h3 =>
  gTup v2 fun y4 =>
  uncons y4 fun v5 y5 =>
  gSlice v5 fun a_6 l_6 c_6 =>
  uncons y5 fun v7 y7 =>
  gInt .i64 v7 fun x_8 =>
  unnil y7 <| R (.tuple #[.slice a_6 l_6 c_6, .int .i64 x_8]) h3
def D1.g (R : Rt) (fr : Fr) (h : Hp) : Prop := gInt .i64 (fr 0) fun x0 => D1.t R x0 h
theorem D1.ok (R : Rt) (fr : Fr) (h : Hp) (g : D1.g R fr h) : den prog E C (retQ E [.tmp 2, .tmp 3] R) fr h := by
  obtain ⟨x0, e0, g⟩ := gInt_elim g
  exact den_enter [(0, .int .i64 x0)] ⟨e0, trivial⟩ (by kernel_rfl) g
def t (x0 : Int) (h : Hp) (R : Rt) : Prop := D1.t R x0 h
theorem ok {x0 : Int} {h : Hp} {R : Rt} (g : t x0 h R) : HC id #[.int .i64 x0] h R :=
  calls_of_den' envOk (c := C) (rs := [.tmp 2, .tmp 3]) Try.func36 (by kernel_rfl) (by kernel_rfl) (by kernel_rfl) (args := [.int .i64 x0]) (by kernel_rfl) (D1.ok R _ h (gInt_intro rfl (g)))
end nearpi_fraction

namespace nearpi_from
noncomputable def C : Code := bodyOf Try.f37
def D2.t (R : Rt) (x1 : Int) (x2 : Int) (a10 : Option Addr) (l10 : Nat) (c10 : Nat) (a12 : Option Addr) (l12 : Nat) (c12 : Nat) (h : Hp) : Prop :=
  letK (IntKind.u64.wrap (x2 - x1)) fun n28 =>
  letK (IntKind.u64.wrap (n28 + 1)) fun n29 =>
  HC nearpi_ring_least.id #[.agg #[.slice a12 l12 c12, .slice a10 l10 c10], .int .u64 n29] h fun v30 h31 =>
  gTup v30 fun y32 =>
  uncons y32 fun v33 y33 =>
  gInt .u64 v33 fun x_34 =>
  uncons y33 fun v35 y35 =>
  gSlice v35 fun a_36 l_36 c_36 =>
  unnil y35 <| letK (IntKind.u64.wrap (x1 + x_34)) fun n37 =>
  R (.tuple #[.int .u64 n37, .slice a_36 l_36 c_36]) h31
def D2.g (R : Rt) (fr : Fr) (h : Hp) : Prop := gInt .u64 (fr 1) fun x1 => gInt .u64 (fr 2) fun x2 => gSlice (fr 10) fun a10 l10 c10 => gSlice (fr 12) fun a12 l12 c12 => D2.t R x1 x2 a10 l10 c10 a12 l12 c12 h
theorem D2.ok (R : Rt) (fr : Fr) (h : Hp) (g : D2.g R fr h) : den prog E (cAt C [true, true, true, true, true]) (retQ E [.tmp 8, .tmp 9] R) fr h := by
  obtain ⟨x1, e1, g⟩ := gInt_elim g
  obtain ⟨x2, e2, g⟩ := gInt_elim g
  obtain ⟨a10, l10, c10, e10, g⟩ := gSlice_elim g
  obtain ⟨a12, l12, c12, e12, g⟩ := gSlice_elim g
  exact den_enter [(1, .int .u64 x1), (2, .int .u64 x2), (10, .slice a10 l10 c10), (12, .slice a12 l12 c12)] ⟨e1, e2, e10, e12, trivial⟩ (by kernel_rfl) g
def D1.t (R : Rt) (a0 : Option Addr) (l0 : Nat) (c0 : Nat) (x1 : Int) (x2 : Int) (b3 : Bool) (h : Hp) : Prop :=
  HC nat_Low.id #[.slice a0 l0 c0, .int .i64 320] h fun v1 h2 =>
  gTup v1 fun y3 =>
  uncons y3 fun v4 y4 =>
  gSlice v4 fun a_5 l_5 c_5 =>
  uncons y4 fun v6 y6 =>
  gInt .i64 v6 fun x_7 =>
  unnil y6 <| HC nat_MulWord.id #[.slice a_5 l_5 c_5, .int .u64 x1] h2 fun v8 h9 =>
  gTup v8 fun y10 =>
  uncons y10 fun v11 y11 =>
  gSlice v11 fun a_12 l_12 c_12 =>
  uncons y11 fun v13 y13 =>
  gInt .i64 v13 fun x_14 =>
  unnil y13 <| HC nat_Low.id #[.slice a_12 l_12 c_12, .int .i64 320] h9 fun v15 h16 =>
  gTup v15 fun y17 =>
  uncons y17 fun v18 y18 =>
  gSlice v18 fun a_19 l_19 c_19 =>
  uncons y18 fun v20 y20 =>
  gInt .i64 v20 fun x_21 =>
  unnil y20 <| cond b3 (HC nearpi_opposite.id #[.slice a_5 l_5 c_5] h16 fun v22 h23 =>
  gSlice v22 fun a_24 l_24 c_24 =>
  HC nearpi_opposite.id #[.slice a_19 l_19 c_19] h23 fun v25 h26 =>
  gSlice v25 fun a_27 l_27 c_27 =>
  D2.t R x1 x2 a_24 l_24 c_24 a_27 l_27 c_27 h26) (D2.t R x1 x2 a_5 l_5 c_5 a_19 l_19 c_19 h16)
def D1.g (R : Rt) (fr : Fr) (h : Hp) : Prop := gSlice (fr 0) fun a0 l0 c0 => gInt .u64 (fr 1) fun x1 => gInt .u64 (fr 2) fun x2 => gBool (fr 3) fun b3 => D1.t R a0 l0 c0 x1 x2 b3 h
theorem D1.ok (R : Rt) (fr : Fr) (h : Hp) (g : D1.g R fr h) : den prog E C (retQ E [.tmp 8, .tmp 9] R) fr h := by
  obtain ⟨a0, l0, c0, e0, g⟩ := gSlice_elim g
  obtain ⟨x1, e1, g⟩ := gInt_elim g
  obtain ⟨x2, e2, g⟩ := gInt_elim g
  obtain ⟨b3, e3, g⟩ := gBool_elim g
  exact den_cut 5 (r := (cAt C [true, true, true, true, true])) (by kernel_rfl) (D2.ok R) (den_enter [(0, .slice a0 l0 c0), (1, .int .u64 x1), (2, .int .u64 x2), (3, .bool b3)] ⟨e0, e1, e2, e3, trivial⟩ (by kernel_rfl) g)
def t (a0 : Option Addr) (l0 : Nat) (c0 : Nat) (x1 : Int) (x2 : Int) (b3 : Bool) (h : Hp) (R : Rt) : Prop := D1.t R a0 l0 c0 x1 x2 b3 h
theorem ok {a0 : Option Addr} {l0 : Nat} {c0 : Nat} {x1 : Int} {x2 : Int} {b3 : Bool} {h : Hp} {R : Rt} (g : t a0 l0 c0 x1 x2 b3 h R) : HC id #[.slice a0 l0 c0, .int .u64 x1, .int .u64 x2, .bool b3] h R :=
  calls_of_den' envOk (c := C) (rs := [.tmp 8, .tmp 9]) Try.func37 (by kernel_rfl) (by kernel_rfl) (by kernel_rfl) (args := [.slice a0 l0 c0, .int .u64 x1, .int .u64 x2, .bool b3]) (by kernel_rfl) (D1.ok R _ h (gSlice_intro rfl (gInt_intro rfl (gInt_intro rfl (gBool_intro rfl (g))))))
end nearpi_from

namespace nearpi_firstOver
noncomputable def C : Code := bodyOf Try.f38
def D2.t (R : Rt) (x1 : Int) (h : Hp) : Prop :=
  R (.int .u64 x1) h
def D2.g (R : Rt) (fr : Fr) (h : Hp) : Prop := gInt .u64 (fr 1) fun x1 => D2.t R x1 h
theorem D2.ok (R : Rt) (fr : Fr) (h : Hp) (g : D2.g R fr h) : den prog E (cAt C [true, true]) (retQ E [.tmp 6] R) fr h := by
  obtain ⟨x1, e1, g⟩ := gInt_elim g
  exact den_enter [(1, .int .u64 x1)] ⟨e1, trivial⟩ (by kernel_rfl) g
def L3.g (N : Option Addr → Nat → Nat → Int → Int → Hp → Prop) (fr : Fr) (h : Hp) : Prop := gSlice (fr 0) fun a0 l0 c0 => gInt .u64 (fr 1) fun x1 => gInt .u64 (fr 2) fun x2 => N a0 l0 c0 x1 x2 h
def D4.t (R : Rt) (N3 : Option Addr → Nat → Nat → Int → Int → Hp → Prop) (a0 : Option Addr) (l0 : Nat) (c0 : Nat) (x1 : Int) (x2 : Int) (h : Hp) : Prop :=
  cond (decide (x1 ≤ x2)) (letK (IntKind.u64.wrap (x2 - x1)) fun n1 =>
  (2 : Int) ≠ 0 ∧ letK (IntKind.u64.wrap (Int.tdiv n1 2)) fun n2 =>
  letK (IntKind.u64.wrap (x1 + n2)) fun n3 =>
  HC nearpi_multiple.id #[.slice a0 l0 c0, .int .u64 n3, .bool false] h fun v4 h5 =>
  gSlice v4 fun a_6 l_6 c_6 =>
  cond (decide ((((l_6 : Nat) : Int)) > 0)) (letK (IntKind.u64.wrap (n3 - 1)) fun n7 =>
  N3 a0 l0 c0 x1 n7 h5) (letK (IntKind.u64.wrap (n3 + 1)) fun n8 =>
  N3 a0 l0 c0 n8 x2 h5)) (D2.t R x1 h)
def D4.g (R : Rt) (N3 : Option Addr → Nat → Nat → Int → Int → Hp → Prop) (fr : Fr) (h : Hp) : Prop := gSlice (fr 0) fun a0 l0 c0 => gInt .u64 (fr 1) fun x1 => gInt .u64 (fr 2) fun x2 => D4.t R N3 a0 l0 c0 x1 x2 h
theorem D4.ok (R : Rt) (N3 : Option Addr → Nat → Nat → Int → Int → Hp → Prop) (fr : Fr) (h : Hp) (g : D4.g R N3 fr h) : den prog E (cAt C [true, false, false, false]) (Ex.then (L3.g N3) (Ex.inBlock 0 (Ex.then (D2.g R) (retQ E [.tmp 6] R)))) fr h := by
  obtain ⟨a0, l0, c0, e0, g⟩ := gSlice_elim g
  obtain ⟨x1, e1, g⟩ := gInt_elim g
  obtain ⟨x2, e2, g⟩ := gInt_elim g
  exact den_enter [(0, .slice a0 l0 c0), (1, .int .u64 x1), (2, .int .u64 x2)] ⟨e0, e1, e2, trivial⟩ (by kernel_rfl) g
def L3.t (R : Rt) : Nat → Option Addr → Nat → Nat → Int → Int → Hp → Prop
  | 0 => fun _ _ _ _ _ _ => False
  | n + 1 => fun a0 l0 c0 x1 x2 h => D4.t R (L3.t R n) a0 l0 c0 x1 x2 h
theorem L3.ok (R : Rt) (fr : Fr) (h : Hp) (g : L3.g (fun a0 l0 c0 x1 x2 h => ∃ n, L3.t R n a0 l0 c0 x1 x2 h) fr h) : den prog E (cAt C [true, false, false]) (Ex.inBlock 0 (Ex.then (D2.g R) (retQ E [.tmp 6] R))) fr h := by
  obtain ⟨a0, l0, c0, e0, g⟩ := gSlice_elim g
  obtain ⟨x1, e1, g⟩ := gInt_elim g
  obtain ⟨x2, e2, g⟩ := gInt_elim g
  obtain ⟨n, g⟩ := g
  refine loop_ok (fun n => L3.g (L3.t R n)) (b := (cAt C [true, false, false, false])) (by kernel_rfl) (fun fr h g => ?_) (fun n => D4.ok R (L3.t R n)) n fr h (gSlice_intro e0 (gInt_intro e1 (gInt_intro e2 (g))))
  obtain ⟨a0, l0, c0, e0, g⟩ := gSlice_elim g
  obtain ⟨x1, e1, g⟩ := gInt_elim g
  obtain ⟨x2, e2, g⟩ := gInt_elim g
  exact g
theorem B5.ok (R : Rt) (fr : Fr) (h : Hp) (g : L3.g (fun a0 l0 c0 x1 x2 h => ∃ n, L3.t R n a0 l0 c0 x1 x2 h) fr h) : den prog E (cAt C [true, false]) (Ex.then (D2.g R) (retQ E [.tmp 6] R)) fr h :=
  den_block (by kernel_rfl) (L3.ok R fr h g)
theorem W6.ok (R : Rt) (fr : Fr) (h : Hp) (g : L3.g (fun a0 l0 c0 x1 x2 h => ∃ n, L3.t R n a0 l0 c0 x1 x2 h) fr h) : den prog E (cAt C [true]) (retQ E [.tmp 6] R) fr h :=
  den_then (by kernel_rfl) (D2.ok R) (B5.ok R fr h g)
def D1.t (R : Rt) (a0 : Option Addr) (l0 : Nat) (c0 : Nat) (x1 : Int) (x2 : Int) (h : Hp) : Prop :=
  (∃ n, L3.t R n a0 l0 c0 x1 x2 h)
def D1.g (R : Rt) (fr : Fr) (h : Hp) : Prop := gSlice (fr 0) fun a0 l0 c0 => gInt .u64 (fr 1) fun x1 => gInt .u64 (fr 2) fun x2 => D1.t R a0 l0 c0 x1 x2 h
theorem D1.ok (R : Rt) (fr : Fr) (h : Hp) (g : D1.g R fr h) : den prog E C (retQ E [.tmp 6] R) fr h := by
  obtain ⟨a0, l0, c0, e0, g⟩ := gSlice_elim g
  obtain ⟨x1, e1, g⟩ := gInt_elim g
  obtain ⟨x2, e2, g⟩ := gInt_elim g
  exact den_cut 1 (r := (cAt C [true])) (by kernel_rfl) (W6.ok R) (den_enter [(0, .slice a0 l0 c0), (1, .int .u64 x1), (2, .int .u64 x2)] ⟨e0, e1, e2, trivial⟩ (by kernel_rfl) g)
def t (a0 : Option Addr) (l0 : Nat) (c0 : Nat) (x1 : Int) (x2 : Int) (h : Hp) (R : Rt) : Prop := D1.t R a0 l0 c0 x1 x2 h
theorem ok {a0 : Option Addr} {l0 : Nat} {c0 : Nat} {x1 : Int} {x2 : Int} {h : Hp} {R : Rt} (g : t a0 l0 c0 x1 x2 h R) : HC id #[.slice a0 l0 c0, .int .u64 x1, .int .u64 x2] h R :=
  calls_of_den' envOk (c := C) (rs := [.tmp 6]) Try.func38 (by kernel_rfl) (by kernel_rfl) (by kernel_rfl) (args := [.slice a0 l0 c0, .int .u64 x1, .int .u64 x2]) (by kernel_rfl) (D1.ok R _ h (gSlice_intro rfl (gInt_intro rfl (gInt_intro rfl (g)))))
end nearpi_firstOver

namespace nat_Cmp
noncomputable def C : Code := bodyOf Try.f39
def D2.t (R : Rt)  (h : Hp) : Prop :=
  R (.int .i64 0) h
def D2.g (R : Rt) (fr : Fr) (h : Hp) : Prop := D2.t R  h
theorem D2.ok (R : Rt) (fr : Fr) (h : Hp) (g : D2.g R fr h) : den prog E (cAt C [true, true, true, true]) (retQ E [.tmp 4] R) fr h := by
  exact den_enter [] trivial (by kernel_rfl) g
def L4.g (N : Option Addr → Nat → Nat → Option Addr → Nat → Nat → Int → Hp → Prop) (fr : Fr) (h : Hp) : Prop := gSlice (fr 5) fun a5 l5 c5 => gSlice (fr 6) fun a6 l6 c6 => gInt .i64 (fr 7) fun x7 => N a5 l5 c5 a6 l6 c6 x7 h
def D5.t (R : Rt) (N4 : Option Addr → Nat → Nat → Option Addr → Nat → Nat → Int → Hp → Prop) (a5 : Option Addr) (l5 : Nat) (c5 : Nat) (a6 : Option Addr) (l6 : Nat) (c6 : Nat) (x7 : Int) (h : Hp) : Prop :=
  cond (decide (x7 ≥ 0)) (idxK a5 l5 x7 1 fun q8 =>
  ldK h q8 fun v9 =>
  gInt .u64 v9 fun x_10 =>
  idxK a6 l6 x7 1 fun q11 =>
  ldK h q11 fun v12 =>
  gInt .u64 v12 fun x_13 =>
  cond (x_10 != x_13) (idxK a5 l5 x7 1 fun q14 =>
  ldK h q14 fun v15 =>
  gInt .u64 v15 fun x_16 =>
  idxK a6 l6 x7 1 fun q17 =>
  ldK h q17 fun v18 =>
  gInt .u64 v18 fun x_19 =>
  cond (decide (x_16 < x_19)) (R (.int .i64 (-1)) h) (R (.int .i64 1) h)) (letK (IntKind.i64.wrap (x7 - 1)) fun n20 =>
  N4 a5 l5 c5 a6 l6 c6 n20 h)) (D2.t R h)
def D5.g (R : Rt) (N4 : Option Addr → Nat → Nat → Option Addr → Nat → Nat → Int → Hp → Prop) (fr : Fr) (h : Hp) : Prop := gSlice (fr 5) fun a5 l5 c5 => gSlice (fr 6) fun a6 l6 c6 => gInt .i64 (fr 7) fun x7 => D5.t R N4 a5 l5 c5 a6 l6 c6 x7 h
theorem D5.ok (R : Rt) (N4 : Option Addr → Nat → Nat → Option Addr → Nat → Nat → Int → Hp → Prop) (fr : Fr) (h : Hp) (g : D5.g R N4 fr h) : den prog E (cAt C [true, true, true, false, true, false, false]) (Ex.then (L4.g N4) (Ex.inBlock 0 (Ex.then (D2.g R) (retQ E [.tmp 4] R)))) fr h := by
  obtain ⟨a5, l5, c5, e5, g⟩ := gSlice_elim g
  obtain ⟨a6, l6, c6, e6, g⟩ := gSlice_elim g
  obtain ⟨x7, e7, g⟩ := gInt_elim g
  exact den_enter [(5, .slice a5 l5 c5), (6, .slice a6 l6 c6), (7, .int .i64 x7)] ⟨e5, e6, e7, trivial⟩ (by kernel_rfl) g
def L4.t (R : Rt) : Nat → Option Addr → Nat → Nat → Option Addr → Nat → Nat → Int → Hp → Prop
  | 0 => fun _ _ _ _ _ _ _ _ => False
  | n + 1 => fun a5 l5 c5 a6 l6 c6 x7 h => D5.t R (L4.t R n) a5 l5 c5 a6 l6 c6 x7 h
theorem L4.ok (R : Rt) (fr : Fr) (h : Hp) (g : L4.g (fun a5 l5 c5 a6 l6 c6 x7 h => ∃ n, L4.t R n a5 l5 c5 a6 l6 c6 x7 h) fr h) : den prog E (cAt C [true, true, true, false, true, false]) (Ex.inBlock 0 (Ex.then (D2.g R) (retQ E [.tmp 4] R))) fr h := by
  obtain ⟨a5, l5, c5, e5, g⟩ := gSlice_elim g
  obtain ⟨a6, l6, c6, e6, g⟩ := gSlice_elim g
  obtain ⟨x7, e7, g⟩ := gInt_elim g
  obtain ⟨n, g⟩ := g
  refine loop_ok (fun n => L4.g (L4.t R n)) (b := (cAt C [true, true, true, false, true, false, false])) (by kernel_rfl) (fun fr h g => ?_) (fun n => D5.ok R (L4.t R n)) n fr h (gSlice_intro e5 (gSlice_intro e6 (gInt_intro e7 (g))))
  obtain ⟨a5, l5, c5, e5, g⟩ := gSlice_elim g
  obtain ⟨a6, l6, c6, e6, g⟩ := gSlice_elim g
  obtain ⟨x7, e7, g⟩ := gInt_elim g
  exact g
theorem B6.ok (R : Rt) (fr : Fr) (h : Hp) (g : L4.g (fun a5 l5 c5 a6 l6 c6 x7 h => ∃ n, L4.t R n a5 l5 c5 a6 l6 c6 x7 h) fr h) : den prog E (cAt C [true, true, true, false, true]) (Ex.then (D2.g R) (retQ E [.tmp 4] R)) fr h :=
  den_block (by kernel_rfl) (L4.ok R fr h g)
def D3.t (R : Rt) (a5 : Option Addr) (l5 : Nat) (c5 : Nat) (a6 : Option Addr) (l6 : Nat) (c6 : Nat) (h : Hp) : Prop :=
  letK (IntKind.i64.wrap ((((l5 : Nat) : Int)) - 1)) fun n7 => (∃ n, L4.t R n a5 l5 c5 a6 l6 c6 n7 h)
def D3.g (R : Rt) (fr : Fr) (h : Hp) : Prop := gSlice (fr 5) fun a5 l5 c5 => gSlice (fr 6) fun a6 l6 c6 => D3.t R a5 l5 c5 a6 l6 c6 h
theorem D3.ok (R : Rt) (fr : Fr) (h : Hp) (g : D3.g R fr h) : den prog E (cAt C [true, true, true, false]) (Ex.then (D2.g R) (retQ E [.tmp 4] R)) fr h := by
  obtain ⟨a5, l5, c5, e5, g⟩ := gSlice_elim g
  obtain ⟨a6, l6, c6, e6, g⟩ := gSlice_elim g
  exact den_cut 1 (r := (cAt C [true, true, true, false, true])) (by kernel_rfl) (B6.ok R) (den_enter [(5, .slice a5 l5 c5), (6, .slice a6 l6 c6)] ⟨e5, e6, trivial⟩ (by kernel_rfl) g)
theorem W7.ok (R : Rt) (fr : Fr) (h : Hp) (g : D3.g R fr h) : den prog E (cAt C [true, true, true]) (retQ E [.tmp 4] R) fr h :=
  den_then (by kernel_rfl) (D2.ok R) (D3.ok R fr h g)
def D1.t (R : Rt) (a0 : Option Addr) (l0 : Nat) (c0 : Nat) (a1 : Option Addr) (l1 : Nat) (c1 : Nat) (h : Hp) : Prop :=
  HC nat_trim.id #[.slice a0 l0 c0] h fun v1 h2 =>
  gSlice v1 fun a_3 l_3 c_3 =>
  HC nat_trim.id #[.slice a1 l1 c1] h2 fun v4 h5 =>
  gSlice v4 fun a_6 l_6 c_6 =>
  cond ((((l_3 : Nat) : Int)) != (((l_6 : Nat) : Int))) (cond (decide ((((l_3 : Nat) : Int)) < (((l_6 : Nat) : Int)))) (R (.int .i64 (-1)) h5) (R (.int .i64 1) h5)) (D3.t R a_3 l_3 c_3 a_6 l_6 c_6 h5)
def D1.g (R : Rt) (fr : Fr) (h : Hp) : Prop := gSlice (fr 0) fun a0 l0 c0 => gSlice (fr 1) fun a1 l1 c1 => D1.t R a0 l0 c0 a1 l1 c1 h
theorem D1.ok (R : Rt) (fr : Fr) (h : Hp) (g : D1.g R fr h) : den prog E C (retQ E [.tmp 4] R) fr h := by
  obtain ⟨a0, l0, c0, e0, g⟩ := gSlice_elim g
  obtain ⟨a1, l1, c1, e1, g⟩ := gSlice_elim g
  exact den_cut 3 (r := (cAt C [true, true, true])) (by kernel_rfl) (W7.ok R) (den_enter [(0, .slice a0 l0 c0), (1, .slice a1 l1 c1)] ⟨e0, e1, trivial⟩ (by kernel_rfl) g)
def t (a0 : Option Addr) (l0 : Nat) (c0 : Nat) (a1 : Option Addr) (l1 : Nat) (c1 : Nat) (h : Hp) (R : Rt) : Prop := D1.t R a0 l0 c0 a1 l1 c1 h
theorem ok {a0 : Option Addr} {l0 : Nat} {c0 : Nat} {a1 : Option Addr} {l1 : Nat} {c1 : Nat} {h : Hp} {R : Rt} (g : t a0 l0 c0 a1 l1 c1 h R) : HC id #[.slice a0 l0 c0, .slice a1 l1 c1] h R :=
  calls_of_den' envOk (c := C) (rs := [.tmp 4]) Try.func39 (by kernel_rfl) (by kernel_rfl) (by kernel_rfl) (args := [.slice a0 l0 c0, .slice a1 l1 c1]) (by kernel_rfl) (D1.ok R _ h (gSlice_intro rfl (gSlice_intro rfl (g))))
end nat_Cmp

namespace nearpi_multiple
noncomputable def C : Code := bodyOf Try.f40
def D1.t (R : Rt) (a0 : Option Addr) (l0 : Nat) (c0 : Nat) (x1 : Int) (b2 : Bool) (h : Hp) : Prop :=
  HC nat_MulWord.id #[.slice a0 l0 c0, .int .u64 x1] h fun v1 h2 =>
  gTup v1 fun y3 =>
  uncons y3 fun v4 y4 =>
  gSlice v4 fun a_5 l_5 c_5 =>
  uncons y4 fun v6 y6 =>
  gInt .i64 v6 fun x_7 =>
  unnil y6 <| HC nat_Shr.id #[.slice a_5 l_5 c_5, .int .i64 320] h2 fun v8 h9 =>
  gTup v8 fun y10 =>
  uncons y10 fun v11 y11 =>
  gSlice v11 fun a_12 l_12 c_12 =>
  uncons y11 fun v13 y13 =>
  gInt .i64 v13 fun x_14 =>
  unnil y13 <| cond b2 (HC nat_Word.id #[.int .u64 1] h9 fun v15 h16 =>
  gSlice v15 fun a_17 l_17 c_17 =>
  HC nat_Add.id #[.slice a_12 l_12 c_12, .slice a_17 l_17 c_17] h16 fun v18 h19 =>
  gTup v18 fun y20 =>
  uncons y20 fun v21 y21 =>
  gSlice v21 fun a_22 l_22 c_22 =>
  uncons y21 fun v23 y23 =>
  gInt .i64 v23 fun x_24 =>
  unnil y23 <| R (.slice a_22 l_22 c_22) h19) (R (.slice a_12 l_12 c_12) h9)
def D1.g (R : Rt) (fr : Fr) (h : Hp) : Prop := gSlice (fr 0) fun a0 l0 c0 => gInt .u64 (fr 1) fun x1 => gBool (fr 2) fun b2 => D1.t R a0 l0 c0 x1 b2 h
theorem D1.ok (R : Rt) (fr : Fr) (h : Hp) (g : D1.g R fr h) : den prog E C (retQ E [.tmp 6] R) fr h := by
  obtain ⟨a0, l0, c0, e0, g⟩ := gSlice_elim g
  obtain ⟨x1, e1, g⟩ := gInt_elim g
  obtain ⟨b2, e2, g⟩ := gBool_elim g
  exact den_enter [(0, .slice a0 l0 c0), (1, .int .u64 x1), (2, .bool b2)] ⟨e0, e1, e2, trivial⟩ (by kernel_rfl) g
def t (a0 : Option Addr) (l0 : Nat) (c0 : Nat) (x1 : Int) (b2 : Bool) (h : Hp) (R : Rt) : Prop := D1.t R a0 l0 c0 x1 b2 h
theorem ok {a0 : Option Addr} {l0 : Nat} {c0 : Nat} {x1 : Int} {b2 : Bool} {h : Hp} {R : Rt} (g : t a0 l0 c0 x1 b2 h R) : HC id #[.slice a0 l0 c0, .int .u64 x1, .bool b2] h R :=
  calls_of_den' envOk (c := C) (rs := [.tmp 6]) Try.func40 (by kernel_rfl) (by kernel_rfl) (by kernel_rfl) (args := [.slice a0 l0 c0, .int .u64 x1, .bool b2]) (by kernel_rfl) (D1.ok R _ h (gSlice_intro rfl (gInt_intro rfl (gBool_intro rfl (g)))))
end nearpi_multiple

namespace nearpi_depth
noncomputable def C : Code := bodyOf Try.f41
def L2.g (N : Int → Int → Option Addr → Nat → Nat → Int → Hp → Prop) (fr : Fr) (h : Hp) : Prop := gInt .u64 (fr 0) fun x0 => gInt .i64 (fr 1) fun x1 => gSlice (fr 2) fun a2 l2 c2 => gInt .i64 (fr 7) fun x7 => N x0 x1 a2 l2 c2 x7 h
def D3.t (R : Rt) (N2 : Int → Int → Option Addr → Nat → Nat → Int → Hp → Prop) (x0 : Int) (x1 : Int) (a2 : Option Addr) (l2 : Nat) (c2 : Nat) (x7 : Int) (h : Hp) : Prop :=
  HC piconst_FloorPi.id #[.int .i64 x7] h fun v1 h2 =>
  gTup v1 fun y3 =>
  uncons y3 fun v4 y4 =>
  gSlice v4 fun a_5 l_5 c_5 =>
  uncons y4 fun v6 y6 =>
  gInt .i64 v6 fun x_7 =>
  unnil y6 <| HC natmul_Mul.id #[.slice a2 l2 c2, .slice a_5 l_5 c_5] h2 fun v8 h9 =>
  gTup v8 fun y10 =>
  uncons y10 fun v11 y11 =>
  gSlice v11 fun a_12 l_12 c_12 =>
  uncons y11 fun v13 y13 =>
  gInt .i64 v13 fun x_14 =>
  unnil y13 <| HC nat_Add.id #[.slice a_12 l_12 c_12, .slice a2 l2 c2] h9 fun v15 h16 =>
  gTup v15 fun y17 =>
  uncons y17 fun v18 y18 =>
  gSlice v18 fun a_19 l_19 c_19 =>
  uncons y18 fun v20 y20 =>
  gInt .i64 v20 fun x_21 =>
  unnil y20 <| HC nat_Word.id #[.int .u64 x0] h16 fun v22 h23 =>
  gSlice v22 fun a_24 l_24 c_24 =>
  letK (IntKind.i64.wrap (x1 + x7)) fun n25 =>
  letK (IntKind.i64.wrap (n25 + 1)) fun n26 =>
  HC nat_Shl.id #[.slice a_24 l_24 c_24, .int .i64 n26] h23 fun v27 h28 =>
  gTup v27 fun y29 =>
  uncons y29 fun v30 y30 =>
  gSlice v30 fun a_31 l_31 c_31 =>
  uncons y30 fun v32 y32 =>
  gInt .i64 v32 fun x_33 =>
  unnil y32 <| HC nearpi_apart.id #[.slice a_31 l_31 c_31, .slice a_12 l_12 c_12] h28 fun v34 h35 =>
  gSlice v34 fun a_36 l_36 c_36 =>
  HC nearpi_apart.id #[.slice a_31 l_31 c_31, .slice a_19 l_19 c_19] h35 fun v37 h38 =>
  gSlice v37 fun a_39 l_39 c_39 =>
  cond (decide ((((l_36 : Nat) : Int)) > 0)) (cond (decide ((((l_39 : Nat) : Int)) > 0)) (HC nat_Bits.id #[.slice a_36 l_36 c_36] h38 fun v40 h41 =>
  gInt .i64 v40 fun x_42 =>
  HC nat_Bits.id #[.slice a_39 l_39 c_39] h41 fun v43 h44 =>
  gInt .i64 v43 fun x_45 =>
  cond (x_42 == x_45) (HC nat_Cmp.id #[.slice a_31 l_31 c_31, .slice a_12 l_12 c_12] h44 fun v46 h47 =>
  gInt .i64 v46 fun x_48 =>
  HC nat_Cmp.id #[.slice a_31 l_31 c_31, .slice a_19 l_19 c_19] h47 fun v49 h50 =>
  gInt .i64 v49 fun x_51 =>
  cond (x_48 == x_51) (letK (IntKind.i64.wrap (x7 + 2)) fun n52 =>
  HC nat_Bits.id #[.slice a_36 l_36 c_36] h50 fun v53 h54 =>
  gInt .i64 v53 fun x_55 =>
  letK (IntKind.i64.wrap (n52 - x_55)) fun n56 =>
  R (.int .i64 n56) h54) (letK (IntKind.i64.wrap (x7 + 1400)) fun n57 =>
  N2 x0 x1 a2 l2 c2 n57 h50)) (letK (IntKind.i64.wrap (x7 + 1400)) fun n58 =>
  N2 x0 x1 a2 l2 c2 n58 h44)) (letK (IntKind.i64.wrap (x7 + 1400)) fun n59 =>
  N2 x0 x1 a2 l2 c2 n59 h38)) (letK (IntKind.i64.wrap (x7 + 1400)) fun n60 =>
  N2 x0 x1 a2 l2 c2 n60 h38)
def D3.g (R : Rt) (N2 : Int → Int → Option Addr → Nat → Nat → Int → Hp → Prop) (fr : Fr) (h : Hp) : Prop := gInt .u64 (fr 0) fun x0 => gInt .i64 (fr 1) fun x1 => gSlice (fr 2) fun a2 l2 c2 => gInt .i64 (fr 7) fun x7 => D3.t R N2 x0 x1 a2 l2 c2 x7 h
theorem D3.ok (R : Rt) (N2 : Int → Int → Option Addr → Nat → Nat → Int → Hp → Prop) (fr : Fr) (h : Hp) (g : D3.g R N2 fr h) : den prog E (cAt C [true, true, false, false]) (Ex.then (L2.g N2) (Ex.inBlock 0 (retQ E [.tmp 6] R))) fr h := by
  obtain ⟨x0, e0, g⟩ := gInt_elim g
  obtain ⟨x1, e1, g⟩ := gInt_elim g
  obtain ⟨a2, l2, c2, e2, g⟩ := gSlice_elim g
  obtain ⟨x7, e7, g⟩ := gInt_elim g
  exact den_enter [(0, .int .u64 x0), (1, .int .i64 x1), (2, .slice a2 l2 c2), (7, .int .i64 x7)] ⟨e0, e1, e2, e7, trivial⟩ (by kernel_rfl) g
def L2.t (R : Rt) : Nat → Int → Int → Option Addr → Nat → Nat → Int → Hp → Prop
  | 0 => fun _ _ _ _ _ _ _ => False
  | n + 1 => fun x0 x1 a2 l2 c2 x7 h => D3.t R (L2.t R n) x0 x1 a2 l2 c2 x7 h
theorem L2.ok (R : Rt) (fr : Fr) (h : Hp) (g : L2.g (fun x0 x1 a2 l2 c2 x7 h => ∃ n, L2.t R n x0 x1 a2 l2 c2 x7 h) fr h) : den prog E (cAt C [true, true, false]) (Ex.inBlock 0 (retQ E [.tmp 6] R)) fr h := by
  obtain ⟨x0, e0, g⟩ := gInt_elim g
  obtain ⟨x1, e1, g⟩ := gInt_elim g
  obtain ⟨a2, l2, c2, e2, g⟩ := gSlice_elim g
  obtain ⟨x7, e7, g⟩ := gInt_elim g
  obtain ⟨n, g⟩ := g
  refine loop_ok (fun n => L2.g (L2.t R n)) (b := (cAt C [true, true, false, false])) (by kernel_rfl) (fun fr h g => ?_) (fun n => D3.ok R (L2.t R n)) n fr h (gInt_intro e0 (gInt_intro e1 (gSlice_intro e2 (gInt_intro e7 (g)))))
  obtain ⟨x0, e0, g⟩ := gInt_elim g
  obtain ⟨x1, e1, g⟩ := gInt_elim g
  obtain ⟨a2, l2, c2, e2, g⟩ := gSlice_elim g
  obtain ⟨x7, e7, g⟩ := gInt_elim g
  exact g
theorem B4.ok (R : Rt) (fr : Fr) (h : Hp) (g : L2.g (fun x0 x1 a2 l2 c2 x7 h => ∃ n, L2.t R n x0 x1 a2 l2 c2 x7 h) fr h) : den prog E (cAt C [true, true]) (retQ E [.tmp 6] R) fr h :=
  den_block (by kernel_rfl) (L2.ok R fr h g)
def D1.t (R : Rt) (x0 : Int) (x1 : Int) (a2 : Option Addr) (l2 : Nat) (c2 : Nat) (h : Hp) : Prop :=
  (∃ n, L2.t R n x0 x1 a2 l2 c2 1400 h)
def D1.g (R : Rt) (fr : Fr) (h : Hp) : Prop := gInt .u64 (fr 0) fun x0 => gInt .i64 (fr 1) fun x1 => gSlice (fr 2) fun a2 l2 c2 => D1.t R x0 x1 a2 l2 c2 h
theorem D1.ok (R : Rt) (fr : Fr) (h : Hp) (g : D1.g R fr h) : den prog E C (retQ E [.tmp 6] R) fr h := by
  obtain ⟨x0, e0, g⟩ := gInt_elim g
  obtain ⟨x1, e1, g⟩ := gInt_elim g
  obtain ⟨a2, l2, c2, e2, g⟩ := gSlice_elim g
  exact den_cut 2 (r := (cAt C [true, true])) (by kernel_rfl) (B4.ok R) (den_enter [(0, .int .u64 x0), (1, .int .i64 x1), (2, .slice a2 l2 c2)] ⟨e0, e1, e2, trivial⟩ (by kernel_rfl) g)
def t (x0 : Int) (x1 : Int) (a2 : Option Addr) (l2 : Nat) (c2 : Nat) (h : Hp) (R : Rt) : Prop := D1.t R x0 x1 a2 l2 c2 h
theorem ok {x0 : Int} {x1 : Int} {a2 : Option Addr} {l2 : Nat} {c2 : Nat} {h : Hp} {R : Rt} (g : t x0 x1 a2 l2 c2 h R) : HC id #[.int .u64 x0, .int .i64 x1, .slice a2 l2 c2] h R :=
  calls_of_den' envOk (c := C) (rs := [.tmp 6]) Try.func41 (by kernel_rfl) (by kernel_rfl) (by kernel_rfl) (args := [.int .u64 x0, .int .i64 x1, .slice a2 l2 c2]) (by kernel_rfl) (D1.ok R _ h (gInt_intro rfl (gInt_intro rfl (gSlice_intro rfl (g)))))
end nearpi_depth

namespace nat_MulWord
noncomputable def C : Code := bodyOf Try.f43
def D2.t (R : Rt) (a0 : Option Addr) (l0 : Nat) (c0 : Nat) (a6 : Option Addr) (l6 : Nat) (c6 : Nat) (x7 : Int) (h : Hp) : Prop :=
  idxK a6 l6 (((l0 : Nat) : Int)) 1 fun q7 =>
  stK h q7 (.int .u64 x7) fun h8 =>
  HC nat_told.id #[.slice a6 l6 c6] h8 fun v9 h10 =>
  gTup v9 fun y11 =>
  uncons y11 fun v12 y12 =>
  gSlice v12 fun a_13 l_13 c_13 =>
  uncons y12 fun v14 y14 =>
  gInt .i64 v14 fun x_15 =>
  unnil y14 <| R (.tuple #[.slice a_13 l_13 c_13, .int .i64 x_15]) h10
def D2.g (R : Rt) (fr : Fr) (h : Hp) : Prop := gSlice (fr 0) fun a0 l0 c0 => gSlice (fr 6) fun a6 l6 c6 => gInt .u64 (fr 7) fun x7 => D2.t R a0 l0 c0 a6 l6 c6 x7 h
theorem D2.ok (R : Rt) (fr : Fr) (h : Hp) (g : D2.g R fr h) : den prog E (cAt C [true, true, true, true, true]) (retQ E [.tmp 4, .tmp 5] R) fr h := by
  obtain ⟨a0, l0, c0, e0, g⟩ := gSlice_elim g
  obtain ⟨a6, l6, c6, e6, g⟩ := gSlice_elim g
  obtain ⟨x7, e7, g⟩ := gInt_elim g
  exact den_enter [(0, .slice a0 l0 c0), (6, .slice a6 l6 c6), (7, .int .u64 x7)] ⟨e0, e6, e7, trivial⟩ (by kernel_rfl) g
def L4.g (N : Option Addr → Nat → Nat → Int → Option Addr → Nat → Nat → Int → Int → Int → Hp → Prop) (fr : Fr) (h : Hp) : Prop := gSlice (fr 0) fun a0 l0 c0 => gInt .u64 (fr 1) fun x1 => gSlice (fr 6) fun a6 l6 c6 => gInt .u64 (fr 7) fun x7 => gInt .i64 (fr 20) fun x20 => gInt .i64 (fr 21) fun x21 => N a0 l0 c0 x1 a6 l6 c6 x7 x20 x21 h
def D5.t (R : Rt) (N4 : Option Addr → Nat → Nat → Int → Option Addr → Nat → Nat → Int → Int → Int → Hp → Prop) (a0 : Option Addr) (l0 : Nat) (c0 : Nat) (x1 : Int) (a6 : Option Addr) (l6 : Nat) (c6 : Nat) (x7 : Int) (x20 : Int) (x21 : Int) (h : Hp) : Prop :=
  cond (decide (x21 < x20)) (idxK a0 l0 x21 1 fun q16 =>
  ldK h q16 fun v17 =>
  gInt .u64 v17 fun x_18 =>
  HC bits_Mul64.id #[.int .u64 x_18, .int .u64 x1] h fun v19 h20 =>
  gTup v19 fun y21 =>
  uncons y21 fun v22 y22 =>
  gInt .u64 v22 fun x_23 =>
  uncons y22 fun v24 y24 =>
  gInt .u64 v24 fun x_25 =>
  unnil y24 <| addK x_25 x7 0 fun n26 m26 =>
  idxK a6 l6 x21 1 fun q27 =>
  stK h20 q27 (.int .u64 n26) fun h28 =>
  letK (IntKind.u64.wrap (x_23 + m26)) fun n29 =>
  letK (IntKind.i64.wrap (x21 + 1)) fun n30 =>
  N4 a0 l0 c0 x1 a6 l6 c6 n29 x20 n30 h28) (D2.t R a0 l0 c0 a6 l6 c6 x7 h)
def D5.g (R : Rt) (N4 : Option Addr → Nat → Nat → Int → Option Addr → Nat → Nat → Int → Int → Int → Hp → Prop) (fr : Fr) (h : Hp) : Prop := gSlice (fr 0) fun a0 l0 c0 => gInt .u64 (fr 1) fun x1 => gSlice (fr 6) fun a6 l6 c6 => gInt .u64 (fr 7) fun x7 => gInt .i64 (fr 20) fun x20 => gInt .i64 (fr 21) fun x21 => D5.t R N4 a0 l0 c0 x1 a6 l6 c6 x7 x20 x21 h
theorem D5.ok (R : Rt) (N4 : Option Addr → Nat → Nat → Int → Option Addr → Nat → Nat → Int → Int → Int → Hp → Prop) (fr : Fr) (h : Hp) (g : D5.g R N4 fr h) : den prog E (cAt C [true, true, true, true, false, true, false, false]) (Ex.then (L4.g N4) (Ex.inBlock 0 (Ex.then (D2.g R) (retQ E [.tmp 4, .tmp 5] R)))) fr h := by
  obtain ⟨a0, l0, c0, e0, g⟩ := gSlice_elim g
  obtain ⟨x1, e1, g⟩ := gInt_elim g
  obtain ⟨a6, l6, c6, e6, g⟩ := gSlice_elim g
  obtain ⟨x7, e7, g⟩ := gInt_elim g
  obtain ⟨x20, e20, g⟩ := gInt_elim g
  obtain ⟨x21, e21, g⟩ := gInt_elim g
  exact den_enter [(0, .slice a0 l0 c0), (1, .int .u64 x1), (6, .slice a6 l6 c6), (7, .int .u64 x7), (20, .int .i64 x20), (21, .int .i64 x21)] ⟨e0, e1, e6, e7, e20, e21, trivial⟩ (by kernel_rfl) g
def L4.t (R : Rt) : Nat → Option Addr → Nat → Nat → Int → Option Addr → Nat → Nat → Int → Int → Int → Hp → Prop
  | 0 => fun _ _ _ _ _ _ _ _ _ _ _ => False
  | n + 1 => fun a0 l0 c0 x1 a6 l6 c6 x7 x20 x21 h => D5.t R (L4.t R n) a0 l0 c0 x1 a6 l6 c6 x7 x20 x21 h
theorem L4.ok (R : Rt) (fr : Fr) (h : Hp) (g : L4.g (fun a0 l0 c0 x1 a6 l6 c6 x7 x20 x21 h => ∃ n, L4.t R n a0 l0 c0 x1 a6 l6 c6 x7 x20 x21 h) fr h) : den prog E (cAt C [true, true, true, true, false, true, false]) (Ex.inBlock 0 (Ex.then (D2.g R) (retQ E [.tmp 4, .tmp 5] R))) fr h := by
  obtain ⟨a0, l0, c0, e0, g⟩ := gSlice_elim g
  obtain ⟨x1, e1, g⟩ := gInt_elim g
  obtain ⟨a6, l6, c6, e6, g⟩ := gSlice_elim g
  obtain ⟨x7, e7, g⟩ := gInt_elim g
  obtain ⟨x20, e20, g⟩ := gInt_elim g
  obtain ⟨x21, e21, g⟩ := gInt_elim g
  obtain ⟨n, g⟩ := g
  refine loop_ok (fun n => L4.g (L4.t R n)) (b := (cAt C [true, true, true, true, false, true, false, false])) (by kernel_rfl) (fun fr h g => ?_) (fun n => D5.ok R (L4.t R n)) n fr h (gSlice_intro e0 (gInt_intro e1 (gSlice_intro e6 (gInt_intro e7 (gInt_intro e20 (gInt_intro e21 (g)))))))
  obtain ⟨a0, l0, c0, e0, g⟩ := gSlice_elim g
  obtain ⟨x1, e1, g⟩ := gInt_elim g
  obtain ⟨a6, l6, c6, e6, g⟩ := gSlice_elim g
  obtain ⟨x7, e7, g⟩ := gInt_elim g
  obtain ⟨x20, e20, g⟩ := gInt_elim g
  obtain ⟨x21, e21, g⟩ := gInt_elim g
  exact g
theorem B6.ok (R : Rt) (fr : Fr) (h : Hp) (g : L4.g (fun a0 l0 c0 x1 a6 l6 c6 x7 x20 x21 h => ∃ n, L4.t R n a0 l0 c0 x1 a6 l6 c6 x7 x20 x21 h) fr h) : den prog E (cAt C [true, true, true, true, false, true]) (Ex.then (D2.g R) (retQ E [.tmp 4, .tmp 5] R)) fr h :=
  den_block (by kernel_rfl) (L4.ok R fr h g)
def D3.t (R : Rt) (a0 : Option Addr) (l0 : Nat) (c0 : Nat) (x1 : Int) (a6 : Option Addr) (l6 : Nat) (c6 : Nat) (x7 : Int) (h : Hp) : Prop :=
  (∃ n, L4.t R n a0 l0 c0 x1 a6 l6 c6 x7 (((l0 : Nat) : Int)) 0 h)
def D3.g (R : Rt) (fr : Fr) (h : Hp) : Prop := gSlice (fr 0) fun a0 l0 c0 => gInt .u64 (fr 1) fun x1 => gSlice (fr 6) fun a6 l6 c6 => gInt .u64 (fr 7) fun x7 => D3.t R a0 l0 c0 x1 a6 l6 c6 x7 h
theorem D3.ok (R : Rt) (fr : Fr) (h : Hp) (g : D3.g R fr h) : den prog E (cAt C [true, true, true, true, false]) (Ex.then (D2.g R) (retQ E [.tmp 4, .tmp 5] R)) fr h := by
  obtain ⟨a0, l0, c0, e0, g⟩ := gSlice_elim g
  obtain ⟨x1, e1, g⟩ := gInt_elim g
  obtain ⟨a6, l6, c6, e6, g⟩ := gSlice_elim g
  obtain ⟨x7, e7, g⟩ := gInt_elim g
  exact den_cut 1 (r := (cAt C [true, true, true, true, false, true])) (by kernel_rfl) (B6.ok R) (den_enter [(0, .slice a0 l0 c0), (1, .int .u64 x1), (6, .slice a6 l6 c6), (7, .int .u64 x7)] ⟨e0, e1, e6, e7, trivial⟩ (by kernel_rfl) g)
theorem W7.ok (R : Rt) (fr : Fr) (h : Hp) (g : D3.g R fr h) : den prog E (cAt C [true, true, true, true]) (retQ E [.tmp 4, .tmp 5] R) fr h :=
  den_then (by kernel_rfl) (D2.ok R) (D3.ok R fr h g)
def D1.t (R : Rt) (a0 : Option Addr) (l0 : Nat) (c0 : Nat) (x1 : Int) (h : Hp) : Prop :=
  HC nat_Form.id #[.slice a0 l0 c0] h fun v1 h2 =>
  gBool v1 fun b_3 =>
  cond (!b_3) (R (.tuple #[.slice none 0 0, .int .i64 2]) h2) (letK (IntKind.i64.wrap ((((l0 : Nat) : Int)) + 1)) fun n4 =>
  mkK h2 45 T45 n4 n4 fun q5 h6 =>
  D3.t R a0 l0 c0 x1 (some q5) n4.toNat n4.toNat 0 h6)
def D1.g (R : Rt) (fr : Fr) (h : Hp) : Prop := gSlice (fr 0) fun a0 l0 c0 => gInt .u64 (fr 1) fun x1 => D1.t R a0 l0 c0 x1 h
theorem D1.ok (R : Rt) (fr : Fr) (h : Hp) (g : D1.g R fr h) : den prog E C (retQ E [.tmp 4, .tmp 5] R) fr h := by
  obtain ⟨a0, l0, c0, e0, g⟩ := gSlice_elim g
  obtain ⟨x1, e1, g⟩ := gInt_elim g
  exact den_cut 4 (r := (cAt C [true, true, true, true])) (by kernel_rfl) (W7.ok R) (den_enter [(0, .slice a0 l0 c0), (1, .int .u64 x1)] ⟨e0, e1, trivial⟩ (by kernel_rfl) g)
def t (a0 : Option Addr) (l0 : Nat) (c0 : Nat) (x1 : Int) (h : Hp) (R : Rt) : Prop := D1.t R a0 l0 c0 x1 h
theorem ok {a0 : Option Addr} {l0 : Nat} {c0 : Nat} {x1 : Int} {h : Hp} {R : Rt} (g : t a0 l0 c0 x1 h R) : HC id #[.slice a0 l0 c0, .int .u64 x1] h R :=
  calls_of_den' envOk (c := C) (rs := [.tmp 4, .tmp 5]) Try.func43 (by kernel_rfl) (by kernel_rfl) (by kernel_rfl) (args := [.slice a0 l0 c0, .int .u64 x1]) (by kernel_rfl) (D1.ok R _ h (gSlice_intro rfl (gInt_intro rfl (g))))
end nat_MulWord

namespace nat_Add
noncomputable def C : Code := bodyOf Try.f44
def D4.t (R : Rt) (a0 : Option Addr) (l0 : Nat) (c0 : Nat) (a6 : Option Addr) (l6 : Nat) (c6 : Nat) (x7 : Int) (h : Hp) : Prop :=
  idxK a6 l6 (((l0 : Nat) : Int)) 1 fun q10 =>
  stK h q10 (.int .u64 x7) fun h11 =>
  HC nat_told.id #[.slice a6 l6 c6] h11 fun v12 h13 =>
  gTup v12 fun y14 =>
  uncons y14 fun v15 y15 =>
  gSlice v15 fun a_16 l_16 c_16 =>
  uncons y15 fun v17 y17 =>
  gInt .i64 v17 fun x_18 =>
  unnil y17 <| R (.tuple #[.slice a_16 l_16 c_16, .int .i64 x_18]) h13
def D4.g (R : Rt) (fr : Fr) (h : Hp) : Prop := gSlice (fr 0) fun a0 l0 c0 => gSlice (fr 6) fun a6 l6 c6 => gInt .u64 (fr 7) fun x7 => D4.t R a0 l0 c0 a6 l6 c6 x7 h
theorem D4.ok (R : Rt) (fr : Fr) (h : Hp) (g : D4.g R fr h) : den prog E (cAt C [true, true, true, true, true, true]) (retQ E [.tmp 4, .tmp 5] R) fr h := by
  obtain ⟨a0, l0, c0, e0, g⟩ := gSlice_elim g
  obtain ⟨a6, l6, c6, e6, g⟩ := gSlice_elim g
  obtain ⟨x7, e7, g⟩ := gInt_elim g
  exact den_enter [(0, .slice a0 l0 c0), (6, .slice a6 l6 c6), (7, .int .u64 x7)] ⟨e0, e6, e7, trivial⟩ (by kernel_rfl) g
def L6.g (N : Option Addr → Nat → Nat → Option Addr → Nat → Nat → Option Addr → Nat → Nat → Int → Int → Int → Hp → Prop) (fr : Fr) (h : Hp) : Prop := gSlice (fr 0) fun a0 l0 c0 => gSlice (fr 1) fun a1 l1 c1 => gSlice (fr 6) fun a6 l6 c6 => gInt .u64 (fr 7) fun x7 => gInt .i64 (fr 30) fun x30 => gInt .i64 (fr 31) fun x31 => N a0 l0 c0 a1 l1 c1 a6 l6 c6 x7 x30 x31 h
def D7.t (R : Rt) (N6 : Option Addr → Nat → Nat → Option Addr → Nat → Nat → Option Addr → Nat → Nat → Int → Int → Int → Hp → Prop) (a0 : Option Addr) (l0 : Nat) (c0 : Nat) (a1 : Option Addr) (l1 : Nat) (c1 : Nat) (a6 : Option Addr) (l6 : Nat) (c6 : Nat) (x7 : Int) (x30 : Int) (x31 : Int) (h : Hp) : Prop :=
  cond (decide (x31 < x30)) (cond (decide (x31 < (((l1 : Nat) : Int)))) (idxK a1 l1 x31 1 fun q19 =>
  ldK h q19 fun v20 =>
  gInt .u64 v20 fun x_21 =>
  idxK a0 l0 x31 1 fun q22 =>
  ldK h q22 fun v23 =>
  gInt .u64 v23 fun x_24 =>
  addK x_24 x_21 x7 fun n25 m25 =>
  idxK a6 l6 x31 1 fun q26 =>
  stK h q26 (.int .u64 n25) fun h27 =>
  letK (IntKind.i64.wrap (x31 + 1)) fun n28 =>
  N6 a0 l0 c0 a1 l1 c1 a6 l6 c6 m25 x30 n28 h27) (idxK a0 l0 x31 1 fun q29 =>
  ldK h q29 fun v30 =>
  gInt .u64 v30 fun x_31 =>
  addK x_31 0 x7 fun n32 m32 =>
  idxK a6 l6 x31 1 fun q33 =>
  stK h q33 (.int .u64 n32) fun h34 =>
  letK (IntKind.i64.wrap (x31 + 1)) fun n35 =>
  N6 a0 l0 c0 a1 l1 c1 a6 l6 c6 m32 x30 n35 h34)) (D4.t R a0 l0 c0 a6 l6 c6 x7 h)
def D7.g (R : Rt) (N6 : Option Addr → Nat → Nat → Option Addr → Nat → Nat → Option Addr → Nat → Nat → Int → Int → Int → Hp → Prop) (fr : Fr) (h : Hp) : Prop := gSlice (fr 0) fun a0 l0 c0 => gSlice (fr 1) fun a1 l1 c1 => gSlice (fr 6) fun a6 l6 c6 => gInt .u64 (fr 7) fun x7 => gInt .i64 (fr 30) fun x30 => gInt .i64 (fr 31) fun x31 => D7.t R N6 a0 l0 c0 a1 l1 c1 a6 l6 c6 x7 x30 x31 h
theorem D7.ok (R : Rt) (N6 : Option Addr → Nat → Nat → Option Addr → Nat → Nat → Option Addr → Nat → Nat → Int → Int → Int → Hp → Prop) (fr : Fr) (h : Hp) (g : D7.g R N6 fr h) : den prog E (cAt C [true, true, true, true, true, false, true, false, false]) (Ex.then (L6.g N6) (Ex.inBlock 0 (Ex.then (D4.g R) (retQ E [.tmp 4, .tmp 5] R)))) fr h := by
  obtain ⟨a0, l0, c0, e0, g⟩ := gSlice_elim g
  obtain ⟨a1, l1, c1, e1, g⟩ := gSlice_elim g
  obtain ⟨a6, l6, c6, e6, g⟩ := gSlice_elim g
  obtain ⟨x7, e7, g⟩ := gInt_elim g
  obtain ⟨x30, e30, g⟩ := gInt_elim g
  obtain ⟨x31, e31, g⟩ := gInt_elim g
  exact den_enter [(0, .slice a0 l0 c0), (1, .slice a1 l1 c1), (6, .slice a6 l6 c6), (7, .int .u64 x7), (30, .int .i64 x30), (31, .int .i64 x31)] ⟨e0, e1, e6, e7, e30, e31, trivial⟩ (by kernel_rfl) g
def L6.t (R : Rt) : Nat → Option Addr → Nat → Nat → Option Addr → Nat → Nat → Option Addr → Nat → Nat → Int → Int → Int → Hp → Prop
  | 0 => fun _ _ _ _ _ _ _ _ _ _ _ _ _ => False
  | n + 1 => fun a0 l0 c0 a1 l1 c1 a6 l6 c6 x7 x30 x31 h => D7.t R (L6.t R n) a0 l0 c0 a1 l1 c1 a6 l6 c6 x7 x30 x31 h
theorem L6.ok (R : Rt) (fr : Fr) (h : Hp) (g : L6.g (fun a0 l0 c0 a1 l1 c1 a6 l6 c6 x7 x30 x31 h => ∃ n, L6.t R n a0 l0 c0 a1 l1 c1 a6 l6 c6 x7 x30 x31 h) fr h) : den prog E (cAt C [true, true, true, true, true, false, true, false]) (Ex.inBlock 0 (Ex.then (D4.g R) (retQ E [.tmp 4, .tmp 5] R))) fr h := by
  obtain ⟨a0, l0, c0, e0, g⟩ := gSlice_elim g
  obtain ⟨a1, l1, c1, e1, g⟩ := gSlice_elim g
  obtain ⟨a6, l6, c6, e6, g⟩ := gSlice_elim g
  obtain ⟨x7, e7, g⟩ := gInt_elim g
  obtain ⟨x30, e30, g⟩ := gInt_elim g
  obtain ⟨x31, e31, g⟩ := gInt_elim g
  obtain ⟨n, g⟩ := g
  refine loop_ok (fun n => L6.g (L6.t R n)) (b := (cAt C [true, true, true, true, true, false, true, false, false])) (by kernel_rfl) (fun fr h g => ?_) (fun n => D7.ok R (L6.t R n)) n fr h (gSlice_intro e0 (gSlice_intro e1 (gSlice_intro e6 (gInt_intro e7 (gInt_intro e30 (gInt_intro e31 (g)))))))
  obtain ⟨a0, l0, c0, e0, g⟩ := gSlice_elim g
  obtain ⟨a1, l1, c1, e1, g⟩ := gSlice_elim g
  obtain ⟨a6, l6, c6, e6, g⟩ := gSlice_elim g
  obtain ⟨x7, e7, g⟩ := gInt_elim g
  obtain ⟨x30, e30, g⟩ := gInt_elim g
  obtain ⟨x31, e31, g⟩ := gInt_elim g
  exact g
theorem B8.ok (R : Rt) (fr : Fr) (h : Hp) (g : L6.g (fun a0 l0 c0 a1 l1 c1 a6 l6 c6 x7 x30 x31 h => ∃ n, L6.t R n a0 l0 c0 a1 l1 c1 a6 l6 c6 x7 x30 x31 h) fr h) : den prog E (cAt C [true, true, true, true, true, false, true]) (Ex.then (D4.g R) (retQ E [.tmp 4, .tmp 5] R)) fr h :=
  den_block (by kernel_rfl) (L6.ok R fr h g)
def D5.t (R : Rt) (a0 : Option Addr) (l0 : Nat) (c0 : Nat) (a1 : Option Addr) (l1 : Nat) (c1 : Nat) (a6 : Option Addr) (l6 : Nat) (c6 : Nat) (x7 : Int) (h : Hp) : Prop :=
  (∃ n, L6.t R n a0 l0 c0 a1 l1 c1 a6 l6 c6 x7 (((l0 : Nat) : Int)) 0 h)
def D5.g (R : Rt) (fr : Fr) (h : Hp) : Prop := gSlice (fr 0) fun a0 l0 c0 => gSlice (fr 1) fun a1 l1 c1 => gSlice (fr 6) fun a6 l6 c6 => gInt .u64 (fr 7) fun x7 => D5.t R a0 l0 c0 a1 l1 c1 a6 l6 c6 x7 h
theorem D5.ok (R : Rt) (fr : Fr) (h : Hp) (g : D5.g R fr h) : den prog E (cAt C [true, true, true, true, true, false]) (Ex.then (D4.g R) (retQ E [.tmp 4, .tmp 5] R)) fr h := by
  obtain ⟨a0, l0, c0, e0, g⟩ := gSlice_elim g
  obtain ⟨a1, l1, c1, e1, g⟩ := gSlice_elim g
  obtain ⟨a6, l6, c6, e6, g⟩ := gSlice_elim g
  obtain ⟨x7, e7, g⟩ := gInt_elim g
  exact den_cut 1 (r := (cAt C [true, true, true, true, true, false, true])) (by kernel_rfl) (B8.ok R) (den_enter [(0, .slice a0 l0 c0), (1, .slice a1 l1 c1), (6, .slice a6 l6 c6), (7, .int .u64 x7)] ⟨e0, e1, e6, e7, trivial⟩ (by kernel_rfl) g)
theorem W9.ok (R : Rt) (fr : Fr) (h : Hp) (g : D5.g R fr h) : den prog E (cAt C [true, true, true, true, true]) (retQ E [.tmp 4, .tmp 5] R) fr h :=
  den_then (by kernel_rfl) (D4.ok R) (D5.ok R fr h g)
def D3.t (R : Rt) (a0 : Option Addr) (l0 : Nat) (c0 : Nat) (a1 : Option Addr) (l1 : Nat) (c1 : Nat) (h : Hp) : Prop :=
  letK (IntKind.i64.wrap ((((l0 : Nat) : Int)) + 1)) fun n7 =>
  mkK h 45 T45 n7 n7 fun q8 h9 =>
  D5.t R a0 l0 c0 a1 l1 c1 (some q8) n7.toNat n7.toNat 0 h9
def D3.g (R : Rt) (fr : Fr) (h : Hp) : Prop := gSlice (fr 0) fun a0 l0 c0 => gSlice (fr 1) fun a1 l1 c1 => D3.t R a0 l0 c0 a1 l1 c1 h
theorem D3.ok (R : Rt) (fr : Fr) (h : Hp) (g : D3.g R fr h) : den prog E (cAt C [true, true, true]) (retQ E [.tmp 4, .tmp 5] R) fr h := by
  obtain ⟨a0, l0, c0, e0, g⟩ := gSlice_elim g
  obtain ⟨a1, l1, c1, e1, g⟩ := gSlice_elim g
  exact den_cut 2 (r := (cAt C [true, true, true, true, true])) (by kernel_rfl) (W9.ok R) (den_enter [(0, .slice a0 l0 c0), (1, .slice a1 l1 c1)] ⟨e0, e1, trivial⟩ (by kernel_rfl) g)
def D2.t (R : Rt) (a0 : Option Addr) (l0 : Nat) (c0 : Nat) (a1 : Option Addr) (l1 : Nat) (c1 : Nat) (h : Hp) : Prop :=
  cond (decide ((((l0 : Nat) : Int)) < (((l1 : Nat) : Int)))) (D3.t R a1 l1 c1 a0 l0 c0 h) (D3.t R a0 l0 c0 a1 l1 c1 h)
def D2.g (R : Rt) (fr : Fr) (h : Hp) : Prop := gSlice (fr 0) fun a0 l0 c0 => gSlice (fr 1) fun a1 l1 c1 => D2.t R a0 l0 c0 a1 l1 c1 h
theorem D2.ok (R : Rt) (fr : Fr) (h : Hp) (g : D2.g R fr h) : den prog E (cAt C [true, true]) (retQ E [.tmp 4, .tmp 5] R) fr h := by
  obtain ⟨a0, l0, c0, e0, g⟩ := gSlice_elim g
  obtain ⟨a1, l1, c1, e1, g⟩ := gSlice_elim g
  exact den_cut 1 (r := (cAt C [true, true, true])) (by kernel_rfl) (D3.ok R) (den_enter [(0, .slice a0 l0 c0), (1, .slice a1 l1 c1)] ⟨e0, e1, trivial⟩ (by kernel_rfl) g)
def D1.t (R : Rt) (a0 : Option Addr) (l0 : Nat) (c0 : Nat) (a1 : Option Addr) (l1 : Nat) (c1 : Nat) (h : Hp) : Prop :=
  HC nat_Form.id #[.slice a0 l0 c0] h fun v1 h2 =>
  gBool v1 fun b_3 =>
  cond (!b_3) (R (.tuple #[.slice none 0 0, .int .i64 2]) h2) (HC nat_Form.id #[.slice a1 l1 c1] h2 fun v4 h5 =>
  gBool v4 fun b_6 =>
  cond (!b_6) (R (.tuple #[.slice none 0 0, .int .i64 2]) h5) (D2.t R a0 l0 c0 a1 l1 c1 h5))
def D1.g (R : Rt) (fr : Fr) (h : Hp) : Prop := gSlice (fr 0) fun a0 l0 c0 => gSlice (fr 1) fun a1 l1 c1 => D1.t R a0 l0 c0 a1 l1 c1 h
theorem D1.ok (R : Rt) (fr : Fr) (h : Hp) (g : D1.g R fr h) : den prog E C (retQ E [.tmp 4, .tmp 5] R) fr h := by
  obtain ⟨a0, l0, c0, e0, g⟩ := gSlice_elim g
  obtain ⟨a1, l1, c1, e1, g⟩ := gSlice_elim g
  exact den_cut 2 (r := (cAt C [true, true])) (by kernel_rfl) (D2.ok R) (den_enter [(0, .slice a0 l0 c0), (1, .slice a1 l1 c1)] ⟨e0, e1, trivial⟩ (by kernel_rfl) g)
def t (a0 : Option Addr) (l0 : Nat) (c0 : Nat) (a1 : Option Addr) (l1 : Nat) (c1 : Nat) (h : Hp) (R : Rt) : Prop := D1.t R a0 l0 c0 a1 l1 c1 h
theorem ok {a0 : Option Addr} {l0 : Nat} {c0 : Nat} {a1 : Option Addr} {l1 : Nat} {c1 : Nat} {h : Hp} {R : Rt} (g : t a0 l0 c0 a1 l1 c1 h R) : HC id #[.slice a0 l0 c0, .slice a1 l1 c1] h R :=
  calls_of_den' envOk (c := C) (rs := [.tmp 4, .tmp 5]) Try.func44 (by kernel_rfl) (by kernel_rfl) (by kernel_rfl) (args := [.slice a0 l0 c0, .slice a1 l1 c1]) (by kernel_rfl) (D1.ok R _ h (gSlice_intro rfl (gSlice_intro rfl (g))))
end nat_Add

namespace gnomonref01_DivSmall
noncomputable def C : Code := bodyOf Try.f45
def D2.t (R : Rt) (a6 : Option Addr) (l6 : Nat) (c6 : Nat) (x7 : Int) (h : Hp) : Prop :=
  HC gnomonref01_Norm.id #[.slice a6 l6 c6] h fun v6 h7 =>
  gSlice v6 fun a_8 l_8 c_8 =>
  letK (IntKind.u32.wrap x7) fun n9 =>
  R (.tuple #[.slice a_8 l_8 c_8, .int .u32 n9]) h7
def D2.g (R : Rt) (fr : Fr) (h : Hp) : Prop := gSlice (fr 6) fun a6 l6 c6 => gInt .u64 (fr 7) fun x7 => D2.t R a6 l6 c6 x7 h
theorem D2.ok (R : Rt) (fr : Fr) (h : Hp) (g : D2.g R fr h) : den prog E (cAt C [true, true, true, true, true]) (retQ E [.tmp 4, .tmp 5] R) fr h := by
  obtain ⟨a6, l6, c6, e6, g⟩ := gSlice_elim g
  obtain ⟨x7, e7, g⟩ := gInt_elim g
  exact den_enter [(6, .slice a6 l6 c6), (7, .int .u64 x7)] ⟨e6, e7, trivial⟩ (by kernel_rfl) g
def L4.g (N : Option Addr → Nat → Nat → Int → Option Addr → Nat → Nat → Int → Int → Hp → Prop) (fr : Fr) (h : Hp) : Prop := gSlice (fr 0) fun a0 l0 c0 => gInt .u32 (fr 1) fun x1 => gSlice (fr 6) fun a6 l6 c6 => gInt .u64 (fr 7) fun x7 => gInt .i64 (fr 8) fun x8 => N a0 l0 c0 x1 a6 l6 c6 x7 x8 h
def D5.t (R : Rt) (N4 : Option Addr → Nat → Nat → Int → Option Addr → Nat → Nat → Int → Int → Hp → Prop) (a0 : Option Addr) (l0 : Nat) (c0 : Nat) (x1 : Int) (a6 : Option Addr) (l6 : Nat) (c6 : Nat) (x7 : Int) (x8 : Int) (h : Hp) : Prop :=
  cond (decide (x8 ≥ 0)) (0 ≤ (32 : Int) ∧ letK (shlI .u64 x7 32) fun n11 =>
  idxK a0 l0 x8 1 fun q12 =>
  ldK h q12 fun v13 =>
  gInt .u32 v13 fun x_14 =>
  letK (IntKind.u64.wrap x_14) fun n15 =>
  letK (IntKind.u64.wrap (n11 + n15)) fun n16 =>
  letK (IntKind.u64.wrap x1) fun n17 =>
  n17 ≠ 0 ∧ letK (IntKind.u64.wrap (Int.tdiv n16 n17)) fun n18 =>
  letK (IntKind.u32.wrap n18) fun n19 =>
  idxK a6 l6 x8 1 fun q20 =>
  stK h q20 (.int .u32 n19) fun h21 =>
  letK (IntKind.u64.wrap x1) fun n22 =>
  n22 ≠ 0 ∧ letK (Int.tmod n16 n22) fun n23 =>
  letK (IntKind.i64.wrap (x8 - 1)) fun n24 =>
  N4 a0 l0 c0 x1 a6 l6 c6 n23 n24 h21) (D2.t R a6 l6 c6 x7 h)
def D5.g (R : Rt) (N4 : Option Addr → Nat → Nat → Int → Option Addr → Nat → Nat → Int → Int → Hp → Prop) (fr : Fr) (h : Hp) : Prop := gSlice (fr 0) fun a0 l0 c0 => gInt .u32 (fr 1) fun x1 => gSlice (fr 6) fun a6 l6 c6 => gInt .u64 (fr 7) fun x7 => gInt .i64 (fr 8) fun x8 => D5.t R N4 a0 l0 c0 x1 a6 l6 c6 x7 x8 h
theorem D5.ok (R : Rt) (N4 : Option Addr → Nat → Nat → Int → Option Addr → Nat → Nat → Int → Int → Hp → Prop) (fr : Fr) (h : Hp) (g : D5.g R N4 fr h) : den prog E (cAt C [true, true, true, true, false, true, false, false]) (Ex.then (L4.g N4) (Ex.inBlock 0 (Ex.then (D2.g R) (retQ E [.tmp 4, .tmp 5] R)))) fr h := by
  obtain ⟨a0, l0, c0, e0, g⟩ := gSlice_elim g
  obtain ⟨x1, e1, g⟩ := gInt_elim g
  obtain ⟨a6, l6, c6, e6, g⟩ := gSlice_elim g
  obtain ⟨x7, e7, g⟩ := gInt_elim g
  obtain ⟨x8, e8, g⟩ := gInt_elim g
  exact den_enter [(0, .slice a0 l0 c0), (1, .int .u32 x1), (6, .slice a6 l6 c6), (7, .int .u64 x7), (8, .int .i64 x8)] ⟨e0, e1, e6, e7, e8, trivial⟩ (by kernel_rfl) g
def L4.t (R : Rt) : Nat → Option Addr → Nat → Nat → Int → Option Addr → Nat → Nat → Int → Int → Hp → Prop
  | 0 => fun _ _ _ _ _ _ _ _ _ _ => False
  | n + 1 => fun a0 l0 c0 x1 a6 l6 c6 x7 x8 h => D5.t R (L4.t R n) a0 l0 c0 x1 a6 l6 c6 x7 x8 h
theorem L4.ok (R : Rt) (fr : Fr) (h : Hp) (g : L4.g (fun a0 l0 c0 x1 a6 l6 c6 x7 x8 h => ∃ n, L4.t R n a0 l0 c0 x1 a6 l6 c6 x7 x8 h) fr h) : den prog E (cAt C [true, true, true, true, false, true, false]) (Ex.inBlock 0 (Ex.then (D2.g R) (retQ E [.tmp 4, .tmp 5] R))) fr h := by
  obtain ⟨a0, l0, c0, e0, g⟩ := gSlice_elim g
  obtain ⟨x1, e1, g⟩ := gInt_elim g
  obtain ⟨a6, l6, c6, e6, g⟩ := gSlice_elim g
  obtain ⟨x7, e7, g⟩ := gInt_elim g
  obtain ⟨x8, e8, g⟩ := gInt_elim g
  obtain ⟨n, g⟩ := g
  refine loop_ok (fun n => L4.g (L4.t R n)) (b := (cAt C [true, true, true, true, false, true, false, false])) (by kernel_rfl) (fun fr h g => ?_) (fun n => D5.ok R (L4.t R n)) n fr h (gSlice_intro e0 (gInt_intro e1 (gSlice_intro e6 (gInt_intro e7 (gInt_intro e8 (g))))))
  obtain ⟨a0, l0, c0, e0, g⟩ := gSlice_elim g
  obtain ⟨x1, e1, g⟩ := gInt_elim g
  obtain ⟨a6, l6, c6, e6, g⟩ := gSlice_elim g
  obtain ⟨x7, e7, g⟩ := gInt_elim g
  obtain ⟨x8, e8, g⟩ := gInt_elim g
  exact g
theorem B6.ok (R : Rt) (fr : Fr) (h : Hp) (g : L4.g (fun a0 l0 c0 x1 a6 l6 c6 x7 x8 h => ∃ n, L4.t R n a0 l0 c0 x1 a6 l6 c6 x7 x8 h) fr h) : den prog E (cAt C [true, true, true, true, false, true]) (Ex.then (D2.g R) (retQ E [.tmp 4, .tmp 5] R)) fr h :=
  den_block (by kernel_rfl) (L4.ok R fr h g)
def D3.t (R : Rt) (a0 : Option Addr) (l0 : Nat) (c0 : Nat) (x1 : Int) (a6 : Option Addr) (l6 : Nat) (c6 : Nat) (x7 : Int) (h : Hp) : Prop :=
  letK (IntKind.i64.wrap ((((l0 : Nat) : Int)) - 1)) fun n10 => (∃ n, L4.t R n a0 l0 c0 x1 a6 l6 c6 x7 n10 h)
def D3.g (R : Rt) (fr : Fr) (h : Hp) : Prop := gSlice (fr 0) fun a0 l0 c0 => gInt .u32 (fr 1) fun x1 => gSlice (fr 6) fun a6 l6 c6 => gInt .u64 (fr 7) fun x7 => D3.t R a0 l0 c0 x1 a6 l6 c6 x7 h
theorem D3.ok (R : Rt) (fr : Fr) (h : Hp) (g : D3.g R fr h) : den prog E (cAt C [true, true, true, true, false]) (Ex.then (D2.g R) (retQ E [.tmp 4, .tmp 5] R)) fr h := by
  obtain ⟨a0, l0, c0, e0, g⟩ := gSlice_elim g
  obtain ⟨x1, e1, g⟩ := gInt_elim g
  obtain ⟨a6, l6, c6, e6, g⟩ := gSlice_elim g
  obtain ⟨x7, e7, g⟩ := gInt_elim g
  exact den_cut 1 (r := (cAt C [true, true, true, true, false, true])) (by kernel_rfl) (B6.ok R) (den_enter [(0, .slice a0 l0 c0), (1, .int .u32 x1), (6, .slice a6 l6 c6), (7, .int .u64 x7)] ⟨e0, e1, e6, e7, trivial⟩ (by kernel_rfl) g)
theorem W7.ok (R : Rt) (fr : Fr) (h : Hp) (g : D3.g R fr h) : den prog E (cAt C [true, true, true, true]) (retQ E [.tmp 4, .tmp 5] R) fr h :=
  den_then (by kernel_rfl) (D2.ok R) (D3.ok R fr h g)
def D1.t (R : Rt) (a0 : Option Addr) (l0 : Nat) (c0 : Nat) (x1 : Int) (h : Hp) : Prop :=
  cond (x1 == 0) (HC gnomonref01_Word.id #[.int .u64 0] h fun v1 h2 =>
  gSlice v1 fun a_3 l_3 c_3 =>
  R (.tuple #[.slice a_3 l_3 c_3, .int .u32 0]) h2) (mkK h 56 T56 (((l0 : Nat) : Int)) (((l0 : Nat) : Int)) fun q4 h5 =>
  D3.t R a0 l0 c0 x1 (some q4) ((((l0 : Nat) : Int)).toNat) ((((l0 : Nat) : Int)).toNat) 0 h5)
def D1.g (R : Rt) (fr : Fr) (h : Hp) : Prop := gSlice (fr 0) fun a0 l0 c0 => gInt .u32 (fr 1) fun x1 => D1.t R a0 l0 c0 x1 h
theorem D1.ok (R : Rt) (fr : Fr) (h : Hp) (g : D1.g R fr h) : den prog E C (retQ E [.tmp 4, .tmp 5] R) fr h := by
  obtain ⟨a0, l0, c0, e0, g⟩ := gSlice_elim g
  obtain ⟨x1, e1, g⟩ := gInt_elim g
  exact den_cut 4 (r := (cAt C [true, true, true, true])) (by kernel_rfl) (W7.ok R) (den_enter [(0, .slice a0 l0 c0), (1, .int .u32 x1)] ⟨e0, e1, trivial⟩ (by kernel_rfl) g)
def t (a0 : Option Addr) (l0 : Nat) (c0 : Nat) (x1 : Int) (h : Hp) (R : Rt) : Prop := D1.t R a0 l0 c0 x1 h
theorem ok {a0 : Option Addr} {l0 : Nat} {c0 : Nat} {x1 : Int} {h : Hp} {R : Rt} (g : t a0 l0 c0 x1 h R) : HC id #[.slice a0 l0 c0, .int .u32 x1] h R :=
  calls_of_den' envOk (c := C) (rs := [.tmp 4, .tmp 5]) Try.func45 (by kernel_rfl) (by kernel_rfl) (by kernel_rfl) (args := [.slice a0 l0 c0, .int .u32 x1]) (by kernel_rfl) (D1.ok R _ h (gSlice_intro rfl (gInt_intro rfl (g))))
end gnomonref01_DivSmall

namespace gnomonref01_Pow2
noncomputable def C : Code := bodyOf Try.f46
def D1.t (R : Rt) (x0 : Int) (h : Hp) : Prop :=
  HC gnomonref01_Word.id #[.int .u64 1] h fun v1 h2 =>
  gSlice v1 fun a_3 l_3 c_3 =>
  HC gnomonref01_Shl.id #[.slice a_3 l_3 c_3, .int .i64 x0] h2 fun v4 h5 =>
  gSlice v4 fun a_6 l_6 c_6 =>
  R (.slice a_6 l_6 c_6) h5
def D1.g (R : Rt) (fr : Fr) (h : Hp) : Prop := gInt .i64 (fr 0) fun x0 => D1.t R x0 h
theorem D1.ok (R : Rt) (fr : Fr) (h : Hp) (g : D1.g R fr h) : den prog E C (retQ E [.tmp 2] R) fr h := by
  obtain ⟨x0, e0, g⟩ := gInt_elim g
  exact den_enter [(0, .int .i64 x0)] ⟨e0, trivial⟩ (by kernel_rfl) g
def t (x0 : Int) (h : Hp) (R : Rt) : Prop := D1.t R x0 h
theorem ok {x0 : Int} {h : Hp} {R : Rt} (g : t x0 h R) : HC id #[.int .i64 x0] h R :=
  calls_of_den' envOk (c := C) (rs := [.tmp 2]) Try.func46 (by kernel_rfl) (by kernel_rfl) (by kernel_rfl) (args := [.int .i64 x0]) (by kernel_rfl) (D1.ok R _ h (gInt_intro rfl (g)))
end gnomonref01_Pow2

namespace piconst_FloorInv
noncomputable def C : Code := bodyOf Try.f47
def L3.g (N : Int → Int → Hp → Prop) (fr : Fr) (h : Hp) : Prop := gInt .i64 (fr 0) fun x0 => gInt .i64 (fr 4) fun x4 => N x0 x4 h
def D4.t (R : Rt) (N3 : Int → Int → Hp → Prop) (x0 : Int) (x4 : Int) (h : Hp) : Prop :=
  letK (IntKind.i64.wrap (x0 + x4)) fun n1 =>
  HC piconst_machin.id #[.int .i64 n1] h fun v2 h3 =>
  gTup v2 fun y4 =>
  uncons y4 fun v5 y5 =>
  gSlice v5 fun a_6 l_6 c_6 =>
  uncons y5 fun v7 y7 =>
  gSlice v7 fun a_8 l_8 c_8 =>
  unnil y7 <| HC nat_Word.id #[.int .u64 1] h3 fun v9 h10 =>
  gSlice v9 fun a_11 l_11 c_11 =>
  letK (IntKind.i64.wrap (2 * x0)) fun n12 =>
  letK (IntKind.i64.wrap (n12 + x4)) fun n13 =>
  letK (IntKind.i64.wrap (n13 + 1)) fun n14 =>
  HC nat_Shl.id #[.slice a_11 l_11 c_11, .int .i64 n14] h10 fun v15 h16 =>
  gTup v15 fun y17 =>
  uncons y17 fun v18 y18 =>
  gSlice v18 fun a_19 l_19 c_19 =>
  uncons y18 fun v20 y20 =>
  gInt .i64 v20 fun x_21 =>
  unnil y20 <| HC natdiv_QuoRem.id #[.slice a_19 l_19 c_19, .slice a_8 l_8 c_8] h16 fun v22 h23 =>
  gTup v22 fun y24 =>
  uncons y24 fun v25 y25 =>
  gSlice v25 fun a_26 l_26 c_26 =>
  uncons y25 fun v27 y27 =>
  gSlice v27 fun a_28 l_28 c_28 =>
  uncons y27 fun v29 y29 =>
  gInt .i64 v29 fun x_30 =>
  unnil y29 <| HC natdiv_QuoRem.id #[.slice a_19 l_19 c_19, .slice a_6 l_6 c_6] h23 fun v31 h32 =>
  gTup v31 fun y33 =>
  uncons y33 fun v34 y34 =>
  gSlice v34 fun a_35 l_35 c_35 =>
  uncons y34 fun v36 y36 =>
  gSlice v36 fun a_37 l_37 c_37 =>
  uncons y36 fun v38 y38 =>
  gInt .i64 v38 fun x_39 =>
  unnil y38 <| HC nat_Cmp.id #[.slice a_26 l_26 c_26, .slice a_35 l_35 c_35] h32 fun v40 h41 =>
  gInt .i64 v40 fun x_42 =>
  cond (x_42 == 0) (R (.tuple #[.slice a_26 l_26 c_26, .int .i64 0]) h41) (letK (IntKind.i64.wrap (x4 * 2)) fun n43 =>
  N3 x0 n43 h41)
def D4.g (R : Rt) (N3 : Int → Int → Hp → Prop) (fr : Fr) (h : Hp) : Prop := gInt .i64 (fr 0) fun x0 => gInt .i64 (fr 4) fun x4 => D4.t R N3 x0 x4 h
theorem D4.ok (R : Rt) (N3 : Int → Int → Hp → Prop) (fr : Fr) (h : Hp) (g : D4.g R N3 fr h) : den prog E (cAt C [true, true, true, false, false]) (Ex.then (L3.g N3) (Ex.inBlock 0 (retQ E [.tmp 2, .tmp 3] R))) fr h := by
  obtain ⟨x0, e0, g⟩ := gInt_elim g
  obtain ⟨x4, e4, g⟩ := gInt_elim g
  exact den_enter [(0, .int .i64 x0), (4, .int .i64 x4)] ⟨e0, e4, trivial⟩ (by kernel_rfl) g
def L3.t (R : Rt) : Nat → Int → Int → Hp → Prop
  | 0 => fun _ _ _ => False
  | n + 1 => fun x0 x4 h => D4.t R (L3.t R n) x0 x4 h
theorem L3.ok (R : Rt) (fr : Fr) (h : Hp) (g : L3.g (fun x0 x4 h => ∃ n, L3.t R n x0 x4 h) fr h) : den prog E (cAt C [true, true, true, false]) (Ex.inBlock 0 (retQ E [.tmp 2, .tmp 3] R)) fr h := by
  obtain ⟨x0, e0, g⟩ := gInt_elim g
  obtain ⟨x4, e4, g⟩ := gInt_elim g
  obtain ⟨n, g⟩ := g
  refine loop_ok (fun n => L3.g (L3.t R n)) (b := (cAt C [true, true, true, false, false])) (by kernel_rfl) (fun fr h g => ?_) (fun n => D4.ok R (L3.t R n)) n fr h (gInt_intro e0 (gInt_intro e4 (g)))
  obtain ⟨x0, e0, g⟩ := gInt_elim g
  obtain ⟨x4, e4, g⟩ := gInt_elim g
  exact g
theorem B5.ok (R : Rt) (fr : Fr) (h : Hp) (g : L3.g (fun x0 x4 h => ∃ n, L3.t R n x0 x4 h) fr h) : den prog E (cAt C [true, true, true]) (retQ E [.tmp 2, .tmp 3] R) fr h :=
  den_block (by kernel_rfl) (L3.ok R fr h g)
def D2.t (R : Rt) (x0 : Int) (h : Hp) : Prop :=
  (∃ n, L3.t R n x0 48 h)
def D2.g (R : Rt) (fr : Fr) (h : Hp) : Prop := gInt .i64 (fr 0) fun x0 => D2.t R x0 h
theorem D2.ok (R : Rt) (fr : Fr) (h : Hp) (g : D2.g R fr h) : den prog E (cAt C [true, true]) (retQ E [.tmp 2, .tmp 3] R) fr h := by
  obtain ⟨x0, e0, g⟩ := gInt_elim g
  exact den_cut 1 (r := (cAt C [true, true, true])) (by kernel_rfl) (B5.ok R) (den_enter [(0, .int .i64 x0)] ⟨e0, trivial⟩ (by kernel_rfl) g)
def D1.t (R : Rt) (x0 : Int) (h : Hp) : Prop :=
  cond (decide (x0 < 1)) (R (.tuple #[.slice none 0 0, .int .i64 1]) h) (cond (decide (x0 > 70000)) (R (.tuple #[.slice none 0 0, .int .i64 1]) h) (D2.t R x0 h))
def D1.g (R : Rt) (fr : Fr) (h : Hp) : Prop := gInt .i64 (fr 0) fun x0 => D1.t R x0 h
theorem D1.ok (R : Rt) (fr : Fr) (h : Hp) (g : D1.g R fr h) : den prog E C (retQ E [.tmp 2, .tmp 3] R) fr h := by
  obtain ⟨x0, e0, g⟩ := gInt_elim g
  exact den_cut 2 (r := (cAt C [true, true])) (by kernel_rfl) (D2.ok R) (den_enter [(0, .int .i64 x0)] ⟨e0, trivial⟩ (by kernel_rfl) g)
def t (x0 : Int) (h : Hp) (R : Rt) : Prop := D1.t R x0 h
theorem ok {x0 : Int} {h : Hp} {R : Rt} (g : t x0 h R) : HC id #[.int .i64 x0] h R :=
  calls_of_den' envOk (c := C) (rs := [.tmp 2, .tmp 3]) Try.func47 (by kernel_rfl) (by kernel_rfl) (by kernel_rfl) (args := [.int .i64 x0]) (by kernel_rfl) (D1.ok R _ h (gInt_intro rfl (g)))
end piconst_FloorInv

namespace nat_Low
noncomputable def C : Code := bodyOf Try.f48
def D2.t (R : Rt) (a8 : Option Addr) (l8 : Nat) (c8 : Nat) (h : Hp) : Prop :=
  HC nat_told.id #[.slice a8 l8 c8] h fun v19 h20 =>
  gTup v19 fun y21 =>
  uncons y21 fun v22 y22 =>
  gSlice v22 fun a_23 l_23 c_23 =>
  uncons y22 fun v24 y24 =>
  gInt .i64 v24 fun x_25 =>
  unnil y24 <| R (.tuple #[.slice a_23 l_23 c_23, .int .i64 x_25]) h20
def D2.g (R : Rt) (fr : Fr) (h : Hp) : Prop := gSlice (fr 8) fun a8 l8 c8 => D2.t R a8 l8 c8 h
theorem D2.ok (R : Rt) (fr : Fr) (h : Hp) (g : D2.g R fr h) : den prog E (cAt C [true, true, true, true, true, true, true]) (retQ E [.tmp 4, .tmp 5] R) fr h := by
  obtain ⟨a8, l8, c8, e8, g⟩ := gSlice_elim g
  exact den_enter [(8, .slice a8 l8 c8)] ⟨e8, trivial⟩ (by kernel_rfl) g
def D1.t (R : Rt) (a0 : Option Addr) (l0 : Nat) (c0 : Nat) (x1 : Int) (h : Hp) : Prop :=
  cond (decide (x1 < 0)) (R (.tuple #[.slice none 0 0, .int .i64 1]) h) (HC nat_Form.id #[.slice a0 l0 c0] h fun v1 h2 =>
  gBool v1 fun b_3 =>
  cond (!b_3) (R (.tuple #[.slice none 0 0, .int .i64 2]) h2) ((64 : Int) ≠ 0 ∧ letK (IntKind.i64.wrap (Int.tdiv x1 64)) fun n4 =>
  (64 : Int) ≠ 0 ∧ letK (Int.tmod x1 64) fun n5 =>
  mkK h2 45 T45 (((l0 : Nat) : Int)) (((l0 : Nat) : Int)) fun q6 h7 =>
  cpK h7 1 (some q6) ((((l0 : Nat) : Int)).toNat) (.slice a0 l0 c0) fun n8 h8 =>
  cond (decide (n4 < (((l0 : Nat) : Int)))) (idxK (some q6) ((((l0 : Nat) : Int)).toNat) n4 1 fun q9 =>
  ldK h8 q9 fun v10 =>
  gInt .u64 v10 fun x_11 =>
  0 ≤ n5 ∧ letK (shlI .u64 1 n5) fun n12 =>
  letK (IntKind.u64.wrap (n12 - 1)) fun n13 =>
  letK (andI .u64 x_11 n13) fun n14 =>
  idxK (some q6) ((((l0 : Nat) : Int)).toNat) n4 1 fun q15 =>
  stK h8 q15 (.int .u64 n14) fun h16 =>
  letK (IntKind.i64.wrap (n4 + 1)) fun n17 =>
  slK 1 (some q6) ((((l0 : Nat) : Int)).toNat) ((((l0 : Nat) : Int)).toNat) none (some (.int .i64 n17)) none fun a_18 l_18 c_18 =>
  D2.t R a_18 l_18 c_18 h16) (D2.t R (some q6) ((((l0 : Nat) : Int)).toNat) ((((l0 : Nat) : Int)).toNat) h8)))
def D1.g (R : Rt) (fr : Fr) (h : Hp) : Prop := gSlice (fr 0) fun a0 l0 c0 => gInt .i64 (fr 1) fun x1 => D1.t R a0 l0 c0 x1 h
theorem D1.ok (R : Rt) (fr : Fr) (h : Hp) (g : D1.g R fr h) : den prog E C (retQ E [.tmp 4, .tmp 5] R) fr h := by
  obtain ⟨a0, l0, c0, e0, g⟩ := gSlice_elim g
  obtain ⟨x1, e1, g⟩ := gInt_elim g
  exact den_cut 7 (r := (cAt C [true, true, true, true, true, true, true])) (by kernel_rfl) (D2.ok R) (den_enter [(0, .slice a0 l0 c0), (1, .int .i64 x1)] ⟨e0, e1, trivial⟩ (by kernel_rfl) g)
def t (a0 : Option Addr) (l0 : Nat) (c0 : Nat) (x1 : Int) (h : Hp) (R : Rt) : Prop := D1.t R a0 l0 c0 x1 h
theorem ok {a0 : Option Addr} {l0 : Nat} {c0 : Nat} {x1 : Int} {h : Hp} {R : Rt} (g : t a0 l0 c0 x1 h R) : HC id #[.slice a0 l0 c0, .int .i64 x1] h R :=
  calls_of_den' envOk (c := C) (rs := [.tmp 4, .tmp 5]) Try.func48 (by kernel_rfl) (by kernel_rfl) (by kernel_rfl) (args := [.slice a0 l0 c0, .int .i64 x1]) (by kernel_rfl) (D1.ok R _ h (gSlice_intro rfl (gInt_intro rfl (g))))
end nat_Low

namespace nearpi_opposite
noncomputable def C : Code := bodyOf Try.f49
def D1.t (R : Rt) (a0 : Option Addr) (l0 : Nat) (c0 : Nat) (h : Hp) : Prop :=
  cond ((((l0 : Nat) : Int)) == 0) (R (.slice none 0 0) h) (HC nearpi_whole.id #[] h fun v1 h2 =>
  gSlice v1 fun a_3 l_3 c_3 =>
  HC nearpi_less.id #[.slice a_3 l_3 c_3, .slice a0 l0 c0, .int .u64 1] h2 fun v4 h5 =>
  gSlice v4 fun a_6 l_6 c_6 =>
  R (.slice a_6 l_6 c_6) h5)
def D1.g (R : Rt) (fr : Fr) (h : Hp) : Prop := gSlice (fr 0) fun a0 l0 c0 => D1.t R a0 l0 c0 h
theorem D1.ok (R : Rt) (fr : Fr) (h : Hp) (g : D1.g R fr h) : den prog E C (retQ E [.tmp 2] R) fr h := by
  obtain ⟨a0, l0, c0, e0, g⟩ := gSlice_elim g
  exact den_enter [(0, .slice a0 l0 c0)] ⟨e0, trivial⟩ (by kernel_rfl) g
def t (a0 : Option Addr) (l0 : Nat) (c0 : Nat) (h : Hp) (R : Rt) : Prop := D1.t R a0 l0 c0 h
theorem ok {a0 : Option Addr} {l0 : Nat} {c0 : Nat} {h : Hp} {R : Rt} (g : t a0 l0 c0 h R) : HC id #[.slice a0 l0 c0] h R :=
  calls_of_den' envOk (c := C) (rs := [.tmp 2]) Try.func49 (by kernel_rfl) (by kernel_rfl) (by kernel_rfl) (args := [.slice a0 l0 c0]) (by kernel_rfl) (D1.ok R _ h (gSlice_intro rfl (g)))
end nearpi_opposite

namespace nearpi_ring_least
noncomputable def C : Code := bodyOf Try.f50
def L2.g (N : Int → Option Addr → Nat → Nat → Int → Option Addr → Nat → Nat → Int → Option Addr → Nat → Nat → Int → Hp → Prop) (fr : Fr) (h : Hp) : Prop := gInt .u64 (fr 1) fun x1 => gSlice (fr 6) fun a6 l6 c6 => gInt .u64 (fr 7) fun x7 => gSlice (fr 8) fun a8 l8 c8 => gInt .u64 (fr 9) fun x9 => gSlice (fr 10) fun a10 l10 c10 => gInt .u64 (fr 11) fun x11 => N x1 a6 l6 c6 x7 a8 l8 c8 x9 a10 l10 c10 x11 h
def D10.t (R : Rt) (N2 : Int → Option Addr → Nat → Nat → Int → Option Addr → Nat → Nat → Int → Option Addr → Nat → Nat → Int → Hp → Prop) (x1 : Int) (a6 : Option Addr) (l6 : Nat) (c6 : Nat) (x7 : Int) (a8 : Option Addr) (l8 : Nat) (c8 : Nat) (x9 : Int) (a10 : Option Addr) (l10 : Nat) (c10 : Nat) (x11 : Int) (b144 : Bool) (h : Hp) : Prop :=
  cond b144 (R (.tuple #[.int .u64 x7, .slice a6 l6 c6]) h) (N2 x1 a6 l6 c6 x7 a8 l8 c8 x9 a10 l10 c10 x11 h)
def D10.g (R : Rt) (N2 : Int → Option Addr → Nat → Nat → Int → Option Addr → Nat → Nat → Int → Option Addr → Nat → Nat → Int → Hp → Prop) (fr : Fr) (h : Hp) : Prop := gInt .u64 (fr 1) fun x1 => gSlice (fr 6) fun a6 l6 c6 => gInt .u64 (fr 7) fun x7 => gSlice (fr 8) fun a8 l8 c8 => gInt .u64 (fr 9) fun x9 => gSlice (fr 10) fun a10 l10 c10 => gInt .u64 (fr 11) fun x11 => gBool (fr 144) fun b144 => D10.t R N2 x1 a6 l6 c6 x7 a8 l8 c8 x9 a10 l10 c10 x11 b144 h
theorem D10.ok (R : Rt) (N2 : Int → Option Addr → Nat → Nat → Int → Option Addr → Nat → Nat → Int → Option Addr → Nat → Nat → Int → Hp → Prop) (fr : Fr) (h : Hp) (g : D10.g R N2 fr h) : den prog E (cAt C [true, true, true, true, true, false, false, false, true, true, true, true, true, true, true, true, true, true, true]) (Ex.inBlock 1 (Ex.then (L2.g N2) (Ex.inBlock 0 (retQ E [.tmp 4, .tmp 5] R)))) fr h := by
  obtain ⟨x1, e1, g⟩ := gInt_elim g
  obtain ⟨a6, l6, c6, e6, g⟩ := gSlice_elim g
  obtain ⟨x7, e7, g⟩ := gInt_elim g
  obtain ⟨a8, l8, c8, e8, g⟩ := gSlice_elim g
  obtain ⟨x9, e9, g⟩ := gInt_elim g
  obtain ⟨a10, l10, c10, e10, g⟩ := gSlice_elim g
  obtain ⟨x11, e11, g⟩ := gInt_elim g
  obtain ⟨b144, e144, g⟩ := gBool_elim g
  exact den_enter [(1, .int .u64 x1), (6, .slice a6 l6 c6), (7, .int .u64 x7), (8, .slice a8 l8 c8), (9, .int .u64 x9), (10, .slice a10 l10 c10), (11, .int .u64 x11), (144, .bool b144)] ⟨e1, e6, e7, e8, e9, e10, e11, e144, trivial⟩ (by kernel_rfl) g
def D9.t (R : Rt) (N2 : Int → Option Addr → Nat → Nat → Int → Option Addr → Nat → Nat → Int → Option Addr → Nat → Nat → Int → Hp → Prop) (x1 : Int) (a6 : Option Addr) (l6 : Nat) (c6 : Nat) (x7 : Int) (a8 : Option Addr) (l8 : Nat) (c8 : Nat) (x9 : Int) (a10 : Option Addr) (l10 : Nat) (c10 : Nat) (x11 : Int) (x16 : Int) (h : Hp) : Prop :=
  cond (x16 == 0) (R (.tuple #[.int .u64 x7, .slice a6 l6 c6]) h) (HC nearpi_less.id #[.slice a8 l8 c8, .slice a10 l10 c10, .int .u64 x16] h fun v64 h65 =>
  gSlice v64 fun a_66 l_66 c_66 =>
  HC nearpi_add.id #[.int .u64 x9, .int .u64 x16, .int .u64 x11, .int .u64 x1] h65 fun v67 h68 =>
  gInt .u64 v67 fun x_69 =>
  cond ((((l_66 : Nat) : Int)) == 0) (D10.t R N2 x1 a6 l6 c6 x7 a_66 l_66 c_66 x_69 a10 l10 c10 x11 true h68) (D10.t R N2 x1 a6 l6 c6 x7 a_66 l_66 c_66 x_69 a10 l10 c10 x11 (decide (x_69 > x1)) h68))
def D9.g (R : Rt) (N2 : Int → Option Addr → Nat → Nat → Int → Option Addr → Nat → Nat → Int → Option Addr → Nat → Nat → Int → Hp → Prop) (fr : Fr) (h : Hp) : Prop := gInt .u64 (fr 1) fun x1 => gSlice (fr 6) fun a6 l6 c6 => gInt .u64 (fr 7) fun x7 => gSlice (fr 8) fun a8 l8 c8 => gInt .u64 (fr 9) fun x9 => gSlice (fr 10) fun a10 l10 c10 => gInt .u64 (fr 11) fun x11 => gInt .u64 (fr 16) fun x16 => D9.t R N2 x1 a6 l6 c6 x7 a8 l8 c8 x9 a10 l10 c10 x11 x16 h
theorem D9.ok (R : Rt) (N2 : Int → Option Addr → Nat → Nat → Int → Option Addr → Nat → Nat → Int → Option Addr → Nat → Nat → Int → Hp → Prop) (fr : Fr) (h : Hp) (g : D9.g R N2 fr h) : den prog E (cAt C [true, true, true, true, true, false, false, false, true, true, true, true, true, true, true, true]) (Ex.inBlock 1 (Ex.then (L2.g N2) (Ex.inBlock 0 (retQ E [.tmp 4, .tmp 5] R)))) fr h := by
  obtain ⟨x1, e1, g⟩ := gInt_elim g
  obtain ⟨a6, l6, c6, e6, g⟩ := gSlice_elim g
  obtain ⟨x7, e7, g⟩ := gInt_elim g
  obtain ⟨a8, l8, c8, e8, g⟩ := gSlice_elim g
  obtain ⟨x9, e9, g⟩ := gInt_elim g
  obtain ⟨a10, l10, c10, e10, g⟩ := gSlice_elim g
  obtain ⟨x11, e11, g⟩ := gInt_elim g
  obtain ⟨x16, e16, g⟩ := gInt_elim g
  exact den_cut 3 (r := (cAt C [true, true, true, true, true, false, false, false, true, true, true, true, true, true, true, true, true, true, true])) (by kernel_rfl) (D10.ok R N2) (den_enter [(1, .int .u64 x1), (6, .slice a6 l6 c6), (7, .int .u64 x7), (8, .slice a8 l8 c8), (9, .int .u64 x9), (10, .slice a10 l10 c10), (11, .int .u64 x11), (16, .int .u64 x16)] ⟨e1, e6, e7, e8, e9, e10, e11, e16, trivial⟩ (by kernel_rfl) g)
def D8.t (R : Rt) (N2 : Int → Option Addr → Nat → Nat → Int → Option Addr → Nat → Nat → Int → Option Addr → Nat → Nat → Int → Hp → Prop) (x1 : Int) (a6 : Option Addr) (l6 : Nat) (c6 : Nat) (x7 : Int) (a8 : Option Addr) (l8 : Nat) (c8 : Nat) (x9 : Int) (a10 : Option Addr) (l10 : Nat) (c10 : Nat) (x11 : Int) (x16 : Int) (h : Hp) : Prop :=
  HC nearpi_times.id #[.slice a8 l8 c8, .slice a10 l10 c10, .int .u64 x1] h fun v61 h62 =>
  gInt .u64 v61 fun x_63 =>
  cond (decide (x16 > x_63)) (D9.t R N2 x1 a6 l6 c6 x7 a8 l8 c8 x9 a10 l10 c10 x11 x_63 h62) (D9.t R N2 x1 a6 l6 c6 x7 a8 l8 c8 x9 a10 l10 c10 x11 x16 h62)
def D8.g (R : Rt) (N2 : Int → Option Addr → Nat → Nat → Int → Option Addr → Nat → Nat → Int → Option Addr → Nat → Nat → Int → Hp → Prop) (fr : Fr) (h : Hp) : Prop := gInt .u64 (fr 1) fun x1 => gSlice (fr 6) fun a6 l6 c6 => gInt .u64 (fr 7) fun x7 => gSlice (fr 8) fun a8 l8 c8 => gInt .u64 (fr 9) fun x9 => gSlice (fr 10) fun a10 l10 c10 => gInt .u64 (fr 11) fun x11 => gInt .u64 (fr 16) fun x16 => D8.t R N2 x1 a6 l6 c6 x7 a8 l8 c8 x9 a10 l10 c10 x11 x16 h
theorem D8.ok (R : Rt) (N2 : Int → Option Addr → Nat → Nat → Int → Option Addr → Nat → Nat → Int → Option Addr → Nat → Nat → Int → Hp → Prop) (fr : Fr) (h : Hp) (g : D8.g R N2 fr h) : den prog E (cAt C [true, true, true, true, true, false, false, false, true, true, true, true, true, true, true]) (Ex.inBlock 1 (Ex.then (L2.g N2) (Ex.inBlock 0 (retQ E [.tmp 4, .tmp 5] R)))) fr h := by
  obtain ⟨x1, e1, g⟩ := gInt_elim g
  obtain ⟨a6, l6, c6, e6, g⟩ := gSlice_elim g
  obtain ⟨x7, e7, g⟩ := gInt_elim g
  obtain ⟨a8, l8, c8, e8, g⟩ := gSlice_elim g
  obtain ⟨x9, e9, g⟩ := gInt_elim g
  obtain ⟨a10, l10, c10, e10, g⟩ := gSlice_elim g
  obtain ⟨x11, e11, g⟩ := gInt_elim g
  obtain ⟨x16, e16, g⟩ := gInt_elim g
  exact den_cut 1 (r := (cAt C [true, true, true, true, true, false, false, false, true, true, true, true, true, true, true, true])) (by kernel_rfl) (D9.ok R N2) (den_enter [(1, .int .u64 x1), (6, .slice a6 l6 c6), (7, .int .u64 x7), (8, .slice a8 l8 c8), (9, .int .u64 x9), (10, .slice a10 l10 c10), (11, .int .u64 x11), (16, .int .u64 x16)] ⟨e1, e6, e7, e8, e9, e10, e11, e16, trivial⟩ (by kernel_rfl) g)
def D7.t (R : Rt) (N2 : Int → Option Addr → Nat → Nat → Int → Option Addr → Nat → Nat → Int → Option Addr → Nat → Nat → Int → Hp → Prop) (x1 : Int) (a6 : Option Addr) (l6 : Nat) (c6 : Nat) (x7 : Int) (a8 : Option Addr) (l8 : Nat) (c8 : Nat) (x9 : Int) (a10 : Option Addr) (l10 : Nat) (c10 : Nat) (x11 : Int) (h : Hp) : Prop :=
  HC nat_Sub.id #[.slice a8 l8 c8, .slice a6 l6 c6] h fun v40 h41 =>
  gTup v40 fun y42 =>
  uncons y42 fun v43 y43 =>
  gSlice v43 fun a_44 l_44 c_44 =>
  uncons y43 fun v45 y45 =>
  gInt .i64 v45 fun x_46 =>
  unnil y45 <| HC nearpi_times.id #[.slice a_44 l_44 c_44, .slice a10 l10 c10, .int .u64 x1] h41 fun v47 h48 =>
  gInt .u64 v47 fun x_49 =>
  HC nat_MulWord.id #[.slice a10 l10 c10, .int .u64 x_49] h48 fun v50 h51 =>
  gTup v50 fun y52 =>
  uncons y52 fun v53 y53 =>
  gSlice v53 fun a_54 l_54 c_54 =>
  uncons y53 fun v55 y55 =>
  gInt .i64 v55 fun x_56 =>
  unnil y55 <| HC nat_Cmp.id #[.slice a_54 l_54 c_54, .slice a_44 l_44 c_44] h51 fun v57 h58 =>
  gInt .i64 v57 fun x_59 =>
  cond (decide (x_59 < 0)) (letK (IntKind.u64.wrap (x_49 + 1)) fun n60 =>
  D8.t R N2 x1 a6 l6 c6 x7 a8 l8 c8 x9 a10 l10 c10 x11 n60 h58) (D8.t R N2 x1 a6 l6 c6 x7 a8 l8 c8 x9 a10 l10 c10 x11 x_49 h58)
def D7.g (R : Rt) (N2 : Int → Option Addr → Nat → Nat → Int → Option Addr → Nat → Nat → Int → Option Addr → Nat → Nat → Int → Hp → Prop) (fr : Fr) (h : Hp) : Prop := gInt .u64 (fr 1) fun x1 => gSlice (fr 6) fun a6 l6 c6 => gInt .u64 (fr 7) fun x7 => gSlice (fr 8) fun a8 l8 c8 => gInt .u64 (fr 9) fun x9 => gSlice (fr 10) fun a10 l10 c10 => gInt .u64 (fr 11) fun x11 => D7.t R N2 x1 a6 l6 c6 x7 a8 l8 c8 x9 a10 l10 c10 x11 h
theorem D7.ok (R : Rt) (N2 : Int → Option Addr → Nat → Nat → Int → Option Addr → Nat → Nat → Int → Option Addr → Nat → Nat → Int → Hp → Prop) (fr : Fr) (h : Hp) (g : D7.g R N2 fr h) : den prog E (cAt C [true, true, true, true, true, false, false, false, true, true, true, true]) (Ex.inBlock 1 (Ex.then (L2.g N2) (Ex.inBlock 0 (retQ E [.tmp 4, .tmp 5] R)))) fr h := by
  obtain ⟨x1, e1, g⟩ := gInt_elim g
  obtain ⟨a6, l6, c6, e6, g⟩ := gSlice_elim g
  obtain ⟨x7, e7, g⟩ := gInt_elim g
  obtain ⟨a8, l8, c8, e8, g⟩ := gSlice_elim g
  obtain ⟨x9, e9, g⟩ := gInt_elim g
  obtain ⟨a10, l10, c10, e10, g⟩ := gSlice_elim g
  obtain ⟨x11, e11, g⟩ := gInt_elim g
  exact den_cut 3 (r := (cAt C [true, true, true, true, true, false, false, false, true, true, true, true, true, true, true])) (by kernel_rfl) (D8.ok R N2) (den_enter [(1, .int .u64 x1), (6, .slice a6 l6 c6), (7, .int .u64 x7), (8, .slice a8 l8 c8), (9, .int .u64 x9), (10, .slice a10 l10 c10), (11, .int .u64 x11)] ⟨e1, e6, e7, e8, e9, e10, e11, trivial⟩ (by kernel_rfl) g)
def D6.t (R : Rt) (N2 : Int → Option Addr → Nat → Nat → Int → Option Addr → Nat → Nat → Int → Option Addr → Nat → Nat → Int → Hp → Prop) (x1 : Int) (a6 : Option Addr) (l6 : Nat) (c6 : Nat) (x7 : Int) (a8 : Option Addr) (l8 : Nat) (c8 : Nat) (x9 : Int) (a10 : Option Addr) (l10 : Nat) (c10 : Nat) (x11 : Int) (h : Hp) : Prop :=
  cond ((((l10 : Nat) : Int)) == 0) (R (.tuple #[.int .u64 x7, .slice a6 l6 c6]) h) (cond (decide (x11 > x1)) (R (.tuple #[.int .u64 x7, .slice a6 l6 c6]) h) (D7.t R N2 x1 a6 l6 c6 x7 a8 l8 c8 x9 a10 l10 c10 x11 h))
def D6.g (R : Rt) (N2 : Int → Option Addr → Nat → Nat → Int → Option Addr → Nat → Nat → Int → Option Addr → Nat → Nat → Int → Hp → Prop) (fr : Fr) (h : Hp) : Prop := gInt .u64 (fr 1) fun x1 => gSlice (fr 6) fun a6 l6 c6 => gInt .u64 (fr 7) fun x7 => gSlice (fr 8) fun a8 l8 c8 => gInt .u64 (fr 9) fun x9 => gSlice (fr 10) fun a10 l10 c10 => gInt .u64 (fr 11) fun x11 => D6.t R N2 x1 a6 l6 c6 x7 a8 l8 c8 x9 a10 l10 c10 x11 h
theorem D6.ok (R : Rt) (N2 : Int → Option Addr → Nat → Nat → Int → Option Addr → Nat → Nat → Int → Option Addr → Nat → Nat → Int → Hp → Prop) (fr : Fr) (h : Hp) (g : D6.g R N2 fr h) : den prog E (cAt C [true, true, true, true, true, false, false, false, true, true, true]) (Ex.inBlock 1 (Ex.then (L2.g N2) (Ex.inBlock 0 (retQ E [.tmp 4, .tmp 5] R)))) fr h := by
  obtain ⟨x1, e1, g⟩ := gInt_elim g
  obtain ⟨a6, l6, c6, e6, g⟩ := gSlice_elim g
  obtain ⟨x7, e7, g⟩ := gInt_elim g
  obtain ⟨a8, l8, c8, e8, g⟩ := gSlice_elim g
  obtain ⟨x9, e9, g⟩ := gInt_elim g
  obtain ⟨a10, l10, c10, e10, g⟩ := gSlice_elim g
  obtain ⟨x11, e11, g⟩ := gInt_elim g
  exact den_cut 1 (r := (cAt C [true, true, true, true, true, false, false, false, true, true, true, true])) (by kernel_rfl) (D7.ok R N2) (den_enter [(1, .int .u64 x1), (6, .slice a6 l6 c6), (7, .int .u64 x7), (8, .slice a8 l8 c8), (9, .int .u64 x9), (10, .slice a10 l10 c10), (11, .int .u64 x11)] ⟨e1, e6, e7, e8, e9, e10, e11, trivial⟩ (by kernel_rfl) g)
def D5.t (R : Rt) (N2 : Int → Option Addr → Nat → Nat → Int → Option Addr → Nat → Nat → Int → Option Addr → Nat → Nat → Int → Hp → Prop) (x1 : Int) (a6 : Option Addr) (l6 : Nat) (c6 : Nat) (x7 : Int) (a8 : Option Addr) (l8 : Nat) (c8 : Nat) (x9 : Int) (a10 : Option Addr) (l10 : Nat) (c10 : Nat) (x11 : Int) (h : Hp) : Prop :=
  HC nearpi_times.id #[.slice a10 l10 c10, .slice a8 l8 c8, .int .u64 x1] h fun v31 h32 =>
  gInt .u64 v31 fun x_33 =>
  cond (decide (x_33 > 0)) (HC nearpi_less.id #[.slice a10 l10 c10, .slice a8 l8 c8, .int .u64 x_33] h32 fun v34 h35 =>
  gSlice v34 fun a_36 l_36 c_36 =>
  HC nearpi_add.id #[.int .u64 x11, .int .u64 x_33, .int .u64 x9, .int .u64 x1] h35 fun v37 h38 =>
  gInt .u64 v37 fun x_39 =>
  D6.t R N2 x1 a6 l6 c6 x7 a8 l8 c8 x9 a_36 l_36 c_36 x_39 h38) (D6.t R N2 x1 a6 l6 c6 x7 a8 l8 c8 x9 a10 l10 c10 x11 h32)
def D5.g (R : Rt) (N2 : Int → Option Addr → Nat → Nat → Int → Option Addr → Nat → Nat → Int → Option Addr → Nat → Nat → Int → Hp → Prop) (fr : Fr) (h : Hp) : Prop := gInt .u64 (fr 1) fun x1 => gSlice (fr 6) fun a6 l6 c6 => gInt .u64 (fr 7) fun x7 => gSlice (fr 8) fun a8 l8 c8 => gInt .u64 (fr 9) fun x9 => gSlice (fr 10) fun a10 l10 c10 => gInt .u64 (fr 11) fun x11 => D5.t R N2 x1 a6 l6 c6 x7 a8 l8 c8 x9 a10 l10 c10 x11 h
theorem D5.ok (R : Rt) (N2 : Int → Option Addr → Nat → Nat → Int → Option Addr → Nat → Nat → Int → Option Addr → Nat → Nat → Int → Hp → Prop) (fr : Fr) (h : Hp) (g : D5.g R N2 fr h) : den prog E (cAt C [true, true, true, true, true, false, false, false, true, true]) (Ex.inBlock 1 (Ex.then (L2.g N2) (Ex.inBlock 0 (retQ E [.tmp 4, .tmp 5] R)))) fr h := by
  obtain ⟨x1, e1, g⟩ := gInt_elim g
  obtain ⟨a6, l6, c6, e6, g⟩ := gSlice_elim g
  obtain ⟨x7, e7, g⟩ := gInt_elim g
  obtain ⟨a8, l8, c8, e8, g⟩ := gSlice_elim g
  obtain ⟨x9, e9, g⟩ := gInt_elim g
  obtain ⟨a10, l10, c10, e10, g⟩ := gSlice_elim g
  obtain ⟨x11, e11, g⟩ := gInt_elim g
  exact den_cut 1 (r := (cAt C [true, true, true, true, true, false, false, false, true, true, true])) (by kernel_rfl) (D6.ok R N2) (den_enter [(1, .int .u64 x1), (6, .slice a6 l6 c6), (7, .int .u64 x7), (8, .slice a8 l8 c8), (9, .int .u64 x9), (10, .slice a10 l10 c10), (11, .int .u64 x11)] ⟨e1, e6, e7, e8, e9, e10, e11, trivial⟩ (by kernel_rfl) g)
def D4.t (R : Rt) (N2 : Int → Option Addr → Nat → Nat → Int → Option Addr → Nat → Nat → Int → Option Addr → Nat → Nat → Int → Hp → Prop) (x1 : Int) (a6 : Option Addr) (l6 : Nat) (c6 : Nat) (x7 : Int) (a8 : Option Addr) (l8 : Nat) (c8 : Nat) (x9 : Int) (a10 : Option Addr) (l10 : Nat) (c10 : Nat) (x11 : Int) (h : Hp) : Prop :=
  letK (IntKind.u64.wrap (x7 + x9)) fun n26 =>
  letK (IntKind.u64.wrap (x1 - 1)) fun n27 =>
  cond (decide (n26 > n27)) (R (.tuple #[.int .u64 x7, .slice a6 l6 c6]) h) (cond ((((l6 : Nat) : Int)) == 0) (R (.tuple #[.int .u64 x7, .slice a6 l6 c6]) h) (HC nat_Cmp.id #[.slice a8 l8 c8, .slice a6 l6 c6] h fun v28 h29 =>
  gInt .i64 v28 fun x_30 =>
  cond (decide (x_30 ≤ 0)) (R (.tuple #[.int .u64 x7, .slice a6 l6 c6]) h29) (D5.t R N2 x1 a6 l6 c6 x7 a8 l8 c8 x9 a10 l10 c10 x11 h29)))
def D4.g (R : Rt) (N2 : Int → Option Addr → Nat → Nat → Int → Option Addr → Nat → Nat → Int → Option Addr → Nat → Nat → Int → Hp → Prop) (fr : Fr) (h : Hp) : Prop := gInt .u64 (fr 1) fun x1 => gSlice (fr 6) fun a6 l6 c6 => gInt .u64 (fr 7) fun x7 => gSlice (fr 8) fun a8 l8 c8 => gInt .u64 (fr 9) fun x9 => gSlice (fr 10) fun a10 l10 c10 => gInt .u64 (fr 11) fun x11 => D4.t R N2 x1 a6 l6 c6 x7 a8 l8 c8 x9 a10 l10 c10 x11 h
theorem D4.ok (R : Rt) (N2 : Int → Option Addr → Nat → Nat → Int → Option Addr → Nat → Nat → Int → Option Addr → Nat → Nat → Int → Hp → Prop) (fr : Fr) (h : Hp) (g : D4.g R N2 fr h) : den prog E (cAt C [true, true, true, true, true, false, false, false, true]) (Ex.inBlock 1 (Ex.then (L2.g N2) (Ex.inBlock 0 (retQ E [.tmp 4, .tmp 5] R)))) fr h := by
  obtain ⟨x1, e1, g⟩ := gInt_elim g
  obtain ⟨a6, l6, c6, e6, g⟩ := gSlice_elim g
  obtain ⟨x7, e7, g⟩ := gInt_elim g
  obtain ⟨a8, l8, c8, e8, g⟩ := gSlice_elim g
  obtain ⟨x9, e9, g⟩ := gInt_elim g
  obtain ⟨a10, l10, c10, e10, g⟩ := gSlice_elim g
  obtain ⟨x11, e11, g⟩ := gInt_elim g
  exact den_cut 1 (r := (cAt C [true, true, true, true, true, false, false, false, true, true])) (by kernel_rfl) (D5.ok R N2) (den_enter [(1, .int .u64 x1), (6, .slice a6 l6 c6), (7, .int .u64 x7), (8, .slice a8 l8 c8), (9, .int .u64 x9), (10, .slice a10 l10 c10), (11, .int .u64 x11)] ⟨e1, e6, e7, e8, e9, e10, e11, trivial⟩ (by kernel_rfl) g)
def D3.t (R : Rt) (N2 : Int → Option Addr → Nat → Nat → Int → Option Addr → Nat → Nat → Int → Option Addr → Nat → Nat → Int → Hp → Prop) (x1 : Int) (a6 : Option Addr) (l6 : Nat) (c6 : Nat) (x7 : Int) (a8 : Option Addr) (l8 : Nat) (c8 : Nat) (x9 : Int) (a10 : Option Addr) (l10 : Nat) (c10 : Nat) (x11 : Int) (h : Hp) : Prop :=
  HC nearpi_times.id #[.slice a6 l6 c6, .slice a8 l8 c8, .int .u64 x1] h fun v15 h16 =>
  gInt .u64 v15 fun x_17 =>
  letK (IntKind.u64.wrap (x1 - 1)) fun n18 =>
  letK (IntKind.u64.wrap (n18 - x7)) fun n19 =>
  x9 ≠ 0 ∧ letK (IntKind.u64.wrap (Int.tdiv n19 x9)) fun n20 =>
  cond (decide ((if n20 < x_17 then n20 else x_17) > 0)) (HC nearpi_less.id #[.slice a6 l6 c6, .slice a8 l8 c8, .int .u64 (if n20 < x_17 then n20 else x_17)] h16 fun v21 h22 =>
  gSlice v21 fun a_23 l_23 c_23 =>
  letK (IntKind.u64.wrap ((if n20 < x_17 then n20 else x_17) * x9)) fun n24 =>
  letK (IntKind.u64.wrap (x7 + n24)) fun n25 =>
  D4.t R N2 x1 a_23 l_23 c_23 n25 a8 l8 c8 x9 a10 l10 c10 x11 h22) (D4.t R N2 x1 a6 l6 c6 x7 a8 l8 c8 x9 a10 l10 c10 x11 h16)
def D3.g (R : Rt) (N2 : Int → Option Addr → Nat → Nat → Int → Option Addr → Nat → Nat → Int → Option Addr → Nat → Nat → Int → Hp → Prop) (fr : Fr) (h : Hp) : Prop := gInt .u64 (fr 1) fun x1 => gSlice (fr 6) fun a6 l6 c6 => gInt .u64 (fr 7) fun x7 => gSlice (fr 8) fun a8 l8 c8 => gInt .u64 (fr 9) fun x9 => gSlice (fr 10) fun a10 l10 c10 => gInt .u64 (fr 11) fun x11 => D3.t R N2 x1 a6 l6 c6 x7 a8 l8 c8 x9 a10 l10 c10 x11 h
theorem D3.ok (R : Rt) (N2 : Int → Option Addr → Nat → Nat → Int → Option Addr → Nat → Nat → Int → Option Addr → Nat → Nat → Int → Hp → Prop) (fr : Fr) (h : Hp) (g : D3.g R N2 fr h) : den prog E (cAt C [true, true, true, true, true, false, false, false]) (Ex.inBlock 1 (Ex.then (L2.g N2) (Ex.inBlock 0 (retQ E [.tmp 4, .tmp 5] R)))) fr h := by
  obtain ⟨x1, e1, g⟩ := gInt_elim g
  obtain ⟨a6, l6, c6, e6, g⟩ := gSlice_elim g
  obtain ⟨x7, e7, g⟩ := gInt_elim g
  obtain ⟨a8, l8, c8, e8, g⟩ := gSlice_elim g
  obtain ⟨x9, e9, g⟩ := gInt_elim g
  obtain ⟨a10, l10, c10, e10, g⟩ := gSlice_elim g
  obtain ⟨x11, e11, g⟩ := gInt_elim g
  exact den_cut 1 (r := (cAt C [true, true, true, true, true, false, false, false, true])) (by kernel_rfl) (D4.ok R N2) (den_enter [(1, .int .u64 x1), (6, .slice a6 l6 c6), (7, .int .u64 x7), (8, .slice a8 l8 c8), (9, .int .u64 x9), (10, .slice a10 l10 c10), (11, .int .u64 x11)] ⟨e1, e6, e7, e8, e9, e10, e11, trivial⟩ (by kernel_rfl) g)
theorem B11.ok (R : Rt) (N2 : Int → Option Addr → Nat → Nat → Int → Option Addr → Nat → Nat → Int → Option Addr → Nat → Nat → Int → Hp → Prop) (fr : Fr) (h : Hp) (g : D3.g R N2 fr h) : den prog E (cAt C [true, true, true, true, true, false, false]) (Ex.then (L2.g N2) (Ex.inBlock 0 (retQ E [.tmp 4, .tmp 5] R))) fr h :=
  den_block (by kernel_rfl) (D3.ok R N2 fr h g)
def L2.t (R : Rt) : Nat → Int → Option Addr → Nat → Nat → Int → Option Addr → Nat → Nat → Int → Option Addr → Nat → Nat → Int → Hp → Prop
  | 0 => fun _ _ _ _ _ _ _ _ _ _ _ _ _ _ => False
  | n + 1 => fun x1 a6 l6 c6 x7 a8 l8 c8 x9 a10 l10 c10 x11 h => D3.t R (L2.t R n) x1 a6 l6 c6 x7 a8 l8 c8 x9 a10 l10 c10 x11 h
theorem L2.ok (R : Rt) (fr : Fr) (h : Hp) (g : L2.g (fun x1 a6 l6 c6 x7 a8 l8 c8 x9 a10 l10 c10 x11 h => ∃ n, L2.t R n x1 a6 l6 c6 x7 a8 l8 c8 x9 a10 l10 c10 x11 h) fr h) : den prog E (cAt C [true, true, true, true, true, false]) (Ex.inBlock 0 (retQ E [.tmp 4, .tmp 5] R)) fr h := by
  obtain ⟨x1, e1, g⟩ := gInt_elim g
  obtain ⟨a6, l6, c6, e6, g⟩ := gSlice_elim g
  obtain ⟨x7, e7, g⟩ := gInt_elim g
  obtain ⟨a8, l8, c8, e8, g⟩ := gSlice_elim g
  obtain ⟨x9, e9, g⟩ := gInt_elim g
  obtain ⟨a10, l10, c10, e10, g⟩ := gSlice_elim g
  obtain ⟨x11, e11, g⟩ := gInt_elim g
  obtain ⟨n, g⟩ := g
  refine loop_ok (fun n => L2.g (L2.t R n)) (b := (cAt C [true, true, true, true, true, false, false])) (by kernel_rfl) (fun fr h g => ?_) (fun n => B11.ok R (L2.t R n)) n fr h (gInt_intro e1 (gSlice_intro e6 (gInt_intro e7 (gSlice_intro e8 (gInt_intro e9 (gSlice_intro e10 (gInt_intro e11 (g))))))))
  obtain ⟨x1, e1, g⟩ := gInt_elim g
  obtain ⟨a6, l6, c6, e6, g⟩ := gSlice_elim g
  obtain ⟨x7, e7, g⟩ := gInt_elim g
  obtain ⟨a8, l8, c8, e8, g⟩ := gSlice_elim g
  obtain ⟨x9, e9, g⟩ := gInt_elim g
  obtain ⟨a10, l10, c10, e10, g⟩ := gSlice_elim g
  obtain ⟨x11, e11, g⟩ := gInt_elim g
  exact g
theorem B12.ok (R : Rt) (fr : Fr) (h : Hp) (g : L2.g (fun x1 a6 l6 c6 x7 a8 l8 c8 x9 a10 l10 c10 x11 h => ∃ n, L2.t R n x1 a6 l6 c6 x7 a8 l8 c8 x9 a10 l10 c10 x11 h) fr h) : den prog E (cAt C [true, true, true, true, true]) (retQ E [.tmp 4, .tmp 5] R) fr h :=
  den_block (by kernel_rfl) (L2.ok R fr h g)
def D1.t (R : Rt) (a0_0 : Option Addr) (l0_0 : Nat) (c0_0 : Nat) (a0_1 : Option Addr) (l0_1 : Nat) (c0_1 : Nat) (x1 : Int) (h : Hp) : Prop :=
  boxK h 79 [.slice a0_0 l0_0 c0_0, .slice a0_1 l0_1 c0_1] fun q1 h2 =>
  ldK h2 (q1.add 0) fun v3 =>
  gSlice v3 fun a_4 l_4 c_4 =>
  HC nearpi_whole.id #[] h2 fun v5 h6 =>
  gSlice v5 fun a_7 l_7 c_7 =>
  (Pre h2.size h2 h6) ∧ (q1.add 1).block < h2.size ∧ ldK h6 (q1.add 1) fun v8 =>
  gSlice v8 fun a_9 l_9 c_9 =>
  HC nearpi_less.id #[.slice a_7 l_7 c_7, .slice a_9 l_9 c_9, .int .u64 1] h6 fun v10 h11 =>
  gSlice v10 fun a_12 l_12 c_12 =>
  (Pre h2.size h6 h11) ∧ ldK h11 (q1.add 1) fun v13 =>
  gSlice v13 fun a_14 l_14 c_14 =>
  (∃ n, L2.t R n x1 a_4 l_4 c_4 0 a_12 l_12 c_12 1 a_14 l_14 c_14 1 h11)
def D1.g (R : Rt) (fr : Fr) (h : Hp) : Prop := gAgg (fr 0) fun z0 => uncons z0 fun w0_0 z0_0 => gSlice w0_0 fun a0_0 l0_0 c0_0 => uncons z0_0 fun w0_1 z0_1 => gSlice w0_1 fun a0_1 l0_1 c0_1 => unnil z0_1 <| gInt .u64 (fr 1) fun x1 => D1.t R a0_0 l0_0 c0_0 a0_1 l0_1 c0_1 x1 h
theorem D1.ok (R : Rt) (fr : Fr) (h : Hp) (g : D1.g R fr h) : den prog E C (retQ E [.tmp 4, .tmp 5] R) fr h := by
  obtain ⟨z0, e0, g0_0⟩ := gAgg_elim' g
  obtain ⟨w0_0, z0_0, rfl, g0_0x⟩ := uncons_elim g0_0
  obtain ⟨a0_0, l0_0, c0_0, rfl, g0_1⟩ := gSlice_elim g0_0x
  obtain ⟨w0_1, z0_1, rfl, g0_1x⟩ := uncons_elim g0_1
  obtain ⟨a0_1, l0_1, c0_1, rfl, g0_2⟩ := gSlice_elim g0_1x
  obtain ⟨rfl, g⟩ := unnil_elim g0_2
  obtain ⟨x1, e1, g⟩ := gInt_elim g
  exact den_cut 5 (r := (cAt C [true, true, true, true, true])) (by kernel_rfl) (B12.ok R) (den_enter [(0, .agg #[.slice a0_0 l0_0 c0_0, .slice a0_1 l0_1 c0_1]), (1, .int .u64 x1)] ⟨e0, e1, trivial⟩ (by kernel_rfl) g)
def t (a0_0 : Option Addr) (l0_0 : Nat) (c0_0 : Nat) (a0_1 : Option Addr) (l0_1 : Nat) (c0_1 : Nat) (x1 : Int) (h : Hp) (R : Rt) : Prop := D1.t R a0_0 l0_0 c0_0 a0_1 l0_1 c0_1 x1 h
theorem ok {a0_0 : Option Addr} {l0_0 : Nat} {c0_0 : Nat} {a0_1 : Option Addr} {l0_1 : Nat} {c0_1 : Nat} {x1 : Int} {h : Hp} {R : Rt} (g : t a0_0 l0_0 c0_0 a0_1 l0_1 c0_1 x1 h R) : HC id #[.agg #[.slice a0_0 l0_0 c0_0, .slice a0_1 l0_1 c0_1], .int .u64 x1] h R :=
  calls_of_den' envOk (c := C) (rs := [.tmp 4, .tmp 5]) Try.func50 (by kernel_rfl) (by kernel_rfl) (by kernel_rfl) (args := [.agg #[.slice a0_0 l0_0 c0_0, .slice a0_1 l0_1 c0_1], .int .u64 x1]) (by kernel_rfl) (D1.ok R _ h (gAgg_intro rfl (uncons_intro (gSlice_intro rfl (uncons_intro (gSlice_intro rfl (unnil_intro (gInt_intro rfl (g)))))))))
end nearpi_ring_least

namespace nat_trim
noncomputable def C : Code := bodyOf Try.f51
def D2.t (R : Rt) (a0 : Option Addr) (l0 : Nat) (c0 : Nat) (x3 : Int) (h : Hp) : Prop :=
  slK 1 a0 l0 c0 none (some (.int .i64 x3)) none fun a_1 l_1 c_1 => R (.slice a_1 l_1 c_1) h
def D2.g (R : Rt) (fr : Fr) (h : Hp) : Prop := gSlice (fr 0) fun a0 l0 c0 => gInt .i64 (fr 3) fun x3 => D2.t R a0 l0 c0 x3 h
theorem D2.ok (R : Rt) (fr : Fr) (h : Hp) (g : D2.g R fr h) : den prog E (cAt C [true, true, true]) (retQ E [.tmp 2] R) fr h := by
  obtain ⟨a0, l0, c0, e0, g⟩ := gSlice_elim g
  obtain ⟨x3, e3, g⟩ := gInt_elim g
  exact den_enter [(0, .slice a0 l0 c0), (3, .int .i64 x3)] ⟨e0, e3, trivial⟩ (by kernel_rfl) g
def L3.g (N : Option Addr → Nat → Nat → Int → Hp → Prop) (fr : Fr) (h : Hp) : Prop := gSlice (fr 0) fun a0 l0 c0 => gInt .i64 (fr 3) fun x3 => N a0 l0 c0 x3 h
def D4.t (R : Rt) (N3 : Option Addr → Nat → Nat → Int → Hp → Prop) (a0 : Option Addr) (l0 : Nat) (c0 : Nat) (x3 : Int) (h : Hp) : Prop :=
  cond (decide (x3 > 0)) (letK (IntKind.i64.wrap (x3 - 1)) fun n2 =>
  idxK a0 l0 n2 1 fun q3 =>
  ldK h q3 fun v4 =>
  gInt .u64 v4 fun x_5 =>
  cond (x_5 == 0) (letK (IntKind.i64.wrap (x3 - 1)) fun n6 =>
  N3 a0 l0 c0 n6 h) (D2.t R a0 l0 c0 x3 h)) (D2.t R a0 l0 c0 x3 h)
def D4.g (R : Rt) (N3 : Option Addr → Nat → Nat → Int → Hp → Prop) (fr : Fr) (h : Hp) : Prop := gSlice (fr 0) fun a0 l0 c0 => gInt .i64 (fr 3) fun x3 => D4.t R N3 a0 l0 c0 x3 h
theorem D4.ok (R : Rt) (N3 : Option Addr → Nat → Nat → Int → Hp → Prop) (fr : Fr) (h : Hp) (g : D4.g R N3 fr h) : den prog E (cAt C [true, true, false, false, false]) (Ex.then (L3.g N3) (Ex.inBlock 0 (Ex.then (D2.g R) (retQ E [.tmp 2] R)))) fr h := by
  obtain ⟨a0, l0, c0, e0, g⟩ := gSlice_elim g
  obtain ⟨x3, e3, g⟩ := gInt_elim g
  exact den_enter [(0, .slice a0 l0 c0), (3, .int .i64 x3)] ⟨e0, e3, trivial⟩ (by kernel_rfl) g
def L3.t (R : Rt) : Nat → Option Addr → Nat → Nat → Int → Hp → Prop
  | 0 => fun _ _ _ _ _ => False
  | n + 1 => fun a0 l0 c0 x3 h => D4.t R (L3.t R n) a0 l0 c0 x3 h
theorem L3.ok (R : Rt) (fr : Fr) (h : Hp) (g : L3.g (fun a0 l0 c0 x3 h => ∃ n, L3.t R n a0 l0 c0 x3 h) fr h) : den prog E (cAt C [true, true, false, false]) (Ex.inBlock 0 (Ex.then (D2.g R) (retQ E [.tmp 2] R))) fr h := by
  obtain ⟨a0, l0, c0, e0, g⟩ := gSlice_elim g
  obtain ⟨x3, e3, g⟩ := gInt_elim g
  obtain ⟨n, g⟩ := g
  refine loop_ok (fun n => L3.g (L3.t R n)) (b := (cAt C [true, true, false, false, false])) (by kernel_rfl) (fun fr h g => ?_) (fun n => D4.ok R (L3.t R n)) n fr h (gSlice_intro e0 (gInt_intro e3 (g)))
  obtain ⟨a0, l0, c0, e0, g⟩ := gSlice_elim g
  obtain ⟨x3, e3, g⟩ := gInt_elim g
  exact g
theorem B5.ok (R : Rt) (fr : Fr) (h : Hp) (g : L3.g (fun a0 l0 c0 x3 h => ∃ n, L3.t R n a0 l0 c0 x3 h) fr h) : den prog E (cAt C [true, true, false]) (Ex.then (D2.g R) (retQ E [.tmp 2] R)) fr h :=
  den_block (by kernel_rfl) (L3.ok R fr h g)
theorem W6.ok (R : Rt) (fr : Fr) (h : Hp) (g : L3.g (fun a0 l0 c0 x3 h => ∃ n, L3.t R n a0 l0 c0 x3 h) fr h) : den prog E (cAt C [true, true]) (retQ E [.tmp 2] R) fr h :=
  den_then (by kernel_rfl) (D2.ok R) (B5.ok R fr h g)
def D1.t (R : Rt) (a0 : Option Addr) (l0 : Nat) (c0 : Nat) (h : Hp) : Prop :=
  (∃ n, L3.t R n a0 l0 c0 (((l0 : Nat) : Int)) h)
def D1.g (R : Rt) (fr : Fr) (h : Hp) : Prop := gSlice (fr 0) fun a0 l0 c0 => D1.t R a0 l0 c0 h
theorem D1.ok (R : Rt) (fr : Fr) (h : Hp) (g : D1.g R fr h) : den prog E C (retQ E [.tmp 2] R) fr h := by
  obtain ⟨a0, l0, c0, e0, g⟩ := gSlice_elim g
  exact den_cut 2 (r := (cAt C [true, true])) (by kernel_rfl) (W6.ok R) (den_enter [(0, .slice a0 l0 c0)] ⟨e0, trivial⟩ (by kernel_rfl) g)
def t (a0 : Option Addr) (l0 : Nat) (c0 : Nat) (h : Hp) (R : Rt) : Prop := D1.t R a0 l0 c0 h
theorem ok {a0 : Option Addr} {l0 : Nat} {c0 : Nat} {h : Hp} {R : Rt} (g : t a0 l0 c0 h R) : HC id #[.slice a0 l0 c0] h R :=
  calls_of_den' envOk (c := C) (rs := [.tmp 2]) Try.func51 (by kernel_rfl) (by kernel_rfl) (by kernel_rfl) (args := [.slice a0 l0 c0]) (by kernel_rfl) (D1.ok R _ h (gSlice_intro rfl (g)))
end nat_trim

namespace nat_Shr
noncomputable def C : Code := bodyOf Try.f52
def D2.t (R : Rt) (a8 : Option Addr) (l8 : Nat) (c8 : Nat) (h : Hp) : Prop :=
  HC nat_told.id #[.slice a8 l8 c8] h fun v9 h10 =>
  gTup v9 fun y11 =>
  uncons y11 fun v12 y12 =>
  gSlice v12 fun a_13 l_13 c_13 =>
  uncons y12 fun v14 y14 =>
  gInt .i64 v14 fun x_15 =>
  unnil y14 <| R (.tuple #[.slice a_13 l_13 c_13, .int .i64 x_15]) h10
def D2.g (R : Rt) (fr : Fr) (h : Hp) : Prop := gSlice (fr 8) fun a8 l8 c8 => D2.t R a8 l8 c8 h
theorem D2.ok (R : Rt) (fr : Fr) (h : Hp) (g : D2.g R fr h) : den prog E (cAt C [true, true, true, true, true, true, true]) (retQ E [.tmp 4, .tmp 5] R) fr h := by
  obtain ⟨a8, l8, c8, e8, g⟩ := gSlice_elim g
  exact den_enter [(8, .slice a8 l8 c8)] ⟨e8, trivial⟩ (by kernel_rfl) g
def L4.g (N : Option Addr → Nat → Nat → Int → Int → Option Addr → Nat → Nat → Int → Int → Hp → Prop) (fr : Fr) (h : Hp) : Prop := gSlice (fr 0) fun a0 l0 c0 => gInt .i64 (fr 6) fun x6 => gInt .i64 (fr 7) fun x7 => gSlice (fr 8) fun a8 l8 c8 => gInt .i64 (fr 29) fun x29 => gInt .i64 (fr 30) fun x30 => N a0 l0 c0 x6 x7 a8 l8 c8 x29 x30 h
def D5.t (R : Rt) (N4 : Option Addr → Nat → Nat → Int → Int → Option Addr → Nat → Nat → Int → Int → Hp → Prop) (a0 : Option Addr) (l0 : Nat) (c0 : Nat) (x6 : Int) (x7 : Int) (a8 : Option Addr) (l8 : Nat) (c8 : Nat) (x29 : Int) (x30 : Int) (h : Hp) : Prop :=
  cond (decide (x30 < x29)) (letK (IntKind.i64.wrap (x6 + x30)) fun n16 =>
  idxK a0 l0 n16 1 fun q17 =>
  ldK h q17 fun v18 =>
  gInt .u64 v18 fun x_19 =>
  0 ≤ x7 ∧ letK (shrI .u64 x_19 x7) fun n20 =>
  idxK a8 l8 x30 1 fun q21 =>
  stK h q21 (.int .u64 n20) fun h22 =>
  letK (IntKind.i64.wrap (x6 + x30)) fun n23 =>
  letK (IntKind.i64.wrap (n23 + 1)) fun n24 =>
  cond (decide (n24 < (((l0 : Nat) : Int)))) (idxK a8 l8 x30 1 fun q25 =>
  ldK h22 q25 fun v26 =>
  gInt .u64 v26 fun x_27 =>
  letK (IntKind.i64.wrap (x6 + x30)) fun n28 =>
  letK (IntKind.i64.wrap (n28 + 1)) fun n29 =>
  idxK a0 l0 n29 1 fun q30 =>
  ldK h22 q30 fun v31 =>
  gInt .u64 v31 fun x_32 =>
  0 ≤ (1 : Int) ∧ letK (shlI .u64 x_32 1) fun n33 =>
  letK (IntKind.i64.wrap (63 - x7)) fun n34 =>
  0 ≤ n34 ∧ letK (shlI .u64 n33 n34) fun n35 =>
  letK (orI .u64 x_27 n35) fun n36 =>
  idxK a8 l8 x30 1 fun q37 =>
  stK h22 q37 (.int .u64 n36) fun h38 =>
  letK (IntKind.i64.wrap (x30 + 1)) fun n39 =>
  N4 a0 l0 c0 x6 x7 a8 l8 c8 x29 n39 h38) (letK (IntKind.i64.wrap (x30 + 1)) fun n40 =>
  N4 a0 l0 c0 x6 x7 a8 l8 c8 x29 n40 h22)) (D2.t R a8 l8 c8 h)
def D5.g (R : Rt) (N4 : Option Addr → Nat → Nat → Int → Int → Option Addr → Nat → Nat → Int → Int → Hp → Prop) (fr : Fr) (h : Hp) : Prop := gSlice (fr 0) fun a0 l0 c0 => gInt .i64 (fr 6) fun x6 => gInt .i64 (fr 7) fun x7 => gSlice (fr 8) fun a8 l8 c8 => gInt .i64 (fr 29) fun x29 => gInt .i64 (fr 30) fun x30 => D5.t R N4 a0 l0 c0 x6 x7 a8 l8 c8 x29 x30 h
theorem D5.ok (R : Rt) (N4 : Option Addr → Nat → Nat → Int → Int → Option Addr → Nat → Nat → Int → Int → Hp → Prop) (fr : Fr) (h : Hp) (g : D5.g R N4 fr h) : den prog E (cAt C [true, true, true, true, true, true, false, true, false, false]) (Ex.then (L4.g N4) (Ex.inBlock 0 (Ex.then (D2.g R) (retQ E [.tmp 4, .tmp 5] R)))) fr h := by
  obtain ⟨a0, l0, c0, e0, g⟩ := gSlice_elim g
  obtain ⟨x6, e6, g⟩ := gInt_elim g
  obtain ⟨x7, e7, g⟩ := gInt_elim g
  obtain ⟨a8, l8, c8, e8, g⟩ := gSlice_elim g
  obtain ⟨x29, e29, g⟩ := gInt_elim g
  obtain ⟨x30, e30, g⟩ := gInt_elim g
  exact den_enter [(0, .slice a0 l0 c0), (6, .int .i64 x6), (7, .int .i64 x7), (8, .slice a8 l8 c8), (29, .int .i64 x29), (30, .int .i64 x30)] ⟨e0, e6, e7, e8, e29, e30, trivial⟩ (by kernel_rfl) g
def L4.t (R : Rt) : Nat → Option Addr → Nat → Nat → Int → Int → Option Addr → Nat → Nat → Int → Int → Hp → Prop
  | 0 => fun _ _ _ _ _ _ _ _ _ _ _ => False
  | n + 1 => fun a0 l0 c0 x6 x7 a8 l8 c8 x29 x30 h => D5.t R (L4.t R n) a0 l0 c0 x6 x7 a8 l8 c8 x29 x30 h
theorem L4.ok (R : Rt) (fr : Fr) (h : Hp) (g : L4.g (fun a0 l0 c0 x6 x7 a8 l8 c8 x29 x30 h => ∃ n, L4.t R n a0 l0 c0 x6 x7 a8 l8 c8 x29 x30 h) fr h) : den prog E (cAt C [true, true, true, true, true, true, false, true, false]) (Ex.inBlock 0 (Ex.then (D2.g R) (retQ E [.tmp 4, .tmp 5] R))) fr h := by
  obtain ⟨a0, l0, c0, e0, g⟩ := gSlice_elim g
  obtain ⟨x6, e6, g⟩ := gInt_elim g
  obtain ⟨x7, e7, g⟩ := gInt_elim g
  obtain ⟨a8, l8, c8, e8, g⟩ := gSlice_elim g
  obtain ⟨x29, e29, g⟩ := gInt_elim g
  obtain ⟨x30, e30, g⟩ := gInt_elim g
  obtain ⟨n, g⟩ := g
  refine loop_ok (fun n => L4.g (L4.t R n)) (b := (cAt C [true, true, true, true, true, true, false, true, false, false])) (by kernel_rfl) (fun fr h g => ?_) (fun n => D5.ok R (L4.t R n)) n fr h (gSlice_intro e0 (gInt_intro e6 (gInt_intro e7 (gSlice_intro e8 (gInt_intro e29 (gInt_intro e30 (g)))))))
  obtain ⟨a0, l0, c0, e0, g⟩ := gSlice_elim g
  obtain ⟨x6, e6, g⟩ := gInt_elim g
  obtain ⟨x7, e7, g⟩ := gInt_elim g
  obtain ⟨a8, l8, c8, e8, g⟩ := gSlice_elim g
  obtain ⟨x29, e29, g⟩ := gInt_elim g
  obtain ⟨x30, e30, g⟩ := gInt_elim g
  exact g
theorem B6.ok (R : Rt) (fr : Fr) (h : Hp) (g : L4.g (fun a0 l0 c0 x6 x7 a8 l8 c8 x29 x30 h => ∃ n, L4.t R n a0 l0 c0 x6 x7 a8 l8 c8 x29 x30 h) fr h) : den prog E (cAt C [true, true, true, true, true, true, false, true]) (Ex.then (D2.g R) (retQ E [.tmp 4, .tmp 5] R)) fr h :=
  den_block (by kernel_rfl) (L4.ok R fr h g)
def D3.t (R : Rt) (a0 : Option Addr) (l0 : Nat) (c0 : Nat) (x6 : Int) (x7 : Int) (a8 : Option Addr) (l8 : Nat) (c8 : Nat) (h : Hp) : Prop :=
  (∃ n, L4.t R n a0 l0 c0 x6 x7 a8 l8 c8 (((l8 : Nat) : Int)) 0 h)
def D3.g (R : Rt) (fr : Fr) (h : Hp) : Prop := gSlice (fr 0) fun a0 l0 c0 => gInt .i64 (fr 6) fun x6 => gInt .i64 (fr 7) fun x7 => gSlice (fr 8) fun a8 l8 c8 => D3.t R a0 l0 c0 x6 x7 a8 l8 c8 h
theorem D3.ok (R : Rt) (fr : Fr) (h : Hp) (g : D3.g R fr h) : den prog E (cAt C [true, true, true, true, true, true, false]) (Ex.then (D2.g R) (retQ E [.tmp 4, .tmp 5] R)) fr h := by
  obtain ⟨a0, l0, c0, e0, g⟩ := gSlice_elim g
  obtain ⟨x6, e6, g⟩ := gInt_elim g
  obtain ⟨x7, e7, g⟩ := gInt_elim g
  obtain ⟨a8, l8, c8, e8, g⟩ := gSlice_elim g
  exact den_cut 1 (r := (cAt C [true, true, true, true, true, true, false, true])) (by kernel_rfl) (B6.ok R) (den_enter [(0, .slice a0 l0 c0), (6, .int .i64 x6), (7, .int .i64 x7), (8, .slice a8 l8 c8)] ⟨e0, e6, e7, e8, trivial⟩ (by kernel_rfl) g)
theorem W7.ok (R : Rt) (fr : Fr) (h : Hp) (g : D3.g R fr h) : den prog E (cAt C [true, true, true, true, true, true]) (retQ E [.tmp 4, .tmp 5] R) fr h :=
  den_then (by kernel_rfl) (D2.ok R) (D3.ok R fr h g)
def D1.t (R : Rt) (a0 : Option Addr) (l0 : Nat) (c0 : Nat) (x1 : Int) (h : Hp) : Prop :=
  cond (decide (x1 < 0)) (R (.tuple #[.slice none 0 0, .int .i64 1]) h) (HC nat_Form.id #[.slice a0 l0 c0] h fun v1 h2 =>
  gBool v1 fun b_3 =>
  cond (!b_3) (R (.tuple #[.slice none 0 0, .int .i64 2]) h2) ((64 : Int) ≠ 0 ∧ letK (IntKind.i64.wrap (Int.tdiv x1 64)) fun n4 =>
  (64 : Int) ≠ 0 ∧ letK (Int.tmod x1 64) fun n5 =>
  cond (decide (n4 ≥ (((l0 : Nat) : Int)))) (R (.tuple #[.slice none 0 0, .int .i64 0]) h2) (letK (IntKind.i64.wrap ((((l0 : Nat) : Int)) - n4)) fun n6 =>
  mkK h2 45 T45 n6 n6 fun q7 h8 =>
  D3.t R a0 l0 c0 n4 n5 (some q7) n6.toNat n6.toNat h8)))
def D1.g (R : Rt) (fr : Fr) (h : Hp) : Prop := gSlice (fr 0) fun a0 l0 c0 => gInt .i64 (fr 1) fun x1 => D1.t R a0 l0 c0 x1 h
theorem D1.ok (R : Rt) (fr : Fr) (h : Hp) (g : D1.g R fr h) : den prog E C (retQ E [.tmp 4, .tmp 5] R) fr h := by
  obtain ⟨a0, l0, c0, e0, g⟩ := gSlice_elim g
  obtain ⟨x1, e1, g⟩ := gInt_elim g
  exact den_cut 6 (r := (cAt C [true, true, true, true, true, true])) (by kernel_rfl) (W7.ok R) (den_enter [(0, .slice a0 l0 c0), (1, .int .i64 x1)] ⟨e0, e1, trivial⟩ (by kernel_rfl) g)
def t (a0 : Option Addr) (l0 : Nat) (c0 : Nat) (x1 : Int) (h : Hp) (R : Rt) : Prop := D1.t R a0 l0 c0 x1 h
theorem ok {a0 : Option Addr} {l0 : Nat} {c0 : Nat} {x1 : Int} {h : Hp} {R : Rt} (g : t a0 l0 c0 x1 h R) : HC id #[.slice a0 l0 c0, .int .i64 x1] h R :=
  calls_of_den' envOk (c := C) (rs := [.tmp 4, .tmp 5]) Try.func52 (by kernel_rfl) (by kernel_rfl) (by kernel_rfl) (args := [.slice a0 l0 c0, .int .i64 x1]) (by kernel_rfl) (D1.ok R _ h (gSlice_intro rfl (gInt_intro rfl (g))))
end nat_Shr

namespace piconst_FloorPi
noncomputable def C : Code := bodyOf Try.f53
def L3.g (N : Int → Int → Hp → Prop) (fr : Fr) (h : Hp) : Prop := gInt .i64 (fr 0) fun x0 => gInt .i64 (fr 4) fun x4 => N x0 x4 h
def D4.t (R : Rt) (N3 : Int → Int → Hp → Prop) (x0 : Int) (x4 : Int) (h : Hp) : Prop :=
  letK (IntKind.i64.wrap (x0 + x4)) fun n1 =>
  HC piconst_machin.id #[.int .i64 n1] h fun v2 h3 =>
  gTup v2 fun y4 =>
  uncons y4 fun v5 y5 =>
  gSlice v5 fun a_6 l_6 c_6 =>
  uncons y5 fun v7 y7 =>
  gSlice v7 fun a_8 l_8 c_8 =>
  unnil y7 <| HC nat_Shr.id #[.slice a_6 l_6 c_6, .int .i64 x4] h3 fun v9 h10 =>
  gTup v9 fun y11 =>
  uncons y11 fun v12 y12 =>
  gSlice v12 fun a_13 l_13 c_13 =>
  uncons y12 fun v14 y14 =>
  gInt .i64 v14 fun x_15 =>
  unnil y14 <| HC nat_Shr.id #[.slice a_8 l_8 c_8, .int .i64 x4] h10 fun v16 h17 =>
  gTup v16 fun y18 =>
  uncons y18 fun v19 y19 =>
  gSlice v19 fun a_20 l_20 c_20 =>
  uncons y19 fun v21 y21 =>
  gInt .i64 v21 fun x_22 =>
  unnil y21 <| HC nat_Cmp.id #[.slice a_13 l_13 c_13, .slice a_20 l_20 c_20] h17 fun v23 h24 =>
  gInt .i64 v23 fun x_25 =>
  cond (x_25 == 0) (R (.tuple #[.slice a_13 l_13 c_13, .int .i64 0]) h24) (letK (IntKind.i64.wrap (x4 * 2)) fun n26 =>
  N3 x0 n26 h24)
def D4.g (R : Rt) (N3 : Int → Int → Hp → Prop) (fr : Fr) (h : Hp) : Prop := gInt .i64 (fr 0) fun x0 => gInt .i64 (fr 4) fun x4 => D4.t R N3 x0 x4 h
theorem D4.ok (R : Rt) (N3 : Int → Int → Hp → Prop) (fr : Fr) (h : Hp) (g : D4.g R N3 fr h) : den prog E (cAt C [true, true, true, false, false]) (Ex.then (L3.g N3) (Ex.inBlock 0 (retQ E [.tmp 2, .tmp 3] R))) fr h := by
  obtain ⟨x0, e0, g⟩ := gInt_elim g
  obtain ⟨x4, e4, g⟩ := gInt_elim g
  exact den_enter [(0, .int .i64 x0), (4, .int .i64 x4)] ⟨e0, e4, trivial⟩ (by kernel_rfl) g
def L3.t (R : Rt) : Nat → Int → Int → Hp → Prop
  | 0 => fun _ _ _ => False
  | n + 1 => fun x0 x4 h => D4.t R (L3.t R n) x0 x4 h
theorem L3.ok (R : Rt) (fr : Fr) (h : Hp) (g : L3.g (fun x0 x4 h => ∃ n, L3.t R n x0 x4 h) fr h) : den prog E (cAt C [true, true, true, false]) (Ex.inBlock 0 (retQ E [.tmp 2, .tmp 3] R)) fr h := by
  obtain ⟨x0, e0, g⟩ := gInt_elim g
  obtain ⟨x4, e4, g⟩ := gInt_elim g
  obtain ⟨n, g⟩ := g
  refine loop_ok (fun n => L3.g (L3.t R n)) (b := (cAt C [true, true, true, false, false])) (by kernel_rfl) (fun fr h g => ?_) (fun n => D4.ok R (L3.t R n)) n fr h (gInt_intro e0 (gInt_intro e4 (g)))
  obtain ⟨x0, e0, g⟩ := gInt_elim g
  obtain ⟨x4, e4, g⟩ := gInt_elim g
  exact g
theorem B5.ok (R : Rt) (fr : Fr) (h : Hp) (g : L3.g (fun x0 x4 h => ∃ n, L3.t R n x0 x4 h) fr h) : den prog E (cAt C [true, true, true]) (retQ E [.tmp 2, .tmp 3] R) fr h :=
  den_block (by kernel_rfl) (L3.ok R fr h g)
def D2.t (R : Rt) (x0 : Int) (h : Hp) : Prop :=
  (∃ n, L3.t R n x0 48 h)
def D2.g (R : Rt) (fr : Fr) (h : Hp) : Prop := gInt .i64 (fr 0) fun x0 => D2.t R x0 h
theorem D2.ok (R : Rt) (fr : Fr) (h : Hp) (g : D2.g R fr h) : den prog E (cAt C [true, true]) (retQ E [.tmp 2, .tmp 3] R) fr h := by
  obtain ⟨x0, e0, g⟩ := gInt_elim g
  exact den_cut 1 (r := (cAt C [true, true, true])) (by kernel_rfl) (B5.ok R) (den_enter [(0, .int .i64 x0)] ⟨e0, trivial⟩ (by kernel_rfl) g)
def D1.t (R : Rt) (x0 : Int) (h : Hp) : Prop :=
  cond (decide (x0 < 1)) (R (.tuple #[.slice none 0 0, .int .i64 1]) h) (cond (decide (x0 > 70000)) (R (.tuple #[.slice none 0 0, .int .i64 1]) h) (D2.t R x0 h))
def D1.g (R : Rt) (fr : Fr) (h : Hp) : Prop := gInt .i64 (fr 0) fun x0 => D1.t R x0 h
theorem D1.ok (R : Rt) (fr : Fr) (h : Hp) (g : D1.g R fr h) : den prog E C (retQ E [.tmp 2, .tmp 3] R) fr h := by
  obtain ⟨x0, e0, g⟩ := gInt_elim g
  exact den_cut 2 (r := (cAt C [true, true])) (by kernel_rfl) (D2.ok R) (den_enter [(0, .int .i64 x0)] ⟨e0, trivial⟩ (by kernel_rfl) g)
def t (x0 : Int) (h : Hp) (R : Rt) : Prop := D1.t R x0 h
theorem ok {x0 : Int} {h : Hp} {R : Rt} (g : t x0 h R) : HC id #[.int .i64 x0] h R :=
  calls_of_den' envOk (c := C) (rs := [.tmp 2, .tmp 3]) Try.func53 (by kernel_rfl) (by kernel_rfl) (by kernel_rfl) (args := [.int .i64 x0]) (by kernel_rfl) (D1.ok R _ h (gInt_intro rfl (g)))
end piconst_FloorPi

namespace natmul_Mul
noncomputable def C : Code := bodyOf Try.f54
def D2.t (R : Rt) (a0 : Option Addr) (l0 : Nat) (c0 : Nat) (a1 : Option Addr) (l1 : Nat) (c1 : Nat) (h : Hp) : Prop :=
  HC natmul_product.id #[.slice a0 l0 c0, .slice a1 l1 c1] h fun v7 h8 =>
  gSlice v7 fun a_9 l_9 c_9 =>
  HC natmul_told.id #[.slice a_9 l_9 c_9] h8 fun v10 h11 =>
  gTup v10 fun y12 =>
  uncons y12 fun v13 y13 =>
  gSlice v13 fun a_14 l_14 c_14 =>
  uncons y13 fun v15 y15 =>
  gInt .i64 v15 fun x_16 =>
  unnil y15 <| R (.tuple #[.slice a_14 l_14 c_14, .int .i64 x_16]) h11
def D2.g (R : Rt) (fr : Fr) (h : Hp) : Prop := gSlice (fr 0) fun a0 l0 c0 => gSlice (fr 1) fun a1 l1 c1 => D2.t R a0 l0 c0 a1 l1 c1 h
theorem D2.ok (R : Rt) (fr : Fr) (h : Hp) (g : D2.g R fr h) : den prog E (cAt C [true, true]) (retQ E [.tmp 4, .tmp 5] R) fr h := by
  obtain ⟨a0, l0, c0, e0, g⟩ := gSlice_elim g
  obtain ⟨a1, l1, c1, e1, g⟩ := gSlice_elim g
  exact den_enter [(0, .slice a0 l0 c0), (1, .slice a1 l1 c1)] ⟨e0, e1, trivial⟩ (by kernel_rfl) g
def D1.t (R : Rt) (a0 : Option Addr) (l0 : Nat) (c0 : Nat) (a1 : Option Addr) (l1 : Nat) (c1 : Nat) (h : Hp) : Prop :=
  HC nat_Form.id #[.slice a0 l0 c0] h fun v1 h2 =>
  gBool v1 fun b_3 =>
  cond (!b_3) (R (.tuple #[.slice none 0 0, .int .i64 2]) h2) (HC nat_Form.id #[.slice a1 l1 c1] h2 fun v4 h5 =>
  gBool v4 fun b_6 =>
  cond (!b_6) (R (.tuple #[.slice none 0 0, .int .i64 2]) h5) (D2.t R a0 l0 c0 a1 l1 c1 h5))
def D1.g (R : Rt) (fr : Fr) (h : Hp) : Prop := gSlice (fr 0) fun a0 l0 c0 => gSlice (fr 1) fun a1 l1 c1 => D1.t R a0 l0 c0 a1 l1 c1 h
theorem D1.ok (R : Rt) (fr : Fr) (h : Hp) (g : D1.g R fr h) : den prog E C (retQ E [.tmp 4, .tmp 5] R) fr h := by
  obtain ⟨a0, l0, c0, e0, g⟩ := gSlice_elim g
  obtain ⟨a1, l1, c1, e1, g⟩ := gSlice_elim g
  exact den_cut 2 (r := (cAt C [true, true])) (by kernel_rfl) (D2.ok R) (den_enter [(0, .slice a0 l0 c0), (1, .slice a1 l1 c1)] ⟨e0, e1, trivial⟩ (by kernel_rfl) g)
def t (a0 : Option Addr) (l0 : Nat) (c0 : Nat) (a1 : Option Addr) (l1 : Nat) (c1 : Nat) (h : Hp) (R : Rt) : Prop := D1.t R a0 l0 c0 a1 l1 c1 h
theorem ok {a0 : Option Addr} {l0 : Nat} {c0 : Nat} {a1 : Option Addr} {l1 : Nat} {c1 : Nat} {h : Hp} {R : Rt} (g : t a0 l0 c0 a1 l1 c1 h R) : HC id #[.slice a0 l0 c0, .slice a1 l1 c1] h R :=
  calls_of_den' envOk (c := C) (rs := [.tmp 4, .tmp 5]) Try.func54 (by kernel_rfl) (by kernel_rfl) (by kernel_rfl) (args := [.slice a0 l0 c0, .slice a1 l1 c1]) (by kernel_rfl) (D1.ok R _ h (gSlice_intro rfl (gSlice_intro rfl (g))))
end natmul_Mul

end Go.Proofs.Ytjijdlkpmngolaa.G
