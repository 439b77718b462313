/- Texts of this work, joined: Fp0. -/
import Derived.Test.YtdpkfipkjdlmlaaKE
/- Functions of the translation as predicates over heaps, and that their calls do so. Written by a program of this work. -/
namespace Go.Proofs.Ytdpkfipkjdlmlaa.G
open Go.Gv
set_option linter.unusedVariables false
set_option maxRecDepth 100000




namespace gnomonlaw03_NatdivMemory
noncomputable def C : Code := bodyOf Try.f10
def D7.t (R : Rt) (a5 : Option Addr) (l5 : Nat) (c5 : Nat) (a7 : Option Addr) (l7 : Nat) (c7 : Nat) (a9 : Option Addr) (l9 : Nat) (c9 : Nat) (a10 : Option Addr) (l10 : Nat) (c10 : Nat) (a12 : Option Addr) (l12 : Nat) (c12 : Nat) (a13 : Option Addr) (l13 : Nat) (c13 : Nat) (a15 : Option Addr) (l15 : Nat) (c15 : Nat) (a16 : Option Addr) (l16 : Nat) (c16 : Nat) (a18 : Option Addr) (l18 : Nat) (c18 : Nat) (a19 : Option Addr) (l19 : Nat) (c19 : Nat) (a27 : Option Addr) (l27 : Nat) (c27 : Nat) (a28 : Option Addr) (l28 : Nat) (c28 : Nat) (a30 : Option Addr) (l30 : Nat) (c30 : Nat) (a31 : Option Addr) (l31 : Nat) (c31 : Nat) (h : Hp) : Prop :=
  boxK h 22 [.slice a9 l9 c9, .slice a10 l10 c10, .slice a12 l12 c12, .slice a13 l13 c13, .slice a15 l15 c15, .slice a16 l16 c16, .slice a18 l18 c18, .slice a19 l19 c19, .slice a27 l27 c27, .slice a28 l28 c28, .slice a30 l30 c30, .slice a31 l31 c31, .slice a5 l5 c5, .slice a7 l7 c7] fun q164 h165 =>
  HC gnomonlaw03_apart.id #[.slice (some q164) 14 14] h165 fun v166 h167 =>
  gBool v166 fun b_168 =>
  R (.bool b_168) h167
def D7.g (R : Rt) (fr : Fr) (h : Hp) : Prop := gSlice (fr 5) fun a5 l5 c5 => gSlice (fr 7) fun a7 l7 c7 => gSlice (fr 9) fun a9 l9 c9 => gSlice (fr 10) fun a10 l10 c10 => gSlice (fr 12) fun a12 l12 c12 => gSlice (fr 13) fun a13 l13 c13 => gSlice (fr 15) fun a15 l15 c15 => gSlice (fr 16) fun a16 l16 c16 => gSlice (fr 18) fun a18 l18 c18 => gSlice (fr 19) fun a19 l19 c19 => gSlice (fr 27) fun a27 l27 c27 => gSlice (fr 28) fun a28 l28 c28 => gSlice (fr 30) fun a30 l30 c30 => gSlice (fr 31) fun a31 l31 c31 => D7.t R a5 l5 c5 a7 l7 c7 a9 l9 c9 a10 l10 c10 a12 l12 c12 a13 l13 c13 a15 l15 c15 a16 l16 c16 a18 l18 c18 a19 l19 c19 a27 l27 c27 a28 l28 c28 a30 l30 c30 a31 l31 c31 h
theorem D7.ok (R : Rt) (fr : Fr) (h : Hp) (g : D7.g R fr h) : den prog E (cAt C [true, true, true, true, true, true, true, true, true, true, true, true, true, true, true, true, true, true, true, true, true]) (retQ E [.tmp 4] R) fr h := by
  obtain ⟨a5, l5, c5, e5, g⟩ := gSlice_elim g
  obtain ⟨a7, l7, c7, e7, g⟩ := gSlice_elim g
  obtain ⟨a9, l9, c9, e9, g⟩ := gSlice_elim g
  obtain ⟨a10, l10, c10, e10, g⟩ := gSlice_elim g
  obtain ⟨a12, l12, c12, e12, g⟩ := gSlice_elim g
  obtain ⟨a13, l13, c13, e13, g⟩ := gSlice_elim g
  obtain ⟨a15, l15, c15, e15, g⟩ := gSlice_elim g
  obtain ⟨a16, l16, c16, e16, g⟩ := gSlice_elim g
  obtain ⟨a18, l18, c18, e18, g⟩ := gSlice_elim g
  obtain ⟨a19, l19, c19, e19, g⟩ := gSlice_elim g
  obtain ⟨a27, l27, c27, e27, g⟩ := gSlice_elim g
  obtain ⟨a28, l28, c28, e28, g⟩ := gSlice_elim g
  obtain ⟨a30, l30, c30, e30, g⟩ := gSlice_elim g
  obtain ⟨a31, l31, c31, e31, g⟩ := gSlice_elim g
  exact den_enter [(5, .slice a5 l5 c5), (7, .slice a7 l7 c7), (9, .slice a9 l9 c9), (10, .slice a10 l10 c10), (12, .slice a12 l12 c12), (13, .slice a13 l13 c13), (15, .slice a15 l15 c15), (16, .slice a16 l16 c16), (18, .slice a18 l18 c18), (19, .slice a19 l19 c19), (27, .slice a27 l27 c27), (28, .slice a28 l28 c28), (30, .slice a30 l30 c30), (31, .slice a31 l31 c31)] ⟨e5, e7, e9, e10, e12, e13, e15, e16, e18, e19, e27, e28, e30, e31, trivial⟩ (by kernel_rfl) g
def D6.t (R : Rt) (a5 : Option Addr) (l5 : Nat) (c5 : Nat) (a7 : Option Addr) (l7 : Nat) (c7 : Nat) (a9 : Option Addr) (l9 : Nat) (c9 : Nat) (a10 : Option Addr) (l10 : Nat) (c10 : Nat) (a12 : Option Addr) (l12 : Nat) (c12 : Nat) (a13 : Option Addr) (l13 : Nat) (c13 : Nat) (a15 : Option Addr) (l15 : Nat) (c15 : Nat) (a16 : Option Addr) (l16 : Nat) (c16 : Nat) (a18 : Option Addr) (l18 : Nat) (c18 : Nat) (a19 : Option Addr) (l19 : Nat) (c19 : Nat) (a21 : Option Addr) (l21 : Nat) (c21 : Nat) (a22 : Option Addr) (l22 : Nat) (c22 : Nat) (a23 : Option Addr) (l23 : Nat) (c23 : Nat) (a24 : Option Addr) (l24 : Nat) (c24 : Nat) (a27 : Option Addr) (l27 : Nat) (c27 : Nat) (a28 : Option Addr) (l28 : Nat) (c28 : Nat) (a30 : Option Addr) (l30 : Nat) (c30 : Nat) (a31 : Option Addr) (l31 : Nat) (c31 : Nat) (h : Hp) : Prop :=
  HQC gnomonref01_Same.id #[.slice a9 l9 c9, .slice a21 l21 c21] h fun v148 =>
  gBool v148 fun b_149 =>
  cond (!b_149) (R (.bool false) h) (HQC gnomonref01_Same.id #[.slice a10 l10 c10, .slice a22 l22 c22] h fun v150 =>
  gBool v150 fun b_151 =>
  cond (!b_151) (R (.bool false) h) (HQC gnomonref01_Same.id #[.slice a15 l15 c15, .slice a23 l23 c23] h fun v152 =>
  gBool v152 fun b_153 =>
  cond (!b_153) (R (.bool false) h) (HQC gnomonref01_Same.id #[.slice a16 l16 c16, .slice a24 l24 c24] h fun v154 =>
  gBool v154 fun b_155 =>
  cond (!b_155) (R (.bool false) h) (HQC gnomonref01_Same.id #[.slice a12 l12 c12, .slice a21 l21 c21] h fun v156 =>
  gBool v156 fun b_157 =>
  cond (!b_157) (R (.bool false) h) (HQC gnomonref01_Same.id #[.slice a13 l13 c13, .slice a22 l22 c22] h fun v158 =>
  gBool v158 fun b_159 =>
  cond (!b_159) (R (.bool false) h) (HQC gnomonref01_Same.id #[.slice a18 l18 c18, .slice a23 l23 c23] h fun v160 =>
  gBool v160 fun b_161 =>
  cond (!b_161) (R (.bool false) h) (HQC gnomonref01_Same.id #[.slice a19 l19 c19, .slice a24 l24 c24] h fun v162 =>
  gBool v162 fun b_163 =>
  cond (!b_163) (R (.bool false) h) (D7.t R a5 l5 c5 a7 l7 c7 a9 l9 c9 a10 l10 c10 a12 l12 c12 a13 l13 c13 a15 l15 c15 a16 l16 c16 a18 l18 c18 a19 l19 c19 a27 l27 c27 a28 l28 c28 a30 l30 c30 a31 l31 c31 h))))))))
def D6.g (R : Rt) (fr : Fr) (h : Hp) : Prop := gSlice (fr 5) fun a5 l5 c5 => gSlice (fr 7) fun a7 l7 c7 => gSlice (fr 9) fun a9 l9 c9 => gSlice (fr 10) fun a10 l10 c10 => gSlice (fr 12) fun a12 l12 c12 => gSlice (fr 13) fun a13 l13 c13 => gSlice (fr 15) fun a15 l15 c15 => gSlice (fr 16) fun a16 l16 c16 => gSlice (fr 18) fun a18 l18 c18 => gSlice (fr 19) fun a19 l19 c19 => gSlice (fr 21) fun a21 l21 c21 => gSlice (fr 22) fun a22 l22 c22 => gSlice (fr 23) fun a23 l23 c23 => gSlice (fr 24) fun a24 l24 c24 => gSlice (fr 27) fun a27 l27 c27 => gSlice (fr 28) fun a28 l28 c28 => gSlice (fr 30) fun a30 l30 c30 => gSlice (fr 31) fun a31 l31 c31 => D6.t R a5 l5 c5 a7 l7 c7 a9 l9 c9 a10 l10 c10 a12 l12 c12 a13 l13 c13 a15 l15 c15 a16 l16 c16 a18 l18 c18 a19 l19 c19 a21 l21 c21 a22 l22 c22 a23 l23 c23 a24 l24 c24 a27 l27 c27 a28 l28 c28 a30 l30 c30 a31 l31 c31 h
theorem D6.ok (R : Rt) (fr : Fr) (h : Hp) (g : D6.g R fr h) : den prog E (cAt C [true, true, true, true, true, true, true, true, true, true, true, true, true, true, true, true, true, true, true, true]) (retQ E [.tmp 4] R) fr h := by
  obtain ⟨a5, l5, c5, e5, g⟩ := gSlice_elim g
  obtain ⟨a7, l7, c7, e7, g⟩ := gSlice_elim g
  obtain ⟨a9, l9, c9, e9, g⟩ := gSlice_elim g
  obtain ⟨a10, l10, c10, e10, g⟩ := gSlice_elim g
  obtain ⟨a12, l12, c12, e12, g⟩ := gSlice_elim g
  obtain ⟨a13, l13, c13, e13, g⟩ := gSlice_elim g
  obtain ⟨a15, l15, c15, e15, g⟩ := gSlice_elim g
  obtain ⟨a16, l16, c16, e16, g⟩ := gSlice_elim g
  obtain ⟨a18, l18, c18, e18, g⟩ := gSlice_elim g
  obtain ⟨a19, l19, c19, e19, g⟩ := gSlice_elim g
  obtain ⟨a21, l21, c21, e21, g⟩ := gSlice_elim g
  obtain ⟨a22, l22, c22, e22, g⟩ := gSlice_elim g
  obtain ⟨a23, l23, c23, e23, g⟩ := gSlice_elim g
  obtain ⟨a24, l24, c24, e24, g⟩ := gSlice_elim g
  obtain ⟨a27, l27, c27, e27, g⟩ := gSlice_elim g
  obtain ⟨a28, l28, c28, e28, g⟩ := gSlice_elim g
  obtain ⟨a30, l30, c30, e30, g⟩ := gSlice_elim g
  obtain ⟨a31, l31, c31, e31, g⟩ := gSlice_elim g
  exact den_cut 1 (r := (cAt C [true, true, true, true, true, true, true, true, true, true, true, true, true, true, true, true, true, true, true, true, true])) (by kernel_rfl) (D7.ok R) (den_enter [(5, .slice a5 l5 c5), (7, .slice a7 l7 c7), (9, .slice a9 l9 c9), (10, .slice a10 l10 c10), (12, .slice a12 l12 c12), (13, .slice a13 l13 c13), (15, .slice a15 l15 c15), (16, .slice a16 l16 c16), (18, .slice a18 l18 c18), (19, .slice a19 l19 c19), (21, .slice a21 l21 c21), (22, .slice a22 l22 c22), (23, .slice a23 l23 c23), (24, .slice a24 l24 c24), (27, .slice a27 l27 c27), (28, .slice a28 l28 c28), (30, .slice a30 l30 c30), (31, .slice a31 l31 c31)] ⟨e5, e7, e9, e10, e12, e13, e15, e16, e18, e19, e21, e22, e23, e24, e27, e28, e30, e31, trivial⟩ (by kernel_rfl) g)
def D5.t (R : Rt) (a1 : Option Addr) (l1 : Nat) (c1 : Nat) (a5 : Option Addr) (l5 : Nat) (c5 : Nat) (a7 : Option Addr) (l7 : Nat) (c7 : Nat) (a9 : Option Addr) (l9 : Nat) (c9 : Nat) (a10 : Option Addr) (l10 : Nat) (c10 : Nat) (a12 : Option Addr) (l12 : Nat) (c12 : Nat) (a13 : Option Addr) (l13 : Nat) (c13 : Nat) (a15 : Option Addr) (l15 : Nat) (c15 : Nat) (a16 : Option Addr) (l16 : Nat) (c16 : Nat) (a18 : Option Addr) (l18 : Nat) (c18 : Nat) (a19 : Option Addr) (l19 : Nat) (c19 : Nat) (a21 : Option Addr) (l21 : Nat) (c21 : Nat) (a22 : Option Addr) (l22 : Nat) (c22 : Nat) (a23 : Option Addr) (l23 : Nat) (c23 : Nat) (a24 : Option Addr) (l24 : Nat) (c24 : Nat) (a26 : Option Addr) (l26 : Nat) (c26 : Nat) (a27 : Option Addr) (l27 : Nat) (c27 : Nat) (a28 : Option Addr) (l28 : Nat) (c28 : Nat) (a30 : Option Addr) (l30 : Nat) (c30 : Nat) (a31 : Option Addr) (l31 : Nat) (c31 : Nat) (a33 : Option Addr) (l33 : Nat) (c33 : Nat) (h : Hp) : Prop :=
  HC gnomonref01_From.id #[.slice a27 l27 c27] h fun v112 h113 =>
  gSlice v112 fun a_114 l_114 c_114 =>
  HC gnomonref01_From.id #[.slice a1 l1 c1] h113 fun v115 h116 =>
  gSlice v115 fun a_117 l_117 c_117 =>
  HC gnomonref01_Mul.id #[.slice a_114 l_114 c_114, .slice a_117 l_117 c_117] h116 fun v118 h119 =>
  gSlice v118 fun a_120 l_120 c_120 =>
  HC gnomonref01_From.id #[.slice a28 l28 c28] h119 fun v121 h122 =>
  gSlice v121 fun a_123 l_123 c_123 =>
  HC gnomonref01_Add.id #[.slice a_120 l_120 c_120, .slice a_123 l_123 c_123] h122 fun v124 h125 =>
  gSlice v124 fun a_126 l_126 c_126 =>
  HC gnomonref01_From.id #[.slice a26 l26 c26] h125 fun v127 h128 =>
  gSlice v127 fun a_129 l_129 c_129 =>
  HC gnomonref01_Cmp.id #[.slice a_126 l_126 c_126, .slice a_129 l_129 c_129] h128 fun v130 h131 =>
  gInt .i64 v130 fun x_132 =>
  cond (x_132 != 0) (R (.bool false) h131) (HC gnomonref01_Mul.id #[.slice a33 l33 c33, .slice a33 l33 c33] h131 fun v133 h134 =>
  gSlice v133 fun a_135 l_135 c_135 =>
  HC gnomonref01_From.id #[.slice a31 l31 c31] h134 fun v136 h137 =>
  gSlice v136 fun a_138 l_138 c_138 =>
  HC gnomonref01_Add.id #[.slice a_135 l_135 c_135, .slice a_138 l_138 c_138] h137 fun v139 h140 =>
  gSlice v139 fun a_141 l_141 c_141 =>
  HC gnomonref01_From.id #[.slice a26 l26 c26] h140 fun v142 h143 =>
  gSlice v142 fun a_144 l_144 c_144 =>
  HC gnomonref01_Cmp.id #[.slice a_141 l_141 c_141, .slice a_144 l_144 c_144] h143 fun v145 h146 =>
  gInt .i64 v145 fun x_147 =>
  cond (x_147 != 0) (R (.bool false) h146) (D6.t R a5 l5 c5 a7 l7 c7 a9 l9 c9 a10 l10 c10 a12 l12 c12 a13 l13 c13 a15 l15 c15 a16 l16 c16 a18 l18 c18 a19 l19 c19 a21 l21 c21 a22 l22 c22 a23 l23 c23 a24 l24 c24 a27 l27 c27 a28 l28 c28 a30 l30 c30 a31 l31 c31 h146))
def D5.g (R : Rt) (fr : Fr) (h : Hp) : Prop := gSlice (fr 1) fun a1 l1 c1 => gSlice (fr 5) fun a5 l5 c5 => gSlice (fr 7) fun a7 l7 c7 => gSlice (fr 9) fun a9 l9 c9 => gSlice (fr 10) fun a10 l10 c10 => gSlice (fr 12) fun a12 l12 c12 => gSlice (fr 13) fun a13 l13 c13 => gSlice (fr 15) fun a15 l15 c15 => gSlice (fr 16) fun a16 l16 c16 => gSlice (fr 18) fun a18 l18 c18 => gSlice (fr 19) fun a19 l19 c19 => gSlice (fr 21) fun a21 l21 c21 => gSlice (fr 22) fun a22 l22 c22 => gSlice (fr 23) fun a23 l23 c23 => gSlice (fr 24) fun a24 l24 c24 => gSlice (fr 26) fun a26 l26 c26 => gSlice (fr 27) fun a27 l27 c27 => gSlice (fr 28) fun a28 l28 c28 => gSlice (fr 30) fun a30 l30 c30 => gSlice (fr 31) fun a31 l31 c31 => gSlice (fr 33) fun a33 l33 c33 => D5.t R a1 l1 c1 a5 l5 c5 a7 l7 c7 a9 l9 c9 a10 l10 c10 a12 l12 c12 a13 l13 c13 a15 l15 c15 a16 l16 c16 a18 l18 c18 a19 l19 c19 a21 l21 c21 a22 l22 c22 a23 l23 c23 a24 l24 c24 a26 l26 c26 a27 l27 c27 a28 l28 c28 a30 l30 c30 a31 l31 c31 a33 l33 c33 h
theorem D5.ok (R : Rt) (fr : Fr) (h : Hp) (g : D5.g R fr h) : den prog E (cAt C [true, true, true, true, true, true, true, true, true, true, true, true, true, true, true, true, true, true, true]) (retQ E [.tmp 4] R) fr h := by
  obtain ⟨a1, l1, c1, e1, g⟩ := gSlice_elim g
  obtain ⟨a5, l5, c5, e5, g⟩ := gSlice_elim g
  obtain ⟨a7, l7, c7, e7, g⟩ := gSlice_elim g
  obtain ⟨a9, l9, c9, e9, g⟩ := gSlice_elim g
  obtain ⟨a10, l10, c10, e10, g⟩ := gSlice_elim g
  obtain ⟨a12, l12, c12, e12, g⟩ := gSlice_elim g
  obtain ⟨a13, l13, c13, e13, g⟩ := gSlice_elim g
  obtain ⟨a15, l15, c15, e15, g⟩ := gSlice_elim g
  obtain ⟨a16, l16, c16, e16, g⟩ := gSlice_elim g
  obtain ⟨a18, l18, c18, e18, g⟩ := gSlice_elim g
  obtain ⟨a19, l19, c19, e19, g⟩ := gSlice_elim g
  obtain ⟨a21, l21, c21, e21, g⟩ := gSlice_elim g
  obtain ⟨a22, l22, c22, e22, g⟩ := gSlice_elim g
  obtain ⟨a23, l23, c23, e23, g⟩ := gSlice_elim g
  obtain ⟨a24, l24, c24, e24, g⟩ := gSlice_elim g
  obtain ⟨a26, l26, c26, e26, g⟩ := gSlice_elim g
  obtain ⟨a27, l27, c27, e27, g⟩ := gSlice_elim g
  obtain ⟨a28, l28, c28, e28, g⟩ := gSlice_elim g
  obtain ⟨a30, l30, c30, e30, g⟩ := gSlice_elim g
  obtain ⟨a31, l31, c31, e31, g⟩ := gSlice_elim g
  obtain ⟨a33, l33, c33, e33, g⟩ := gSlice_elim g
  exact den_cut 1 (r := (cAt C [true, true, true, true, true, true, true, true, true, true, true, true, true, true, true, true, true, true, true, true])) (by kernel_rfl) (D6.ok R) (den_enter [(1, .slice a1 l1 c1), (5, .slice a5 l5 c5), (7, .slice a7 l7 c7), (9, .slice a9 l9 c9), (10, .slice a10 l10 c10), (12, .slice a12 l12 c12), (13, .slice a13 l13 c13), (15, .slice a15 l15 c15), (16, .slice a16 l16 c16), (18, .slice a18 l18 c18), (19, .slice a19 l19 c19), (21, .slice a21 l21 c21), (22, .slice a22 l22 c22), (23, .slice a23 l23 c23), (24, .slice a24 l24 c24), (26, .slice a26 l26 c26), (27, .slice a27 l27 c27), (28, .slice a28 l28 c28), (30, .slice a30 l30 c30), (31, .slice a31 l31 c31), (33, .slice a33 l33 c33)] ⟨e1, e5, e7, e9, e10, e12, e13, e15, e16, e18, e19, e21, e22, e23, e24, e26, e27, e28, e30, e31, e33, trivial⟩ (by kernel_rfl) g)
def D4.t (R : Rt) (a1 : Option Addr) (l1 : Nat) (c1 : Nat) (a5 : Option Addr) (l5 : Nat) (c5 : Nat) (a7 : Option Addr) (l7 : Nat) (c7 : Nat) (a9 : Option Addr) (l9 : Nat) (c9 : Nat) (a10 : Option Addr) (l10 : Nat) (c10 : Nat) (a12 : Option Addr) (l12 : Nat) (c12 : Nat) (a13 : Option Addr) (l13 : Nat) (c13 : Nat) (a15 : Option Addr) (l15 : Nat) (c15 : Nat) (a16 : Option Addr) (l16 : Nat) (c16 : Nat) (a18 : Option Addr) (l18 : Nat) (c18 : Nat) (a19 : Option Addr) (l19 : Nat) (c19 : Nat) (a21 : Option Addr) (l21 : Nat) (c21 : Nat) (a22 : Option Addr) (l22 : Nat) (c22 : Nat) (a23 : Option Addr) (l23 : Nat) (c23 : Nat) (a24 : Option Addr) (l24 : Nat) (c24 : Nat) (h : Hp) : Prop :=
  HC gnomonlaw03_twin.id #[.slice a5 l5 c5] h fun v86 h87 =>
  gSlice v86 fun a_88 l_88 c_88 =>
  HC natdiv_QuoRem.id #[.slice a5 l5 c5, .slice a7 l7 c7] h87 fun v89 h90 =>
  gTup v89 fun y91 =>
  uncons y91 fun v92 y92 =>
  gSlice v92 fun a_93 l_93 c_93 =>
  uncons y92 fun v94 y94 =>
  gSlice v94 fun a_95 l_95 c_95 =>
  uncons y94 fun v96 y96 =>
  gInt .i64 v96 fun x_97 =>
  unnil y96 <| HC natdiv_Root.id #[.slice a5 l5 c5] h90 fun v98 h99 =>
  gTup v98 fun y100 =>
  uncons y100 fun v101 y101 =>
  gSlice v101 fun a_102 l_102 c_102 =>
  uncons y101 fun v103 y103 =>
  gSlice v103 fun a_104 l_104 c_104 =>
  uncons y103 fun v105 y105 =>
  gInt .i64 v105 fun x_106 =>
  unnil y105 <| HC gnomonref01_From.id #[.slice a_102 l_102 c_102] h99 fun v107 h108 =>
  gSlice v107 fun a_109 l_109 c_109 =>
  cond (x_97 != 0) (R (.bool false) h108) (cond (x_106 != 0) (R (.bool false) h108) (HQC gnomonref01_Same.id #[.slice a5 l5 c5, .slice a_88 l_88 c_88] h108 fun v110 =>
  gBool v110 fun b_111 =>
  cond (!b_111) (R (.bool false) h108) (D5.t R a1 l1 c1 a5 l5 c5 a7 l7 c7 a9 l9 c9 a10 l10 c10 a12 l12 c12 a13 l13 c13 a15 l15 c15 a16 l16 c16 a18 l18 c18 a19 l19 c19 a21 l21 c21 a22 l22 c22 a23 l23 c23 a24 l24 c24 a_88 l_88 c_88 a_93 l_93 c_93 a_95 l_95 c_95 a_102 l_102 c_102 a_104 l_104 c_104 a_109 l_109 c_109 h108)))
def D4.g (R : Rt) (fr : Fr) (h : Hp) : Prop := gSlice (fr 1) fun a1 l1 c1 => gSlice (fr 5) fun a5 l5 c5 => gSlice (fr 7) fun a7 l7 c7 => gSlice (fr 9) fun a9 l9 c9 => gSlice (fr 10) fun a10 l10 c10 => gSlice (fr 12) fun a12 l12 c12 => gSlice (fr 13) fun a13 l13 c13 => gSlice (fr 15) fun a15 l15 c15 => gSlice (fr 16) fun a16 l16 c16 => gSlice (fr 18) fun a18 l18 c18 => gSlice (fr 19) fun a19 l19 c19 => gSlice (fr 21) fun a21 l21 c21 => gSlice (fr 22) fun a22 l22 c22 => gSlice (fr 23) fun a23 l23 c23 => gSlice (fr 24) fun a24 l24 c24 => D4.t R a1 l1 c1 a5 l5 c5 a7 l7 c7 a9 l9 c9 a10 l10 c10 a12 l12 c12 a13 l13 c13 a15 l15 c15 a16 l16 c16 a18 l18 c18 a19 l19 c19 a21 l21 c21 a22 l22 c22 a23 l23 c23 a24 l24 c24 h
theorem D4.ok (R : Rt) (fr : Fr) (h : Hp) (g : D4.g R fr h) : den prog E (cAt C [true, true, true, true, true, true, true, true, true, true, true, true, true, true]) (retQ E [.tmp 4] R) fr h := by
  obtain ⟨a1, l1, c1, e1, g⟩ := gSlice_elim g
  obtain ⟨a5, l5, c5, e5, g⟩ := gSlice_elim g
  obtain ⟨a7, l7, c7, e7, g⟩ := gSlice_elim g
  obtain ⟨a9, l9, c9, e9, g⟩ := gSlice_elim g
  obtain ⟨a10, l10, c10, e10, g⟩ := gSlice_elim g
  obtain ⟨a12, l12, c12, e12, g⟩ := gSlice_elim g
  obtain ⟨a13, l13, c13, e13, g⟩ := gSlice_elim g
  obtain ⟨a15, l15, c15, e15, g⟩ := gSlice_elim g
  obtain ⟨a16, l16, c16, e16, g⟩ := gSlice_elim g
  obtain ⟨a18, l18, c18, e18, g⟩ := gSlice_elim g
  obtain ⟨a19, l19, c19, e19, g⟩ := gSlice_elim g
  obtain ⟨a21, l21, c21, e21, g⟩ := gSlice_elim g
  obtain ⟨a22, l22, c22, e22, g⟩ := gSlice_elim g
  obtain ⟨a23, l23, c23, e23, g⟩ := gSlice_elim g
  obtain ⟨a24, l24, c24, e24, g⟩ := gSlice_elim g
  exact den_cut 5 (r := (cAt C [true, true, true, true, true, true, true, true, true, true, true, true, true, true, true, true, true, true, true])) (by kernel_rfl) (D5.ok R) (den_enter [(1, .slice a1 l1 c1), (5, .slice a5 l5 c5), (7, .slice a7 l7 c7), (9, .slice a9 l9 c9), (10, .slice a10 l10 c10), (12, .slice a12 l12 c12), (13, .slice a13 l13 c13), (15, .slice a15 l15 c15), (16, .slice a16 l16 c16), (18, .slice a18 l18 c18), (19, .slice a19 l19 c19), (21, .slice a21 l21 c21), (22, .slice a22 l22 c22), (23, .slice a23 l23 c23), (24, .slice a24 l24 c24)] ⟨e1, e5, e7, e9, e10, e12, e13, e15, e16, e18, e19, e21, e22, e23, e24, trivial⟩ (by kernel_rfl) g)
def L9.g (N : Option Addr → Nat → Nat → Option Addr → Nat → Nat → Option Addr → Nat → Nat → Option Addr → Nat → Nat → Option Addr → Nat → Nat → Option Addr → Nat → Nat → Option Addr → Nat → Nat → Option Addr → Nat → Nat → Option Addr → Nat → Nat → Option Addr → Nat → Nat → Option Addr → Nat → Nat → Option Addr → Nat → Nat → Option Addr → Nat → Nat → Option Addr → Nat → Nat → Option Addr → Nat → Nat → Int → Hp → Prop) (fr : Fr) (h : Hp) : Prop := gSlice (fr 1) fun a1 l1 c1 => gSlice (fr 5) fun a5 l5 c5 => gSlice (fr 7) fun a7 l7 c7 => gSlice (fr 9) fun a9 l9 c9 => gSlice (fr 10) fun a10 l10 c10 => gSlice (fr 12) fun a12 l12 c12 => gSlice (fr 13) fun a13 l13 c13 => gSlice (fr 15) fun a15 l15 c15 => gSlice (fr 16) fun a16 l16 c16 => gSlice (fr 18) fun a18 l18 c18 => gSlice (fr 19) fun a19 l19 c19 => gSlice (fr 21) fun a21 l21 c21 => gSlice (fr 22) fun a22 l22 c22 => gSlice (fr 23) fun a23 l23 c23 => gSlice (fr 24) fun a24 l24 c24 => gInt .i64 (fr 25) fun x25 => N a1 l1 c1 a5 l5 c5 a7 l7 c7 a9 l9 c9 a10 l10 c10 a12 l12 c12 a13 l13 c13 a15 l15 c15 a16 l16 c16 a18 l18 c18 a19 l19 c19 a21 l21 c21 a22 l22 c22 a23 l23 c23 a24 l24 c24 x25 h
def D10.t (R : Rt) (N9 : Option Addr → Nat → Nat → Option Addr → Nat → Nat → Option Addr → Nat → Nat → Option Addr → Nat → Nat → Option Addr → Nat → Nat → Option Addr → Nat → Nat → Option Addr → Nat → Nat → Option Addr → Nat → Nat → Option Addr → Nat → Nat → Option Addr → Nat → Nat → Option Addr → Nat → Nat → Option Addr → Nat → Nat → Option Addr → Nat → Nat → Option Addr → Nat → Nat → Option Addr → Nat → Nat → Int → Hp → Prop) (a1 : Option Addr) (l1 : Nat) (c1 : Nat) (a5 : Option Addr) (l5 : Nat) (c5 : Nat) (a7 : Option Addr) (l7 : Nat) (c7 : Nat) (a9 : Option Addr) (l9 : Nat) (c9 : Nat) (a10 : Option Addr) (l10 : Nat) (c10 : Nat) (a12 : Option Addr) (l12 : Nat) (c12 : Nat) (a13 : Option Addr) (l13 : Nat) (c13 : Nat) (a15 : Option Addr) (l15 : Nat) (c15 : Nat) (a16 : Option Addr) (l16 : Nat) (c16 : Nat) (a18 : Option Addr) (l18 : Nat) (c18 : Nat) (a19 : Option Addr) (l19 : Nat) (c19 : Nat) (a21 : Option Addr) (l21 : Nat) (c21 : Nat) (a22 : Option Addr) (l22 : Nat) (c22 : Nat) (a23 : Option Addr) (l23 : Nat) (c23 : Nat) (a24 : Option Addr) (l24 : Nat) (c24 : Nat) (x25 : Int) (h : Hp) : Prop :=
  cond (decide (x25 < (((l5 : Nat) : Int)))) (HQC gnomonlaw03_mark.id #[.int .i64 92, .int .i64 x25] h fun v169 =>
  gInt .u64 v169 fun x_170 =>
  idxK a5 l5 x25 1 fun q171 =>
  stK h q171 (.int .u64 x_170) fun h172 =>
  letK (IntKind.i64.wrap (x25 + 1)) fun n173 =>
  N9 a1 l1 c1 a5 l5 c5 a7 l7 c7 a9 l9 c9 a10 l10 c10 a12 l12 c12 a13 l13 c13 a15 l15 c15 a16 l16 c16 a18 l18 c18 a19 l19 c19 a21 l21 c21 a22 l22 c22 a23 l23 c23 a24 l24 c24 n173 h172) (D4.t R a1 l1 c1 a5 l5 c5 a7 l7 c7 a9 l9 c9 a10 l10 c10 a12 l12 c12 a13 l13 c13 a15 l15 c15 a16 l16 c16 a18 l18 c18 a19 l19 c19 a21 l21 c21 a22 l22 c22 a23 l23 c23 a24 l24 c24 h)
def D10.g (R : Rt) (N9 : Option Addr → Nat → Nat → Option Addr → Nat → Nat → Option Addr → Nat → Nat → Option Addr → Nat → Nat → Option Addr → Nat → Nat → Option Addr → Nat → Nat → Option Addr → Nat → Nat → Option Addr → Nat → Nat → Option Addr → Nat → Nat → Option Addr → Nat → Nat → Option Addr → Nat → Nat → Option Addr → Nat → Nat → Option Addr → Nat → Nat → Option Addr → Nat → Nat → Option Addr → Nat → Nat → Int → Hp → Prop) (fr : Fr) (h : Hp) : Prop := gSlice (fr 1) fun a1 l1 c1 => gSlice (fr 5) fun a5 l5 c5 => gSlice (fr 7) fun a7 l7 c7 => gSlice (fr 9) fun a9 l9 c9 => gSlice (fr 10) fun a10 l10 c10 => gSlice (fr 12) fun a12 l12 c12 => gSlice (fr 13) fun a13 l13 c13 => gSlice (fr 15) fun a15 l15 c15 => gSlice (fr 16) fun a16 l16 c16 => gSlice (fr 18) fun a18 l18 c18 => gSlice (fr 19) fun a19 l19 c19 => gSlice (fr 21) fun a21 l21 c21 => gSlice (fr 22) fun a22 l22 c22 => gSlice (fr 23) fun a23 l23 c23 => gSlice (fr 24) fun a24 l24 c24 => gInt .i64 (fr 25) fun x25 => D10.t R N9 a1 l1 c1 a5 l5 c5 a7 l7 c7 a9 l9 c9 a10 l10 c10 a12 l12 c12 a13 l13 c13 a15 l15 c15 a16 l16 c16 a18 l18 c18 a19 l19 c19 a21 l21 c21 a22 l22 c22 a23 l23 c23 a24 l24 c24 x25 h
theorem D10.ok (R : Rt) (N9 : Option Addr → Nat → Nat → Option Addr → Nat → Nat → Option Addr → Nat → Nat → Option Addr → Nat → Nat → Option Addr → Nat → Nat → Option Addr → Nat → Nat → Option Addr → Nat → Nat → Option Addr → Nat → Nat → Option Addr → Nat → Nat → Option Addr → Nat → Nat → Option Addr → Nat → Nat → Option Addr → Nat → Nat → Option Addr → Nat → Nat → Option Addr → Nat → Nat → Option Addr → Nat → Nat → Int → Hp → Prop) (fr : Fr) (h : Hp) (g : D10.g R N9 fr h) : den prog E (cAt C [true, true, true, true, true, true, true, true, true, true, true, true, true, false, true, false, false]) (Ex.then (L9.g N9) (Ex.inBlock 0 (Ex.then (D4.g R) (retQ E [.tmp 4] R)))) fr h := by
  obtain ⟨a1, l1, c1, e1, g⟩ := gSlice_elim g
  obtain ⟨a5, l5, c5, e5, g⟩ := gSlice_elim g
  obtain ⟨a7, l7, c7, e7, g⟩ := gSlice_elim g
  obtain ⟨a9, l9, c9, e9, g⟩ := gSlice_elim g
  obtain ⟨a10, l10, c10, e10, g⟩ := gSlice_elim g
  obtain ⟨a12, l12, c12, e12, g⟩ := gSlice_elim g
  obtain ⟨a13, l13, c13, e13, g⟩ := gSlice_elim g
  obtain ⟨a15, l15, c15, e15, g⟩ := gSlice_elim g
  obtain ⟨a16, l16, c16, e16, g⟩ := gSlice_elim g
  obtain ⟨a18, l18, c18, e18, g⟩ := gSlice_elim g
  obtain ⟨a19, l19, c19, e19, g⟩ := gSlice_elim g
  obtain ⟨a21, l21, c21, e21, g⟩ := gSlice_elim g
  obtain ⟨a22, l22, c22, e22, g⟩ := gSlice_elim g
  obtain ⟨a23, l23, c23, e23, g⟩ := gSlice_elim g
  obtain ⟨a24, l24, c24, e24, g⟩ := gSlice_elim g
  obtain ⟨x25, e25, g⟩ := gInt_elim g
  exact den_enter [(1, .slice a1 l1 c1), (5, .slice a5 l5 c5), (7, .slice a7 l7 c7), (9, .slice a9 l9 c9), (10, .slice a10 l10 c10), (12, .slice a12 l12 c12), (13, .slice a13 l13 c13), (15, .slice a15 l15 c15), (16, .slice a16 l16 c16), (18, .slice a18 l18 c18), (19, .slice a19 l19 c19), (21, .slice a21 l21 c21), (22, .slice a22 l22 c22), (23, .slice a23 l23 c23), (24, .slice a24 l24 c24), (25, .int .i64 x25)] ⟨e1, e5, e7, e9, e10, e12, e13, e15, e16, e18, e19, e21, e22, e23, e24, e25, trivial⟩ (by kernel_rfl) g
def L9.t (R : Rt) : Nat → Option Addr → Nat → Nat → Option Addr → Nat → Nat → Option Addr → Nat → Nat → Option Addr → Nat → Nat → Option Addr → Nat → Nat → Option Addr → Nat → Nat → Option Addr → Nat → Nat → Option Addr → Nat → Nat → Option Addr → Nat → Nat → Option Addr → Nat → Nat → Option Addr → Nat → Nat → Option Addr → Nat → Nat → Option Addr → Nat → Nat → Option Addr → Nat → Nat → Option Addr → Nat → Nat → Int → Hp → Prop
  | 0 => fun _ _ _ _ _ _ _ _ _ _ _ _ _ _ _ _ _ _ _ _ _ _ _ _ _ _ _ _ _ _ _ _ _ _ _ _ _ _ _ _ _ _ _ _ _ _ _ => False
  | n + 1 => fun a1 l1 c1 a5 l5 c5 a7 l7 c7 a9 l9 c9 a10 l10 c10 a12 l12 c12 a13 l13 c13 a15 l15 c15 a16 l16 c16 a18 l18 c18 a19 l19 c19 a21 l21 c21 a22 l22 c22 a23 l23 c23 a24 l24 c24 x25 h => D10.t R (L9.t R n) a1 l1 c1 a5 l5 c5 a7 l7 c7 a9 l9 c9 a10 l10 c10 a12 l12 c12 a13 l13 c13 a15 l15 c15 a16 l16 c16 a18 l18 c18 a19 l19 c19 a21 l21 c21 a22 l22 c22 a23 l23 c23 a24 l24 c24 x25 h
theorem L9.ok (R : Rt) (fr : Fr) (h : Hp) (g : L9.g (fun a1 l1 c1 a5 l5 c5 a7 l7 c7 a9 l9 c9 a10 l10 c10 a12 l12 c12 a13 l13 c13 a15 l15 c15 a16 l16 c16 a18 l18 c18 a19 l19 c19 a21 l21 c21 a22 l22 c22 a23 l23 c23 a24 l24 c24 x25 h => ∃ n, L9.t R n a1 l1 c1 a5 l5 c5 a7 l7 c7 a9 l9 c9 a10 l10 c10 a12 l12 c12 a13 l13 c13 a15 l15 c15 a16 l16 c16 a18 l18 c18 a19 l19 c19 a21 l21 c21 a22 l22 c22 a23 l23 c23 a24 l24 c24 x25 h) fr h) : den prog E (cAt C [true, true, true, true, true, true, true, true, true, true, true, true, true, false, true, false]) (Ex.inBlock 0 (Ex.then (D4.g R) (retQ E [.tmp 4] R))) fr h := by
  obtain ⟨a1, l1, c1, e1, g⟩ := gSlice_elim g
  obtain ⟨a5, l5, c5, e5, g⟩ := gSlice_elim g
  obtain ⟨a7, l7, c7, e7, g⟩ := gSlice_elim g
  obtain ⟨a9, l9, c9, e9, g⟩ := gSlice_elim g
  obtain ⟨a10, l10, c10, e10, g⟩ := gSlice_elim g
  obtain ⟨a12, l12, c12, e12, g⟩ := gSlice_elim g
  obtain ⟨a13, l13, c13, e13, g⟩ := gSlice_elim g
  obtain ⟨a15, l15, c15, e15, g⟩ := gSlice_elim g
  obtain ⟨a16, l16, c16, e16, g⟩ := gSlice_elim g
  obtain ⟨a18, l18, c18, e18, g⟩ := gSlice_elim g
  obtain ⟨a19, l19, c19, e19, g⟩ := gSlice_elim g
  obtain ⟨a21, l21, c21, e21, g⟩ := gSlice_elim g
  obtain ⟨a22, l22, c22, e22, g⟩ := gSlice_elim g
  obtain ⟨a23, l23, c23, e23, g⟩ := gSlice_elim g
  obtain ⟨a24, l24, c24, e24, g⟩ := gSlice_elim g
  obtain ⟨x25, e25, g⟩ := gInt_elim g
  obtain ⟨n, g⟩ := g
  refine loop_ok (fun n => L9.g (L9.t R n)) (b := (cAt C [true, true, true, true, true, true, true, true, true, true, true, true, true, false, true, false, false])) (by kernel_rfl) (fun fr h g => ?_) (fun n => D10.ok R (L9.t R n)) n fr h (gSlice_intro e1 (gSlice_intro e5 (gSlice_intro e7 (gSlice_intro e9 (gSlice_intro e10 (gSlice_intro e12 (gSlice_intro e13 (gSlice_intro e15 (gSlice_intro e16 (gSlice_intro e18 (gSlice_intro e19 (gSlice_intro e21 (gSlice_intro e22 (gSlice_intro e23 (gSlice_intro e24 (gInt_intro e25 (g)))))))))))))))))
  obtain ⟨a1, l1, c1, e1, g⟩ := gSlice_elim g
  obtain ⟨a5, l5, c5, e5, g⟩ := gSlice_elim g
  obtain ⟨a7, l7, c7, e7, g⟩ := gSlice_elim g
  obtain ⟨a9, l9, c9, e9, g⟩ := gSlice_elim g
  obtain ⟨a10, l10, c10, e10, g⟩ := gSlice_elim g
  obtain ⟨a12, l12, c12, e12, g⟩ := gSlice_elim g
  obtain ⟨a13, l13, c13, e13, g⟩ := gSlice_elim g
  obtain ⟨a15, l15, c15, e15, g⟩ := gSlice_elim g
  obtain ⟨a16, l16, c16, e16, g⟩ := gSlice_elim g
  obtain ⟨a18, l18, c18, e18, g⟩ := gSlice_elim g
  obtain ⟨a19, l19, c19, e19, g⟩ := gSlice_elim g
  obtain ⟨a21, l21, c21, e21, g⟩ := gSlice_elim g
  obtain ⟨a22, l22, c22, e22, g⟩ := gSlice_elim g
  obtain ⟨a23, l23, c23, e23, g⟩ := gSlice_elim g
  obtain ⟨a24, l24, c24, e24, g⟩ := gSlice_elim g
  obtain ⟨x25, e25, g⟩ := gInt_elim g
  exact g
theorem B11.ok (R : Rt) (fr : Fr) (h : Hp) (g : L9.g (fun a1 l1 c1 a5 l5 c5 a7 l7 c7 a9 l9 c9 a10 l10 c10 a12 l12 c12 a13 l13 c13 a15 l15 c15 a16 l16 c16 a18 l18 c18 a19 l19 c19 a21 l21 c21 a22 l22 c22 a23 l23 c23 a24 l24 c24 x25 h => ∃ n, L9.t R n a1 l1 c1 a5 l5 c5 a7 l7 c7 a9 l9 c9 a10 l10 c10 a12 l12 c12 a13 l13 c13 a15 l15 c15 a16 l16 c16 a18 l18 c18 a19 l19 c19 a21 l21 c21 a22 l22 c22 a23 l23 c23 a24 l24 c24 x25 h) fr h) : den prog E (cAt C [true, true, true, true, true, true, true, true, true, true, true, true, true, false, true]) (Ex.then (D4.g R) (retQ E [.tmp 4] R)) fr h :=
  den_block (by kernel_rfl) (L9.ok R fr h g)
def D8.t (R : Rt) (a1 : Option Addr) (l1 : Nat) (c1 : Nat) (a5 : Option Addr) (l5 : Nat) (c5 : Nat) (a7 : Option Addr) (l7 : Nat) (c7 : Nat) (a9 : Option Addr) (l9 : Nat) (c9 : Nat) (a10 : Option Addr) (l10 : Nat) (c10 : Nat) (a12 : Option Addr) (l12 : Nat) (c12 : Nat) (a13 : Option Addr) (l13 : Nat) (c13 : Nat) (a15 : Option Addr) (l15 : Nat) (c15 : Nat) (a16 : Option Addr) (l16 : Nat) (c16 : Nat) (a18 : Option Addr) (l18 : Nat) (c18 : Nat) (a19 : Option Addr) (l19 : Nat) (c19 : Nat) (a21 : Option Addr) (l21 : Nat) (c21 : Nat) (a22 : Option Addr) (l22 : Nat) (c22 : Nat) (a23 : Option Addr) (l23 : Nat) (c23 : Nat) (a24 : Option Addr) (l24 : Nat) (c24 : Nat) (h : Hp) : Prop :=
  (∃ n, L9.t R n a1 l1 c1 a5 l5 c5 a7 l7 c7 a9 l9 c9 a10 l10 c10 a12 l12 c12 a13 l13 c13 a15 l15 c15 a16 l16 c16 a18 l18 c18 a19 l19 c19 a21 l21 c21 a22 l22 c22 a23 l23 c23 a24 l24 c24 0 h)
def D8.g (R : Rt) (fr : Fr) (h : Hp) : Prop := gSlice (fr 1) fun a1 l1 c1 => gSlice (fr 5) fun a5 l5 c5 => gSlice (fr 7) fun a7 l7 c7 => gSlice (fr 9) fun a9 l9 c9 => gSlice (fr 10) fun a10 l10 c10 => gSlice (fr 12) fun a12 l12 c12 => gSlice (fr 13) fun a13 l13 c13 => gSlice (fr 15) fun a15 l15 c15 => gSlice (fr 16) fun a16 l16 c16 => gSlice (fr 18) fun a18 l18 c18 => gSlice (fr 19) fun a19 l19 c19 => gSlice (fr 21) fun a21 l21 c21 => gSlice (fr 22) fun a22 l22 c22 => gSlice (fr 23) fun a23 l23 c23 => gSlice (fr 24) fun a24 l24 c24 => D8.t R a1 l1 c1 a5 l5 c5 a7 l7 c7 a9 l9 c9 a10 l10 c10 a12 l12 c12 a13 l13 c13 a15 l15 c15 a16 l16 c16 a18 l18 c18 a19 l19 c19 a21 l21 c21 a22 l22 c22 a23 l23 c23 a24 l24 c24 h
theorem D8.ok (R : Rt) (fr : Fr) (h : Hp) (g : D8.g R fr h) : den prog E (cAt C [true, true, true, true, true, true, true, true, true, true, true, true, true, false]) (Ex.then (D4.g R) (retQ E [.tmp 4] R)) fr h := by
  obtain ⟨a1, l1, c1, e1, g⟩ := gSlice_elim g
  obtain ⟨a5, l5, c5, e5, g⟩ := gSlice_elim g
  obtain ⟨a7, l7, c7, e7, g⟩ := gSlice_elim g
  obtain ⟨a9, l9, c9, e9, g⟩ := gSlice_elim g
  obtain ⟨a10, l10, c10, e10, g⟩ := gSlice_elim g
  obtain ⟨a12, l12, c12, e12, g⟩ := gSlice_elim g
  obtain ⟨a13, l13, c13, e13, g⟩ := gSlice_elim g
  obtain ⟨a15, l15, c15, e15, g⟩ := gSlice_elim g
  obtain ⟨a16, l16, c16, e16, g⟩ := gSlice_elim g
  obtain ⟨a18, l18, c18, e18, g⟩ := gSlice_elim g
  obtain ⟨a19, l19, c19, e19, g⟩ := gSlice_elim g
  obtain ⟨a21, l21, c21, e21, g⟩ := gSlice_elim g
  obtain ⟨a22, l22, c22, e22, g⟩ := gSlice_elim g
  obtain ⟨a23, l23, c23, e23, g⟩ := gSlice_elim g
  obtain ⟨a24, l24, c24, e24, g⟩ := gSlice_elim g
  exact den_cut 1 (r := (cAt C [true, true, true, true, true, true, true, true, true, true, true, true, true, false, true])) (by kernel_rfl) (B11.ok R) (den_enter [(1, .slice a1 l1 c1), (5, .slice a5 l5 c5), (7, .slice a7 l7 c7), (9, .slice a9 l9 c9), (10, .slice a10 l10 c10), (12, .slice a12 l12 c12), (13, .slice a13 l13 c13), (15, .slice a15 l15 c15), (16, .slice a16 l16 c16), (18, .slice a18 l18 c18), (19, .slice a19 l19 c19), (21, .slice a21 l21 c21), (22, .slice a22 l22 c22), (23, .slice a23 l23 c23), (24, .slice a24 l24 c24)] ⟨e1, e5, e7, e9, e10, e12, e13, e15, e16, e18, e19, e21, e22, e23, e24, trivial⟩ (by kernel_rfl) g)
theorem W12.ok (R : Rt) (fr : Fr) (h : Hp) (g : D8.g R fr h) : den prog E (cAt C [true, true, true, true, true, true, true, true, true, true, true, true, true]) (retQ E [.tmp 4] R) fr h :=
  den_then (by kernel_rfl) (D4.ok R) (D8.ok R fr h g)
def D3.t (R : Rt) (a1 : Option Addr) (l1 : Nat) (c1 : Nat) (a5 : Option Addr) (l5 : Nat) (c5 : Nat) (a7 : Option Addr) (l7 : Nat) (c7 : Nat) (a9 : Option Addr) (l9 : Nat) (c9 : Nat) (a10 : Option Addr) (l10 : Nat) (c10 : Nat) (a12 : Option Addr) (l12 : Nat) (c12 : Nat) (a13 : Option Addr) (l13 : Nat) (c13 : Nat) (a15 : Option Addr) (l15 : Nat) (c15 : Nat) (a16 : Option Addr) (l16 : Nat) (c16 : Nat) (a18 : Option Addr) (l18 : Nat) (c18 : Nat) (a19 : Option Addr) (l19 : Nat) (c19 : Nat) (h : Hp) : Prop :=
  HC gnomonlaw03_twin.id #[.slice a9 l9 c9] h fun v66 h67 =>
  gSlice v66 fun a_68 l_68 c_68 =>
  HC gnomonlaw03_twin.id #[.slice a10 l10 c10] h67 fun v69 h70 =>
  gSlice v69 fun a_71 l_71 c_71 =>
  HC gnomonlaw03_twin.id #[.slice a15 l15 c15] h70 fun v72 h73 =>
  gSlice v72 fun a_74 l_74 c_74 =>
  HC gnomonlaw03_twin.id #[.slice a16 l16 c16] h73 fun v75 h76 =>
  gSlice v75 fun a_77 l_77 c_77 =>
  HQC gnomonref01_Same.id #[.slice a12 l12 c12, .slice a_68 l_68 c_68] h76 fun v78 =>
  gBool v78 fun b_79 =>
  cond (!b_79) (R (.bool false) h76) (HQC gnomonref01_Same.id #[.slice a13 l13 c13, .slice a_71 l_71 c_71] h76 fun v80 =>
  gBool v80 fun b_81 =>
  cond (!b_81) (R (.bool false) h76) (HQC gnomonref01_Same.id #[.slice a18 l18 c18, .slice a_74 l_74 c_74] h76 fun v82 =>
  gBool v82 fun b_83 =>
  cond (!b_83) (R (.bool false) h76) (HQC gnomonref01_Same.id #[.slice a19 l19 c19, .slice a_77 l_77 c_77] h76 fun v84 =>
  gBool v84 fun b_85 =>
  cond (!b_85) (R (.bool false) h76) (D8.t R a1 l1 c1 a5 l5 c5 a7 l7 c7 a9 l9 c9 a10 l10 c10 a12 l12 c12 a13 l13 c13 a15 l15 c15 a16 l16 c16 a18 l18 c18 a19 l19 c19 a_68 l_68 c_68 a_71 l_71 c_71 a_74 l_74 c_74 a_77 l_77 c_77 h76))))
def D3.g (R : Rt) (fr : Fr) (h : Hp) : Prop := gSlice (fr 1) fun a1 l1 c1 => gSlice (fr 5) fun a5 l5 c5 => gSlice (fr 7) fun a7 l7 c7 => gSlice (fr 9) fun a9 l9 c9 => gSlice (fr 10) fun a10 l10 c10 => gSlice (fr 12) fun a12 l12 c12 => gSlice (fr 13) fun a13 l13 c13 => gSlice (fr 15) fun a15 l15 c15 => gSlice (fr 16) fun a16 l16 c16 => gSlice (fr 18) fun a18 l18 c18 => gSlice (fr 19) fun a19 l19 c19 => D3.t R a1 l1 c1 a5 l5 c5 a7 l7 c7 a9 l9 c9 a10 l10 c10 a12 l12 c12 a13 l13 c13 a15 l15 c15 a16 l16 c16 a18 l18 c18 a19 l19 c19 h
theorem D3.ok (R : Rt) (fr : Fr) (h : Hp) (g : D3.g R fr h) : den prog E (cAt C [true, true, true, true, true, true, true, true, true, true]) (retQ E [.tmp 4] R) fr h := by
  obtain ⟨a1, l1, c1, e1, g⟩ := gSlice_elim g
  obtain ⟨a5, l5, c5, e5, g⟩ := gSlice_elim g
  obtain ⟨a7, l7, c7, e7, g⟩ := gSlice_elim g
  obtain ⟨a9, l9, c9, e9, g⟩ := gSlice_elim g
  obtain ⟨a10, l10, c10, e10, g⟩ := gSlice_elim g
  obtain ⟨a12, l12, c12, e12, g⟩ := gSlice_elim g
  obtain ⟨a13, l13, c13, e13, g⟩ := gSlice_elim g
  obtain ⟨a15, l15, c15, e15, g⟩ := gSlice_elim g
  obtain ⟨a16, l16, c16, e16, g⟩ := gSlice_elim g
  obtain ⟨a18, l18, c18, e18, g⟩ := gSlice_elim g
  obtain ⟨a19, l19, c19, e19, g⟩ := gSlice_elim g
  exact den_cut 3 (r := (cAt C [true, true, true, true, true, true, true, true, true, true, true, true, true])) (by kernel_rfl) (W12.ok R) (den_enter [(1, .slice a1 l1 c1), (5, .slice a5 l5 c5), (7, .slice a7 l7 c7), (9, .slice a9 l9 c9), (10, .slice a10 l10 c10), (12, .slice a12 l12 c12), (13, .slice a13 l13 c13), (15, .slice a15 l15 c15), (16, .slice a16 l16 c16), (18, .slice a18 l18 c18), (19, .slice a19 l19 c19)] ⟨e1, e5, e7, e9, e10, e12, e13, e15, e16, e18, e19, trivial⟩ (by kernel_rfl) g)
def D2.t (R : Rt) (a0 : Option Addr) (l0 : Nat) (c0 : Nat) (a1 : Option Addr) (l1 : Nat) (c1 : Nat) (h : Hp) : Prop :=
  HC gnomonlaw03_roomy.id #[.slice a0 l0 c0, .int .i64 90] h fun v10 h11 =>
  gTup v10 fun y12 =>
  uncons y12 fun v13 y13 =>
  gSlice v13 fun a_14 l_14 c_14 =>
  uncons y13 fun v15 y15 =>
  gSlice v15 fun a_16 l_16 c_16 =>
  unnil y15 <| HC gnomonlaw03_roomy.id #[.slice a1 l1 c1, .int .i64 91] h11 fun v17 h18 =>
  gTup v17 fun y19 =>
  uncons y19 fun v20 y20 =>
  gSlice v20 fun a_21 l_21 c_21 =>
  uncons y20 fun v22 y22 =>
  gSlice v22 fun a_23 l_23 c_23 =>
  unnil y22 <| HC natdiv_QuoRem.id #[.slice a_14 l_14 c_14, .slice a_21 l_21 c_21] h18 fun v24 h25 =>
  gTup v24 fun y26 =>
  uncons y26 fun v27 y27 =>
  gSlice v27 fun a_28 l_28 c_28 =>
  uncons y27 fun v29 y29 =>
  gSlice v29 fun a_30 l_30 c_30 =>
  uncons y29 fun v31 y31 =>
  gInt .i64 v31 fun x_32 =>
  unnil y31 <| HC natdiv_QuoRem.id #[.slice a_14 l_14 c_14, .slice a_21 l_21 c_21] h25 fun v33 h34 =>
  gTup v33 fun y35 =>
  uncons y35 fun v36 y36 =>
  gSlice v36 fun a_37 l_37 c_37 =>
  uncons y36 fun v38 y38 =>
  gSlice v38 fun a_39 l_39 c_39 =>
  uncons y38 fun v40 y40 =>
  gInt .i64 v40 fun x_41 =>
  unnil y40 <| HC natdiv_Root.id #[.slice a_14 l_14 c_14] h34 fun v42 h43 =>
  gTup v42 fun y44 =>
  uncons y44 fun v45 y45 =>
  gSlice v45 fun a_46 l_46 c_46 =>
  uncons y45 fun v47 y47 =>
  gSlice v47 fun a_48 l_48 c_48 =>
  uncons y47 fun v49 y49 =>
  gInt .i64 v49 fun x_50 =>
  unnil y49 <| HC natdiv_Root.id #[.slice a_14 l_14 c_14] h43 fun v51 h52 =>
  gTup v51 fun y53 =>
  uncons y53 fun v54 y54 =>
  gSlice v54 fun a_55 l_55 c_55 =>
  uncons y54 fun v56 y56 =>
  gSlice v56 fun a_57 l_57 c_57 =>
  uncons y56 fun v58 y58 =>
  gInt .i64 v58 fun x_59 =>
  unnil y58 <| cond (x_32 != 0) (R (.bool false) h52) (cond (x_41 != 0) (R (.bool false) h52) (cond (x_50 != 0) (R (.bool false) h52) (cond (x_59 != 0) (R (.bool false) h52) (HC gnomonlaw03_kept.id #[.slice a0 l0 c0, .slice a_16 l_16 c_16, .int .i64 90] h52 fun v60 h61 =>
  gBool v60 fun b_62 =>
  cond (!b_62) (R (.bool false) h61) (HC gnomonlaw03_kept.id #[.slice a1 l1 c1, .slice a_23 l_23 c_23, .int .i64 91] h61 fun v63 h64 =>
  gBool v63 fun b_65 =>
  cond (!b_65) (R (.bool false) h64) (D3.t R a1 l1 c1 a_14 l_14 c_14 a_21 l_21 c_21 a_28 l_28 c_28 a_30 l_30 c_30 a_37 l_37 c_37 a_39 l_39 c_39 a_46 l_46 c_46 a_48 l_48 c_48 a_55 l_55 c_55 a_57 l_57 c_57 h64))))))
def D2.g (R : Rt) (fr : Fr) (h : Hp) : Prop := gSlice (fr 0) fun a0 l0 c0 => gSlice (fr 1) fun a1 l1 c1 => D2.t R a0 l0 c0 a1 l1 c1 h
theorem D2.ok (R : Rt) (fr : Fr) (h : Hp) (g : D2.g R fr h) : den prog E (cAt C [true, true, true]) (retQ E [.tmp 4] R) fr h := by
  obtain ⟨a0, l0, c0, e0, g⟩ := gSlice_elim g
  obtain ⟨a1, l1, c1, e1, g⟩ := gSlice_elim g
  exact den_cut 7 (r := (cAt C [true, true, true, true, true, true, true, true, true, true])) (by kernel_rfl) (D3.ok R) (den_enter [(0, .slice a0 l0 c0), (1, .slice a1 l1 c1)] ⟨e0, e1, trivial⟩ (by kernel_rfl) g)
def D1.t (R : Rt) (a0 : Option Addr) (l0 : Nat) (c0 : Nat) (a1 : Option Addr) (l1 : Nat) (c1 : Nat) (h : Hp) : Prop :=
  HC gnomonlaw03_awake.id #[] h fun v1 h2 =>
  gBool v1 fun b_3 =>
  cond (!b_3) (R (.bool false) h2) (HC gnomonref01_DocForm.id #[.slice a0 l0 c0] h2 fun v4 h5 =>
  gBool v4 fun b_6 =>
  cond (!b_6) (R (.bool true) h5) (HC gnomonref01_DocForm.id #[.slice a1 l1 c1] h5 fun v7 h8 =>
  gBool v7 fun b_9 =>
  cond (!b_9) (R (.bool true) h8) (cond ((((l1 : Nat) : Int)) == 0) (R (.bool true) h8) (D2.t R a0 l0 c0 a1 l1 c1 h8))))
def D1.g (R : Rt) (fr : Fr) (h : Hp) : Prop := gSlice (fr 0) fun a0 l0 c0 => gSlice (fr 1) fun a1 l1 c1 => D1.t R a0 l0 c0 a1 l1 c1 h
theorem D1.ok (R : Rt) (fr : Fr) (h : Hp) (g : D1.g R fr h) : den prog E C (retQ E [.tmp 4] R) fr h := by
  obtain ⟨a0, l0, c0, e0, g⟩ := gSlice_elim g
  obtain ⟨a1, l1, c1, e1, g⟩ := gSlice_elim g
  exact den_cut 3 (r := (cAt C [true, true, true])) (by kernel_rfl) (D2.ok R) (den_enter [(0, .slice a0 l0 c0), (1, .slice a1 l1 c1)] ⟨e0, e1, trivial⟩ (by kernel_rfl) g)
def t (a0 : Option Addr) (l0 : Nat) (c0 : Nat) (a1 : Option Addr) (l1 : Nat) (c1 : Nat) (h : Hp) (R : Rt) : Prop := D1.t R a0 l0 c0 a1 l1 c1 h
theorem ok {a0 : Option Addr} {l0 : Nat} {c0 : Nat} {a1 : Option Addr} {l1 : Nat} {c1 : Nat} {h : Hp} {R : Rt} (g : t a0 l0 c0 a1 l1 c1 h R) : HC id #[.slice a0 l0 c0, .slice a1 l1 c1] h R :=
  calls_of_den' envOk (c := C) (rs := [.tmp 4]) Try.func10 (by kernel_rfl) (by kernel_rfl) (by kernel_rfl) (args := [.slice a0 l0 c0, .slice a1 l1 c1]) (by kernel_rfl) (D1.ok R _ h (gSlice_intro rfl (gSlice_intro rfl (g))))
end gnomonlaw03_NatdivMemory




namespace gnomonref01_Same
noncomputable def C : Code := bodyOf Try.f14
def D2.t (R : Rt)  (h : Hp) : Prop :=
  R (.bool true) h
def D2.g (R : Rt) (fr : Fr) (h : Hp) : Prop := D2.t R  h
theorem D2.ok (R : Rt) (fr : Fr) (h : Hp) (g : D2.g R fr h) : den prog E (cAt C [true, true, true]) (retQ E [.tmp 4] R) fr h := by
  exact den_enter [] trivial (by kernel_rfl) g
def L4.g (N : Option Addr → Nat → Nat → Option Addr → Nat → Nat → Int → Hp → Prop) (fr : Fr) (h : Hp) : Prop := gSlice (fr 0) fun a0 l0 c0 => gSlice (fr 1) fun a1 l1 c1 => gInt .i64 (fr 5) fun x5 => N a0 l0 c0 a1 l1 c1 x5 h
def D5.t (R : Rt) (N4 : Option Addr → Nat → Nat → Option Addr → Nat → Nat → Int → Hp → Prop) (a0 : Option Addr) (l0 : Nat) (c0 : Nat) (a1 : Option Addr) (l1 : Nat) (c1 : Nat) (x5 : Int) (h : Hp) : Prop :=
  cond (decide (x5 < (((l0 : Nat) : Int)))) (idxK a0 l0 x5 1 fun q1 =>
  ldK h q1 fun v2 =>
  gInt .u64 v2 fun x_3 =>
  idxK a1 l1 x5 1 fun q4 =>
  ldK h q4 fun v5 =>
  gInt .u64 v5 fun x_6 =>
  cond (x_3 != x_6) (R (.bool false) h) (letK (IntKind.i64.wrap (x5 + 1)) fun n7 =>
  N4 a0 l0 c0 a1 l1 c1 n7 h)) (D2.t R h)
def D5.g (R : Rt) (N4 : Option Addr → Nat → Nat → Option Addr → Nat → Nat → Int → Hp → Prop) (fr : Fr) (h : Hp) : Prop := gSlice (fr 0) fun a0 l0 c0 => gSlice (fr 1) fun a1 l1 c1 => gInt .i64 (fr 5) fun x5 => D5.t R N4 a0 l0 c0 a1 l1 c1 x5 h
theorem D5.ok (R : Rt) (N4 : Option Addr → Nat → Nat → Option Addr → Nat → Nat → Int → Hp → Prop) (fr : Fr) (h : Hp) (g : D5.g R N4 fr h) : den prog E (cAt C [true, true, false, true, false, false]) (Ex.then (L4.g N4) (Ex.inBlock 0 (Ex.then (D2.g R) (retQ E [.tmp 4] R)))) fr h := by
  obtain ⟨a0, l0, c0, e0, g⟩ := gSlice_elim g
  obtain ⟨a1, l1, c1, e1, g⟩ := gSlice_elim g
  obtain ⟨x5, e5, g⟩ := gInt_elim g
  exact den_enter [(0, .slice a0 l0 c0), (1, .slice a1 l1 c1), (5, .int .i64 x5)] ⟨e0, e1, e5, trivial⟩ (by kernel_rfl) g
def L4.t (R : Rt) : Nat → Option Addr → Nat → Nat → Option Addr → Nat → Nat → Int → Hp → Prop
  | 0 => fun _ _ _ _ _ _ _ _ => False
  | n + 1 => fun a0 l0 c0 a1 l1 c1 x5 h => D5.t R (L4.t R n) a0 l0 c0 a1 l1 c1 x5 h
theorem L4.ok (R : Rt) (fr : Fr) (h : Hp) (g : L4.g (fun a0 l0 c0 a1 l1 c1 x5 h => ∃ n, L4.t R n a0 l0 c0 a1 l1 c1 x5 h) fr h) : den prog E (cAt C [true, true, false, true, false]) (Ex.inBlock 0 (Ex.then (D2.g R) (retQ E [.tmp 4] R))) fr h := by
  obtain ⟨a0, l0, c0, e0, g⟩ := gSlice_elim g
  obtain ⟨a1, l1, c1, e1, g⟩ := gSlice_elim g
  obtain ⟨x5, e5, g⟩ := gInt_elim g
  obtain ⟨n, g⟩ := g
  refine loop_ok (fun n => L4.g (L4.t R n)) (b := (cAt C [true, true, false, true, false, false])) (by kernel_rfl) (fun fr h g => ?_) (fun n => D5.ok R (L4.t R n)) n fr h (gSlice_intro e0 (gSlice_intro e1 (gInt_intro e5 (g))))
  obtain ⟨a0, l0, c0, e0, g⟩ := gSlice_elim g
  obtain ⟨a1, l1, c1, e1, g⟩ := gSlice_elim g
  obtain ⟨x5, e5, g⟩ := gInt_elim g
  exact g
theorem B6.ok (R : Rt) (fr : Fr) (h : Hp) (g : L4.g (fun a0 l0 c0 a1 l1 c1 x5 h => ∃ n, L4.t R n a0 l0 c0 a1 l1 c1 x5 h) fr h) : den prog E (cAt C [true, true, false, true]) (Ex.then (D2.g R) (retQ E [.tmp 4] R)) fr h :=
  den_block (by kernel_rfl) (L4.ok R fr h g)
def D3.t (R : Rt) (a0 : Option Addr) (l0 : Nat) (c0 : Nat) (a1 : Option Addr) (l1 : Nat) (c1 : Nat) (h : Hp) : Prop :=
  (∃ n, L4.t R n a0 l0 c0 a1 l1 c1 0 h)
def D3.g (R : Rt) (fr : Fr) (h : Hp) : Prop := gSlice (fr 0) fun a0 l0 c0 => gSlice (fr 1) fun a1 l1 c1 => D3.t R a0 l0 c0 a1 l1 c1 h
theorem D3.ok (R : Rt) (fr : Fr) (h : Hp) (g : D3.g R fr h) : den prog E (cAt C [true, true, false]) (Ex.then (D2.g R) (retQ E [.tmp 4] R)) fr h := by
  obtain ⟨a0, l0, c0, e0, g⟩ := gSlice_elim g
  obtain ⟨a1, l1, c1, e1, g⟩ := gSlice_elim g
  exact den_cut 1 (r := (cAt C [true, true, false, true])) (by kernel_rfl) (B6.ok R) (den_enter [(0, .slice a0 l0 c0), (1, .slice a1 l1 c1)] ⟨e0, e1, trivial⟩ (by kernel_rfl) g)
theorem W7.ok (R : Rt) (fr : Fr) (h : Hp) (g : D3.g R fr h) : den prog E (cAt C [true, true]) (retQ E [.tmp 4] R) fr h :=
  den_then (by kernel_rfl) (D2.ok R) (D3.ok R fr h g)
def D1.t (R : Rt) (a0 : Option Addr) (l0 : Nat) (c0 : Nat) (a1 : Option Addr) (l1 : Nat) (c1 : Nat) (h : Hp) : Prop :=
  cond ((((l0 : Nat) : Int)) != (((l1 : Nat) : Int))) (R (.bool false) h) (D3.t R a0 l0 c0 a1 l1 c1 h)
def D1.g (R : Rt) (fr : Fr) (h : Hp) : Prop := gSlice (fr 0) fun a0 l0 c0 => gSlice (fr 1) fun a1 l1 c1 => D1.t R a0 l0 c0 a1 l1 c1 h
theorem D1.ok (R : Rt) (fr : Fr) (h : Hp) (g : D1.g R fr h) : den prog E C (retQ E [.tmp 4] R) fr h := by
  obtain ⟨a0, l0, c0, e0, g⟩ := gSlice_elim g
  obtain ⟨a1, l1, c1, e1, g⟩ := gSlice_elim g
  exact den_cut 2 (r := (cAt C [true, true])) (by kernel_rfl) (W7.ok R) (den_enter [(0, .slice a0 l0 c0), (1, .slice a1 l1 c1)] ⟨e0, e1, trivial⟩ (by kernel_rfl) g)
def t (a0 : Option Addr) (l0 : Nat) (c0 : Nat) (a1 : Option Addr) (l1 : Nat) (c1 : Nat) (h : Hp) (R : Rt) : Prop := D1.t R a0 l0 c0 a1 l1 c1 h
theorem ok {a0 : Option Addr} {l0 : Nat} {c0 : Nat} {a1 : Option Addr} {l1 : Nat} {c1 : Nat} {h : Hp} {R : Rt} (g : t a0 l0 c0 a1 l1 c1 h R) : HC id #[.slice a0 l0 c0, .slice a1 l1 c1] h R :=
  calls_of_den' envOk (c := C) (rs := [.tmp 4]) Try.func14 (by kernel_rfl) (by kernel_rfl) (by kernel_rfl) (args := [.slice a0 l0 c0, .slice a1 l1 c1]) (by kernel_rfl) (D1.ok R _ h (gSlice_intro rfl (gSlice_intro rfl (g))))
end gnomonref01_Same




namespace gnomonlaw03_twin
noncomputable def C : Code := bodyOf Try.f18
def D1.t (R : Rt) (a0 : Option Addr) (l0 : Nat) (c0 : Nat) (h : Hp) : Prop :=
  mkK h 27 T27 (((l0 : Nat) : Int)) (((l0 : Nat) : Int)) fun q1 h2 =>
  cpK h2 1 (some q1) ((((l0 : Nat) : Int)).toNat) (.slice a0 l0 c0) fun n3 h3 =>
  R (.slice (some q1) ((((l0 : Nat) : Int)).toNat) ((((l0 : Nat) : Int)).toNat)) h3
def D1.g (R : Rt) (fr : Fr) (h : Hp) : Prop := gSlice (fr 0) fun a0 l0 c0 => D1.t R a0 l0 c0 h
theorem D1.ok (R : Rt) (fr : Fr) (h : Hp) (g : D1.g R fr h) : den prog E C (retQ E [.tmp 2] R) fr h := by
  obtain ⟨a0, l0, c0, e0, g⟩ := gSlice_elim g
  exact den_enter [(0, .slice a0 l0 c0)] ⟨e0, trivial⟩ (by kernel_rfl) g
def t (a0 : Option Addr) (l0 : Nat) (c0 : Nat) (h : Hp) (R : Rt) : Prop := D1.t R a0 l0 c0 h
theorem ok {a0 : Option Addr} {l0 : Nat} {c0 : Nat} {h : Hp} {R : Rt} (g : t a0 l0 c0 h R) : HC id #[.slice a0 l0 c0] h R :=
  calls_of_den' envOk (c := C) (rs := [.tmp 2]) Try.func18 (by kernel_rfl) (by kernel_rfl) (by kernel_rfl) (args := [.slice a0 l0 c0]) (by kernel_rfl) (D1.ok R _ h (gSlice_intro rfl (g)))
end gnomonlaw03_twin


namespace gnomonlaw03_roomy
noncomputable def C : Code := bodyOf Try.f20
def D2.t (R : Rt) (a0 : Option Addr) (l0 : Nat) (c0 : Nat) (a6 : Option Addr) (l6 : Nat) (c6 : Nat) (h : Hp) : Prop :=
  slK 1 a6 l6 c6 none (some (.int .i64 (((l0 : Nat) : Int)))) none fun a_5 l_5 c_5 =>
  R (.tuple #[.slice a_5 l_5 c_5, .slice a6 l6 c6]) h
def D2.g (R : Rt) (fr : Fr) (h : Hp) : Prop := gSlice (fr 0) fun a0 l0 c0 => gSlice (fr 6) fun a6 l6 c6 => D2.t R a0 l0 c0 a6 l6 c6 h
theorem D2.ok (R : Rt) (fr : Fr) (h : Hp) (g : D2.g R fr h) : den prog E (cAt C [true, true, true, true]) (retQ E [.tmp 4, .tmp 5] R) fr h := by
  obtain ⟨a0, l0, c0, e0, g⟩ := gSlice_elim g
  obtain ⟨a6, l6, c6, e6, g⟩ := gSlice_elim g
  exact den_enter [(0, .slice a0 l0 c0), (6, .slice a6 l6 c6)] ⟨e0, e6, trivial⟩ (by kernel_rfl) g
def L4.g (N : Option Addr → Nat → Nat → Int → Option Addr → Nat → Nat → Int → Hp → Prop) (fr : Fr) (h : Hp) : Prop := gSlice (fr 0) fun a0 l0 c0 => gInt .i64 (fr 1) fun x1 => gSlice (fr 6) fun a6 l6 c6 => gInt .i64 (fr 7) fun x7 => N a0 l0 c0 x1 a6 l6 c6 x7 h
def D5.t (R : Rt) (N4 : Option Addr → Nat → Nat → Int → Option Addr → Nat → Nat → Int → Hp → Prop) (a0 : Option Addr) (l0 : Nat) (c0 : Nat) (x1 : Int) (a6 : Option Addr) (l6 : Nat) (c6 : Nat) (x7 : Int) (h : Hp) : Prop :=
  cond (decide (x7 < 6)) (letK (IntKind.i64.wrap (300000 + x7)) fun n6 =>
  HQC gnomonlaw03_mark.id #[.int .i64 x1, .int .i64 n6] h fun v7 =>
  gInt .u64 v7 fun x_8 =>
  boxK h 27 [.int .u64 x_8] fun q9 h10 =>
  apK h10 27 T27 a6 l6 c6 (.slice (some q9) 1 1) fun a_11 l_11 c_11 h11 =>
  letK (IntKind.i64.wrap (x7 + 1)) fun n12 =>
  N4 a0 l0 c0 x1 a_11 l_11 c_11 n12 h11) (D2.t R a0 l0 c0 a6 l6 c6 h)
def D5.g (R : Rt) (N4 : Option Addr → Nat → Nat → Int → Option Addr → Nat → Nat → Int → Hp → Prop) (fr : Fr) (h : Hp) : Prop := gSlice (fr 0) fun a0 l0 c0 => gInt .i64 (fr 1) fun x1 => gSlice (fr 6) fun a6 l6 c6 => gInt .i64 (fr 7) fun x7 => D5.t R N4 a0 l0 c0 x1 a6 l6 c6 x7 h
theorem D5.ok (R : Rt) (N4 : Option Addr → Nat → Nat → Int → Option Addr → Nat → Nat → Int → Hp → Prop) (fr : Fr) (h : Hp) (g : D5.g R N4 fr h) : den prog E (cAt C [true, true, true, false, true, false, false]) (Ex.then (L4.g N4) (Ex.inBlock 0 (Ex.then (D2.g R) (retQ E [.tmp 4, .tmp 5] R)))) fr h := by
  obtain ⟨a0, l0, c0, e0, g⟩ := gSlice_elim g
  obtain ⟨x1, e1, g⟩ := gInt_elim g
  obtain ⟨a6, l6, c6, e6, g⟩ := gSlice_elim g
  obtain ⟨x7, e7, g⟩ := gInt_elim g
  exact den_enter [(0, .slice a0 l0 c0), (1, .int .i64 x1), (6, .slice a6 l6 c6), (7, .int .i64 x7)] ⟨e0, e1, e6, e7, trivial⟩ (by kernel_rfl) g
def L4.t (R : Rt) : Nat → Option Addr → Nat → Nat → Int → Option Addr → Nat → Nat → Int → Hp → Prop
  | 0 => fun _ _ _ _ _ _ _ _ _ => False
  | n + 1 => fun a0 l0 c0 x1 a6 l6 c6 x7 h => D5.t R (L4.t R n) a0 l0 c0 x1 a6 l6 c6 x7 h
theorem L4.ok (R : Rt) (fr : Fr) (h : Hp) (g : L4.g (fun a0 l0 c0 x1 a6 l6 c6 x7 h => ∃ n, L4.t R n a0 l0 c0 x1 a6 l6 c6 x7 h) fr h) : den prog E (cAt C [true, true, true, false, true, false]) (Ex.inBlock 0 (Ex.then (D2.g R) (retQ E [.tmp 4, .tmp 5] R))) fr h := by
  obtain ⟨a0, l0, c0, e0, g⟩ := gSlice_elim g
  obtain ⟨x1, e1, g⟩ := gInt_elim g
  obtain ⟨a6, l6, c6, e6, g⟩ := gSlice_elim g
  obtain ⟨x7, e7, g⟩ := gInt_elim g
  obtain ⟨n, g⟩ := g
  refine loop_ok (fun n => L4.g (L4.t R n)) (b := (cAt C [true, true, true, false, true, false, false])) (by kernel_rfl) (fun fr h g => ?_) (fun n => D5.ok R (L4.t R n)) n fr h (gSlice_intro e0 (gInt_intro e1 (gSlice_intro e6 (gInt_intro e7 (g)))))
  obtain ⟨a0, l0, c0, e0, g⟩ := gSlice_elim g
  obtain ⟨x1, e1, g⟩ := gInt_elim g
  obtain ⟨a6, l6, c6, e6, g⟩ := gSlice_elim g
  obtain ⟨x7, e7, g⟩ := gInt_elim g
  exact g
theorem B6.ok (R : Rt) (fr : Fr) (h : Hp) (g : L4.g (fun a0 l0 c0 x1 a6 l6 c6 x7 h => ∃ n, L4.t R n a0 l0 c0 x1 a6 l6 c6 x7 h) fr h) : den prog E (cAt C [true, true, true, false, true]) (Ex.then (D2.g R) (retQ E [.tmp 4, .tmp 5] R)) fr h :=
  den_block (by kernel_rfl) (L4.ok R fr h g)
def D3.t (R : Rt) (a0 : Option Addr) (l0 : Nat) (c0 : Nat) (x1 : Int) (a6 : Option Addr) (l6 : Nat) (c6 : Nat) (h : Hp) : Prop :=
  (∃ n, L4.t R n a0 l0 c0 x1 a6 l6 c6 0 h)
def D3.g (R : Rt) (fr : Fr) (h : Hp) : Prop := gSlice (fr 0) fun a0 l0 c0 => gInt .i64 (fr 1) fun x1 => gSlice (fr 6) fun a6 l6 c6 => D3.t R a0 l0 c0 x1 a6 l6 c6 h
theorem D3.ok (R : Rt) (fr : Fr) (h : Hp) (g : D3.g R fr h) : den prog E (cAt C [true, true, true, false]) (Ex.then (D2.g R) (retQ E [.tmp 4, .tmp 5] R)) fr h := by
  obtain ⟨a0, l0, c0, e0, g⟩ := gSlice_elim g
  obtain ⟨x1, e1, g⟩ := gInt_elim g
  obtain ⟨a6, l6, c6, e6, g⟩ := gSlice_elim g
  exact den_cut 1 (r := (cAt C [true, true, true, false, true])) (by kernel_rfl) (B6.ok R) (den_enter [(0, .slice a0 l0 c0), (1, .int .i64 x1), (6, .slice a6 l6 c6)] ⟨e0, e1, e6, trivial⟩ (by kernel_rfl) g)
theorem W7.ok (R : Rt) (fr : Fr) (h : Hp) (g : D3.g R fr h) : den prog E (cAt C [true, true, true]) (retQ E [.tmp 4, .tmp 5] R) fr h :=
  den_then (by kernel_rfl) (D2.ok R) (D3.ok R fr h g)
def D1.t (R : Rt) (a0 : Option Addr) (l0 : Nat) (c0 : Nat) (x1 : Int) (h : Hp) : Prop :=
  letK (IntKind.i64.wrap ((((l0 : Nat) : Int)) + 6)) fun n1 =>
  mkK h 27 T27 0 n1 fun q2 h3 =>
  apK h3 27 T27 (some q2) ((0 : Int).toNat) n1.toNat (.slice a0 l0 c0) fun a_4 l_4 c_4 h4 =>
  D3.t R a0 l0 c0 x1 a_4 l_4 c_4 h4
def D1.g (R : Rt) (fr : Fr) (h : Hp) : Prop := gSlice (fr 0) fun a0 l0 c0 => gInt .i64 (fr 1) fun x1 => D1.t R a0 l0 c0 x1 h
theorem D1.ok (R : Rt) (fr : Fr) (h : Hp) (g : D1.g R fr h) : den prog E C (retQ E [.tmp 4, .tmp 5] R) fr h := by
  obtain ⟨a0, l0, c0, e0, g⟩ := gSlice_elim g
  obtain ⟨x1, e1, g⟩ := gInt_elim g
  exact den_cut 3 (r := (cAt C [true, true, true])) (by kernel_rfl) (W7.ok R) (den_enter [(0, .slice a0 l0 c0), (1, .int .i64 x1)] ⟨e0, e1, trivial⟩ (by kernel_rfl) g)
def t (a0 : Option Addr) (l0 : Nat) (c0 : Nat) (x1 : Int) (h : Hp) (R : Rt) : Prop := D1.t R a0 l0 c0 x1 h
theorem ok {a0 : Option Addr} {l0 : Nat} {c0 : Nat} {x1 : Int} {h : Hp} {R : Rt} (g : t a0 l0 c0 x1 h R) : HC id #[.slice a0 l0 c0, .int .i64 x1] h R :=
  calls_of_den' envOk (c := C) (rs := [.tmp 4, .tmp 5]) Try.func20 (by kernel_rfl) (by kernel_rfl) (by kernel_rfl) (args := [.slice a0 l0 c0, .int .i64 x1]) (by kernel_rfl) (D1.ok R _ h (gSlice_intro rfl (gInt_intro rfl (g))))
end gnomonlaw03_roomy

namespace gnomonlaw03_kept
noncomputable def C : Code := bodyOf Try.f21
def D2.t (R : Rt) (a0 : Option Addr) (l0 : Nat) (c0 : Nat) (a1 : Option Addr) (l1 : Nat) (c1 : Nat) (h : Hp) : Prop :=
  letK (IntKind.i64.wrap ((((l0 : Nat) : Int)) + 6)) fun n1 => R (.bool ((((l1 : Nat) : Int)) == n1)) h
def D2.g (R : Rt) (fr : Fr) (h : Hp) : Prop := gSlice (fr 0) fun a0 l0 c0 => gSlice (fr 1) fun a1 l1 c1 => D2.t R a0 l0 c0 a1 l1 c1 h
theorem D2.ok (R : Rt) (fr : Fr) (h : Hp) (g : D2.g R fr h) : den prog E (cAt C [true, true]) (retQ E [.tmp 6] R) fr h := by
  obtain ⟨a0, l0, c0, e0, g⟩ := gSlice_elim g
  obtain ⟨a1, l1, c1, e1, g⟩ := gSlice_elim g
  exact den_enter [(0, .slice a0 l0 c0), (1, .slice a1 l1 c1)] ⟨e0, e1, trivial⟩ (by kernel_rfl) g
def L4.g (N : Option Addr → Nat → Nat → Option Addr → Nat → Nat → Int → Int → Hp → Prop) (fr : Fr) (h : Hp) : Prop := gSlice (fr 0) fun a0 l0 c0 => gSlice (fr 1) fun a1 l1 c1 => gInt .i64 (fr 2) fun x2 => gInt .i64 (fr 7) fun x7 => N a0 l0 c0 a1 l1 c1 x2 x7 h
def D5.t (R : Rt) (N4 : Option Addr → Nat → Nat → Option Addr → Nat → Nat → Int → Int → Hp → Prop) (a0 : Option Addr) (l0 : Nat) (c0 : Nat) (a1 : Option Addr) (l1 : Nat) (c1 : Nat) (x2 : Int) (x7 : Int) (h : Hp) : Prop :=
  cond (decide (x7 < (((l1 : Nat) : Int)))) (cond (decide (x7 < (((l0 : Nat) : Int)))) (idxK a1 l1 x7 1 fun q2 =>
  ldK h q2 fun v3 =>
  gInt .u64 v3 fun x_4 =>
  idxK a0 l0 x7 1 fun q5 =>
  ldK h q5 fun v6 =>
  gInt .u64 v6 fun x_7 =>
  cond (x_4 != x_7) (R (.bool false) h) (cond (decide (x7 ≥ (((l0 : Nat) : Int)))) (idxK a1 l1 x7 1 fun q8 =>
  ldK h q8 fun v9 =>
  gInt .u64 v9 fun x_10 =>
  letK (IntKind.i64.wrap (300000 + x7)) fun n11 =>
  letK (IntKind.i64.wrap (n11 - (((l0 : Nat) : Int)))) fun n12 =>
  HQC gnomonlaw03_mark.id #[.int .i64 x2, .int .i64 n12] h fun v13 =>
  gInt .u64 v13 fun x_14 =>
  cond (x_10 != x_14) (R (.bool false) h) (letK (IntKind.i64.wrap (x7 + 1)) fun n15 =>
  N4 a0 l0 c0 a1 l1 c1 x2 n15 h)) (letK (IntKind.i64.wrap (x7 + 1)) fun n16 =>
  N4 a0 l0 c0 a1 l1 c1 x2 n16 h))) (cond (decide (x7 ≥ (((l0 : Nat) : Int)))) (idxK a1 l1 x7 1 fun q17 =>
  ldK h q17 fun v18 =>
  gInt .u64 v18 fun x_19 =>
  letK (IntKind.i64.wrap (300000 + x7)) fun n20 =>
  letK (IntKind.i64.wrap (n20 - (((l0 : Nat) : Int)))) fun n21 =>
  HQC gnomonlaw03_mark.id #[.int .i64 x2, .int .i64 n21] h fun v22 =>
  gInt .u64 v22 fun x_23 =>
  cond (x_19 != x_23) (R (.bool false) h) (letK (IntKind.i64.wrap (x7 + 1)) fun n24 =>
  N4 a0 l0 c0 a1 l1 c1 x2 n24 h)) (letK (IntKind.i64.wrap (x7 + 1)) fun n25 =>
  N4 a0 l0 c0 a1 l1 c1 x2 n25 h))) (D2.t R a0 l0 c0 a1 l1 c1 h)
def D5.g (R : Rt) (N4 : Option Addr → Nat → Nat → Option Addr → Nat → Nat → Int → Int → Hp → Prop) (fr : Fr) (h : Hp) : Prop := gSlice (fr 0) fun a0 l0 c0 => gSlice (fr 1) fun a1 l1 c1 => gInt .i64 (fr 2) fun x2 => gInt .i64 (fr 7) fun x7 => D5.t R N4 a0 l0 c0 a1 l1 c1 x2 x7 h
theorem D5.ok (R : Rt) (N4 : Option Addr → Nat → Nat → Option Addr → Nat → Nat → Int → Int → Hp → Prop) (fr : Fr) (h : Hp) (g : D5.g R N4 fr h) : den prog E (cAt C [true, false, true, false, false]) (Ex.then (L4.g N4) (Ex.inBlock 0 (Ex.then (D2.g R) (retQ E [.tmp 6] R)))) fr h := by
  obtain ⟨a0, l0, c0, e0, g⟩ := gSlice_elim g
  obtain ⟨a1, l1, c1, e1, g⟩ := gSlice_elim g
  obtain ⟨x2, e2, g⟩ := gInt_elim g
  obtain ⟨x7, e7, g⟩ := gInt_elim g
  exact den_enter [(0, .slice a0 l0 c0), (1, .slice a1 l1 c1), (2, .int .i64 x2), (7, .int .i64 x7)] ⟨e0, e1, e2, e7, trivial⟩ (by kernel_rfl) g
def L4.t (R : Rt) : Nat → Option Addr → Nat → Nat → Option Addr → Nat → Nat → Int → Int → Hp → Prop
  | 0 => fun _ _ _ _ _ _ _ _ _ => False
  | n + 1 => fun a0 l0 c0 a1 l1 c1 x2 x7 h => D5.t R (L4.t R n) a0 l0 c0 a1 l1 c1 x2 x7 h
theorem L4.ok (R : Rt) (fr : Fr) (h : Hp) (g : L4.g (fun a0 l0 c0 a1 l1 c1 x2 x7 h => ∃ n, L4.t R n a0 l0 c0 a1 l1 c1 x2 x7 h) fr h) : den prog E (cAt C [true, false, true, false]) (Ex.inBlock 0 (Ex.then (D2.g R) (retQ E [.tmp 6] R))) fr h := by
  obtain ⟨a0, l0, c0, e0, g⟩ := gSlice_elim g
  obtain ⟨a1, l1, c1, e1, g⟩ := gSlice_elim g
  obtain ⟨x2, e2, g⟩ := gInt_elim g
  obtain ⟨x7, e7, g⟩ := gInt_elim g
  obtain ⟨n, g⟩ := g
  refine loop_ok (fun n => L4.g (L4.t R n)) (b := (cAt C [true, false, true, false, false])) (by kernel_rfl) (fun fr h g => ?_) (fun n => D5.ok R (L4.t R n)) n fr h (gSlice_intro e0 (gSlice_intro e1 (gInt_intro e2 (gInt_intro e7 (g)))))
  obtain ⟨a0, l0, c0, e0, g⟩ := gSlice_elim g
  obtain ⟨a1, l1, c1, e1, g⟩ := gSlice_elim g
  obtain ⟨x2, e2, g⟩ := gInt_elim g
  obtain ⟨x7, e7, g⟩ := gInt_elim g
  exact g
theorem B6.ok (R : Rt) (fr : Fr) (h : Hp) (g : L4.g (fun a0 l0 c0 a1 l1 c1 x2 x7 h => ∃ n, L4.t R n a0 l0 c0 a1 l1 c1 x2 x7 h) fr h) : den prog E (cAt C [true, false, true]) (Ex.then (D2.g R) (retQ E [.tmp 6] R)) fr h :=
  den_block (by kernel_rfl) (L4.ok R fr h g)
def D3.t (R : Rt) (a0 : Option Addr) (l0 : Nat) (c0 : Nat) (a1 : Option Addr) (l1 : Nat) (c1 : Nat) (x2 : Int) (h : Hp) : Prop :=
  (∃ n, L4.t R n a0 l0 c0 a1 l1 c1 x2 0 h)
def D3.g (R : Rt) (fr : Fr) (h : Hp) : Prop := gSlice (fr 0) fun a0 l0 c0 => gSlice (fr 1) fun a1 l1 c1 => gInt .i64 (fr 2) fun x2 => D3.t R a0 l0 c0 a1 l1 c1 x2 h
theorem D3.ok (R : Rt) (fr : Fr) (h : Hp) (g : D3.g R fr h) : den prog E (cAt C [true, false]) (Ex.then (D2.g R) (retQ E [.tmp 6] R)) fr h := by
  obtain ⟨a0, l0, c0, e0, g⟩ := gSlice_elim g
  obtain ⟨a1, l1, c1, e1, g⟩ := gSlice_elim g
  obtain ⟨x2, e2, g⟩ := gInt_elim g
  exact den_cut 1 (r := (cAt C [true, false, true])) (by kernel_rfl) (B6.ok R) (den_enter [(0, .slice a0 l0 c0), (1, .slice a1 l1 c1), (2, .int .i64 x2)] ⟨e0, e1, e2, trivial⟩ (by kernel_rfl) g)
theorem W7.ok (R : Rt) (fr : Fr) (h : Hp) (g : D3.g R fr h) : den prog E (cAt C [true]) (retQ E [.tmp 6] R) fr h :=
  den_then (by kernel_rfl) (D2.ok R) (D3.ok R fr h g)
def D1.t (R : Rt) (a0 : Option Addr) (l0 : Nat) (c0 : Nat) (a1 : Option Addr) (l1 : Nat) (c1 : Nat) (x2 : Int) (h : Hp) : Prop :=
  D3.t R a0 l0 c0 a1 l1 c1 x2 h
def D1.g (R : Rt) (fr : Fr) (h : Hp) : Prop := gSlice (fr 0) fun a0 l0 c0 => gSlice (fr 1) fun a1 l1 c1 => gInt .i64 (fr 2) fun x2 => D1.t R a0 l0 c0 a1 l1 c1 x2 h
theorem D1.ok (R : Rt) (fr : Fr) (h : Hp) (g : D1.g R fr h) : den prog E C (retQ E [.tmp 6] R) fr h := by
  obtain ⟨a0, l0, c0, e0, g⟩ := gSlice_elim g
  obtain ⟨a1, l1, c1, e1, g⟩ := gSlice_elim g
  obtain ⟨x2, e2, g⟩ := gInt_elim g
  exact den_cut 1 (r := (cAt C [true])) (by kernel_rfl) (W7.ok R) (den_enter [(0, .slice a0 l0 c0), (1, .slice a1 l1 c1), (2, .int .i64 x2)] ⟨e0, e1, e2, trivial⟩ (by kernel_rfl) g)
def t (a0 : Option Addr) (l0 : Nat) (c0 : Nat) (a1 : Option Addr) (l1 : Nat) (c1 : Nat) (x2 : Int) (h : Hp) (R : Rt) : Prop := D1.t R a0 l0 c0 a1 l1 c1 x2 h
theorem ok {a0 : Option Addr} {l0 : Nat} {c0 : Nat} {a1 : Option Addr} {l1 : Nat} {c1 : Nat} {x2 : Int} {h : Hp} {R : Rt} (g : t a0 l0 c0 a1 l1 c1 x2 h R) : HC id #[.slice a0 l0 c0, .slice a1 l1 c1, .int .i64 x2] h R :=
  calls_of_den' envOk (c := C) (rs := [.tmp 6]) Try.func21 (by kernel_rfl) (by kernel_rfl) (by kernel_rfl) (args := [.slice a0 l0 c0, .slice a1 l1 c1, .int .i64 x2]) (by kernel_rfl) (D1.ok R _ h (gSlice_intro rfl (gSlice_intro rfl (gInt_intro rfl (g)))))
end gnomonlaw03_kept

namespace gnomonlaw03_mark
noncomputable def C : Code := bodyOf Try.f22
def D1.t (R : Rt) (x0 : Int) (x1 : Int) (h : Hp) : Prop :=
  letK (IntKind.i64.wrap (x0 + 1)) fun n1 =>
  letK (IntKind.u64.wrap n1) fun n2 =>
  letK (IntKind.u64.wrap (n2 * 1000003)) fun n3 =>
  letK (IntKind.u64.wrap x1) fun n4 =>
  letK (IntKind.u64.wrap (n4 * 7919)) fun n5 =>
  letK (IntKind.u64.wrap (n3 + n5)) fun n6 =>
  letK (IntKind.u64.wrap (n6 + 6485183463413514240)) fun n7 =>
  R (.int .u64 n7) h
def D1.g (R : Rt) (fr : Fr) (h : Hp) : Prop := gInt .i64 (fr 0) fun x0 => gInt .i64 (fr 1) fun x1 => D1.t R x0 x1 h
theorem D1.ok (R : Rt) (fr : Fr) (h : Hp) (g : D1.g R fr h) : den prog E C (retQ E [.tmp 4] R) fr h := by
  obtain ⟨x0, e0, g⟩ := gInt_elim g
  obtain ⟨x1, e1, g⟩ := gInt_elim g
  exact den_enter [(0, .int .i64 x0), (1, .int .i64 x1)] ⟨e0, e1, trivial⟩ (by kernel_rfl) g
def t (x0 : Int) (x1 : Int) (h : Hp) (R : Rt) : Prop := D1.t R x0 x1 h
theorem ok {x0 : Int} {x1 : Int} {h : Hp} {R : Rt} (g : t x0 x1 h R) : HC id #[.int .i64 x0, .int .i64 x1] h R :=
  calls_of_den' envOk (c := C) (rs := [.tmp 4]) Try.func22 (by kernel_rfl) (by kernel_rfl) (by kernel_rfl) (args := [.int .i64 x0, .int .i64 x1]) (by kernel_rfl) (D1.ok R _ h (gInt_intro rfl (gInt_intro rfl (g))))
end gnomonlaw03_mark

namespace gnomonlaw03_apart
noncomputable def C : Code := bodyOf Try.f23
def D4.t (R : Rt)  (h : Hp) : Prop :=
  R (.bool true) h
def D4.g (R : Rt) (fr : Fr) (h : Hp) : Prop := D4.t R  h
theorem D4.ok (R : Rt) (fr : Fr) (h : Hp) (g : D4.g R fr h) : den prog E (cAt C [true, true, true, true, true, true, true, true]) (retQ E [.tmp 2] R) fr h := by
  exact den_enter [] trivial (by kernel_rfl) g
def L6.g (N : Option Addr → Nat → Nat → Option Addr → Nat → Nat → Int → Hp → Prop) (fr : Fr) (h : Hp) : Prop := gSlice (fr 0) fun a0 l0 c0 => gSlice (fr 5) fun a5 l5 c5 => gInt .i64 (fr 15) fun x15 => N a0 l0 c0 a5 l5 c5 x15 h
def D8.t (R : Rt) (N6 : Option Addr → Nat → Nat → Option Addr → Nat → Nat → Int → Hp → Prop) (a0 : Option Addr) (l0 : Nat) (c0 : Nat) (a5 : Option Addr) (l5 : Nat) (c5 : Nat) (x15 : Int) (h : Hp) : Prop :=
  letK (IntKind.i64.wrap (x15 + 1)) fun n5 => N6 a0 l0 c0 a5 l5 c5 n5 h
def D8.g (R : Rt) (N6 : Option Addr → Nat → Nat → Option Addr → Nat → Nat → Int → Hp → Prop) (fr : Fr) (h : Hp) : Prop := gSlice (fr 0) fun a0 l0 c0 => gSlice (fr 5) fun a5 l5 c5 => gInt .i64 (fr 15) fun x15 => D8.t R N6 a0 l0 c0 a5 l5 c5 x15 h
theorem D8.ok (R : Rt) (N6 : Option Addr → Nat → Nat → Option Addr → Nat → Nat → Int → Hp → Prop) (fr : Fr) (h : Hp) (g : D8.g R N6 fr h) : den prog E (cAt C [true, true, true, true, true, true, true, false, true, false, false, true, true]) (Ex.then (L6.g N6) (Ex.inBlock 16 (Ex.then (D4.g R) (retQ E [.tmp 2] R)))) fr h := by
  obtain ⟨a0, l0, c0, e0, g⟩ := gSlice_elim g
  obtain ⟨a5, l5, c5, e5, g⟩ := gSlice_elim g
  obtain ⟨x15, e15, g⟩ := gInt_elim g
  exact den_enter [(0, .slice a0 l0 c0), (5, .slice a5 l5 c5), (15, .int .i64 x15)] ⟨e0, e5, e15, trivial⟩ (by kernel_rfl) g
def L10.g (N : Option Addr → Nat → Nat → Option Addr → Nat → Nat → Int → Int → Int → Hp → Prop) (fr : Fr) (h : Hp) : Prop := gSlice (fr 0) fun a0 l0 c0 => gSlice (fr 5) fun a5 l5 c5 => gInt .i64 (fr 15) fun x15 => gInt .i64 (fr 16) fun x16 => gInt .i64 (fr 17) fun x17 => N a0 l0 c0 a5 l5 c5 x15 x16 x17 h
def D11.t (R : Rt) (N6 : Option Addr → Nat → Nat → Option Addr → Nat → Nat → Int → Hp → Prop) (N10 : Option Addr → Nat → Nat → Option Addr → Nat → Nat → Int → Int → Int → Hp → Prop) (a0 : Option Addr) (l0 : Nat) (c0 : Nat) (a5 : Option Addr) (l5 : Nat) (c5 : Nat) (x15 : Int) (x16 : Int) (x17 : Int) (h : Hp) : Prop :=
  letK (IntKind.i64.wrap (x16 + 64)) fun n9 =>
  cond (decide (x17 < n9)) (cond (decide (x17 < x16)) (idxK a0 l0 x15 1 fun q10 =>
  ldK h q10 fun v11 =>
  gSlice v11 fun a_12 l_12 c_12 =>
  idxK a_12 l_12 x17 1 fun q13 =>
  ldK h q13 fun v14 =>
  gInt .u64 v14 fun x_15 =>
  HQC gnomonlaw03_mark.id #[.int .i64 x15, .int .i64 x17] h fun v16 =>
  gInt .u64 v16 fun x_17 =>
  cond (x_15 != x_17) (R (.bool false) h) (cond (decide (x17 ≥ x16)) (idxK a5 l5 x15 1 fun q18 =>
  ldK h q18 fun v19 =>
  gSlice v19 fun a_20 l_20 c_20 =>
  idxK a_20 l_20 x17 1 fun q21 =>
  ldK h q21 fun v22 =>
  gInt .u64 v22 fun x_23 =>
  letK (IntKind.i64.wrap (200000 + x17)) fun n24 =>
  letK (IntKind.i64.wrap (n24 - x16)) fun n25 =>
  HQC gnomonlaw03_mark.id #[.int .i64 x15, .int .i64 n25] h fun v26 =>
  gInt .u64 v26 fun x_27 =>
  cond (x_23 != x_27) (R (.bool false) h) (letK (IntKind.i64.wrap (x17 + 1)) fun n28 =>
  N10 a0 l0 c0 a5 l5 c5 x15 x16 n28 h)) (letK (IntKind.i64.wrap (x17 + 1)) fun n29 =>
  N10 a0 l0 c0 a5 l5 c5 x15 x16 n29 h))) (cond (decide (x17 ≥ x16)) (idxK a5 l5 x15 1 fun q30 =>
  ldK h q30 fun v31 =>
  gSlice v31 fun a_32 l_32 c_32 =>
  idxK a_32 l_32 x17 1 fun q33 =>
  ldK h q33 fun v34 =>
  gInt .u64 v34 fun x_35 =>
  letK (IntKind.i64.wrap (200000 + x17)) fun n36 =>
  letK (IntKind.i64.wrap (n36 - x16)) fun n37 =>
  HQC gnomonlaw03_mark.id #[.int .i64 x15, .int .i64 n37] h fun v38 =>
  gInt .u64 v38 fun x_39 =>
  cond (x_35 != x_39) (R (.bool false) h) (letK (IntKind.i64.wrap (x17 + 1)) fun n40 =>
  N10 a0 l0 c0 a5 l5 c5 x15 x16 n40 h)) (letK (IntKind.i64.wrap (x17 + 1)) fun n41 =>
  N10 a0 l0 c0 a5 l5 c5 x15 x16 n41 h))) (D8.t R N6 a0 l0 c0 a5 l5 c5 x15 h)
def D11.g (R : Rt) (N6 : Option Addr → Nat → Nat → Option Addr → Nat → Nat → Int → Hp → Prop) (N10 : Option Addr → Nat → Nat → Option Addr → Nat → Nat → Int → Int → Int → Hp → Prop) (fr : Fr) (h : Hp) : Prop := gSlice (fr 0) fun a0 l0 c0 => gSlice (fr 5) fun a5 l5 c5 => gInt .i64 (fr 15) fun x15 => gInt .i64 (fr 16) fun x16 => gInt .i64 (fr 17) fun x17 => D11.t R N6 N10 a0 l0 c0 a5 l5 c5 x15 x16 x17 h
theorem D11.ok (R : Rt) (N6 : Option Addr → Nat → Nat → Option Addr → Nat → Nat → Int → Hp → Prop) (N10 : Option Addr → Nat → Nat → Option Addr → Nat → Nat → Int → Int → Int → Hp → Prop) (fr : Fr) (h : Hp) (g : D11.g R N6 N10 fr h) : den prog E (cAt C [true, true, true, true, true, true, true, false, true, false, false, true, false, false, true, true, false, false]) (Ex.then (L10.g N10) (Ex.inBlock 18 (Ex.inBlock 17 (Ex.then (D8.g R N6) (Ex.then (L6.g N6) (Ex.inBlock 16 (Ex.then (D4.g R) (retQ E [.tmp 2] R)))))))) fr h := by
  obtain ⟨a0, l0, c0, e0, g⟩ := gSlice_elim g
  obtain ⟨a5, l5, c5, e5, g⟩ := gSlice_elim g
  obtain ⟨x15, e15, g⟩ := gInt_elim g
  obtain ⟨x16, e16, g⟩ := gInt_elim g
  obtain ⟨x17, e17, g⟩ := gInt_elim g
  exact den_enter [(0, .slice a0 l0 c0), (5, .slice a5 l5 c5), (15, .int .i64 x15), (16, .int .i64 x16), (17, .int .i64 x17)] ⟨e0, e5, e15, e16, e17, trivial⟩ (by kernel_rfl) g
def L10.t (R : Rt) (N6 : Option Addr → Nat → Nat → Option Addr → Nat → Nat → Int → Hp → Prop) : Nat → Option Addr → Nat → Nat → Option Addr → Nat → Nat → Int → Int → Int → Hp → Prop
  | 0 => fun _ _ _ _ _ _ _ _ _ _ => False
  | n + 1 => fun a0 l0 c0 a5 l5 c5 x15 x16 x17 h => D11.t R N6 (L10.t R N6 n) a0 l0 c0 a5 l5 c5 x15 x16 x17 h
theorem L10.ok (R : Rt) (N6 : Option Addr → Nat → Nat → Option Addr → Nat → Nat → Int → Hp → Prop) (fr : Fr) (h : Hp) (g : L10.g (fun a0 l0 c0 a5 l5 c5 x15 x16 x17 h => ∃ n, L10.t R N6 n a0 l0 c0 a5 l5 c5 x15 x16 x17 h) fr h) : den prog E (cAt C [true, true, true, true, true, true, true, false, true, false, false, true, false, false, true, true, false]) (Ex.inBlock 18 (Ex.inBlock 17 (Ex.then (D8.g R N6) (Ex.then (L6.g N6) (Ex.inBlock 16 (Ex.then (D4.g R) (retQ E [.tmp 2] R))))))) fr h := by
  obtain ⟨a0, l0, c0, e0, g⟩ := gSlice_elim g
  obtain ⟨a5, l5, c5, e5, g⟩ := gSlice_elim g
  obtain ⟨x15, e15, g⟩ := gInt_elim g
  obtain ⟨x16, e16, g⟩ := gInt_elim g
  obtain ⟨x17, e17, g⟩ := gInt_elim g
  obtain ⟨n, g⟩ := g
  refine loop_ok (fun n => L10.g (L10.t R N6 n)) (b := (cAt C [true, true, true, true, true, true, true, false, true, false, false, true, false, false, true, true, false, false])) (by kernel_rfl) (fun fr h g => ?_) (fun n => D11.ok R N6 (L10.t R N6 n)) n fr h (gSlice_intro e0 (gSlice_intro e5 (gInt_intro e15 (gInt_intro e16 (gInt_intro e17 (g))))))
  obtain ⟨a0, l0, c0, e0, g⟩ := gSlice_elim g
  obtain ⟨a5, l5, c5, e5, g⟩ := gSlice_elim g
  obtain ⟨x15, e15, g⟩ := gInt_elim g
  obtain ⟨x16, e16, g⟩ := gInt_elim g
  obtain ⟨x17, e17, g⟩ := gInt_elim g
  exact g
theorem B12.ok (R : Rt) (N6 : Option Addr → Nat → Nat → Option Addr → Nat → Nat → Int → Hp → Prop) (fr : Fr) (h : Hp) (g : L10.g (fun a0 l0 c0 a5 l5 c5 x15 x16 x17 h => ∃ n, L10.t R N6 n a0 l0 c0 a5 l5 c5 x15 x16 x17 h) fr h) : den prog E (cAt C [true, true, true, true, true, true, true, false, true, false, false, true, false, false, true, true]) (Ex.inBlock 17 (Ex.then (D8.g R N6) (Ex.then (L6.g N6) (Ex.inBlock 16 (Ex.then (D4.g R) (retQ E [.tmp 2] R)))))) fr h :=
  den_block (by kernel_rfl) (L10.ok R N6 fr h g)
def D9.t (R : Rt) (N6 : Option Addr → Nat → Nat → Option Addr → Nat → Nat → Int → Hp → Prop) (a0 : Option Addr) (l0 : Nat) (c0 : Nat) (a5 : Option Addr) (l5 : Nat) (c5 : Nat) (x15 : Int) (h : Hp) : Prop :=
  idxK a0 l0 x15 1 fun q6 =>
  ldK h q6 fun v7 =>
  gSlice v7 fun a_8 l_8 c_8 =>
  (∃ n, L10.t R N6 n a0 l0 c0 a5 l5 c5 x15 (((l_8 : Nat) : Int)) 0 h)
def D9.g (R : Rt) (N6 : Option Addr → Nat → Nat → Option Addr → Nat → Nat → Int → Hp → Prop) (fr : Fr) (h : Hp) : Prop := gSlice (fr 0) fun a0 l0 c0 => gSlice (fr 5) fun a5 l5 c5 => gInt .i64 (fr 15) fun x15 => D9.t R N6 a0 l0 c0 a5 l5 c5 x15 h
theorem D9.ok (R : Rt) (N6 : Option Addr → Nat → Nat → Option Addr → Nat → Nat → Int → Hp → Prop) (fr : Fr) (h : Hp) (g : D9.g R N6 fr h) : den prog E (cAt C [true, true, true, true, true, true, true, false, true, false, false, true, false, false]) (Ex.inBlock 17 (Ex.then (D8.g R N6) (Ex.then (L6.g N6) (Ex.inBlock 16 (Ex.then (D4.g R) (retQ E [.tmp 2] R)))))) fr h := by
  obtain ⟨a0, l0, c0, e0, g⟩ := gSlice_elim g
  obtain ⟨a5, l5, c5, e5, g⟩ := gSlice_elim g
  obtain ⟨x15, e15, g⟩ := gInt_elim g
  exact den_cut 2 (r := (cAt C [true, true, true, true, true, true, true, false, true, false, false, true, false, false, true, true])) (by kernel_rfl) (B12.ok R N6) (den_enter [(0, .slice a0 l0 c0), (5, .slice a5 l5 c5), (15, .int .i64 x15)] ⟨e0, e5, e15, trivial⟩ (by kernel_rfl) g)
theorem B13.ok (R : Rt) (N6 : Option Addr → Nat → Nat → Option Addr → Nat → Nat → Int → Hp → Prop) (fr : Fr) (h : Hp) (g : D9.g R N6 fr h) : den prog E (cAt C [true, true, true, true, true, true, true, false, true, false, false, true, false]) (Ex.then (D8.g R N6) (Ex.then (L6.g N6) (Ex.inBlock 16 (Ex.then (D4.g R) (retQ E [.tmp 2] R))))) fr h :=
  den_block (by kernel_rfl) (D9.ok R N6 fr h g)
theorem W14.ok (R : Rt) (N6 : Option Addr → Nat → Nat → Option Addr → Nat → Nat → Int → Hp → Prop) (fr : Fr) (h : Hp) (g : D9.g R N6 fr h) : den prog E (cAt C [true, true, true, true, true, true, true, false, true, false, false, true]) (Ex.then (L6.g N6) (Ex.inBlock 16 (Ex.then (D4.g R) (retQ E [.tmp 2] R)))) fr h :=
  den_then (by kernel_rfl) (D8.ok R N6) (B13.ok R N6 fr h g)
def D7.t (R : Rt) (N6 : Option Addr → Nat → Nat → Option Addr → Nat → Nat → Int → Hp → Prop) (a0 : Option Addr) (l0 : Nat) (c0 : Nat) (a5 : Option Addr) (l5 : Nat) (c5 : Nat) (x15 : Int) (h : Hp) : Prop :=
  cond (decide (x15 < (((l0 : Nat) : Int)))) (D9.t R N6 a0 l0 c0 a5 l5 c5 x15 h) (D4.t R h)
def D7.g (R : Rt) (N6 : Option Addr → Nat → Nat → Option Addr → Nat → Nat → Int → Hp → Prop) (fr : Fr) (h : Hp) : Prop := gSlice (fr 0) fun a0 l0 c0 => gSlice (fr 5) fun a5 l5 c5 => gInt .i64 (fr 15) fun x15 => D7.t R N6 a0 l0 c0 a5 l5 c5 x15 h
theorem D7.ok (R : Rt) (N6 : Option Addr → Nat → Nat → Option Addr → Nat → Nat → Int → Hp → Prop) (fr : Fr) (h : Hp) (g : D7.g R N6 fr h) : den prog E (cAt C [true, true, true, true, true, true, true, false, true, false, false]) (Ex.then (L6.g N6) (Ex.inBlock 16 (Ex.then (D4.g R) (retQ E [.tmp 2] R)))) fr h := by
  obtain ⟨a0, l0, c0, e0, g⟩ := gSlice_elim g
  obtain ⟨a5, l5, c5, e5, g⟩ := gSlice_elim g
  obtain ⟨x15, e15, g⟩ := gInt_elim g
  exact den_cut 1 (r := (cAt C [true, true, true, true, true, true, true, false, true, false, false, true])) (by kernel_rfl) (W14.ok R N6) (den_enter [(0, .slice a0 l0 c0), (5, .slice a5 l5 c5), (15, .int .i64 x15)] ⟨e0, e5, e15, trivial⟩ (by kernel_rfl) g)
def L6.t (R : Rt) : Nat → Option Addr → Nat → Nat → Option Addr → Nat → Nat → Int → Hp → Prop
  | 0 => fun _ _ _ _ _ _ _ _ => False
  | n + 1 => fun a0 l0 c0 a5 l5 c5 x15 h => D7.t R (L6.t R n) a0 l0 c0 a5 l5 c5 x15 h
theorem L6.ok (R : Rt) (fr : Fr) (h : Hp) (g : L6.g (fun a0 l0 c0 a5 l5 c5 x15 h => ∃ n, L6.t R n a0 l0 c0 a5 l5 c5 x15 h) fr h) : den prog E (cAt C [true, true, true, true, true, true, true, false, true, false]) (Ex.inBlock 16 (Ex.then (D4.g R) (retQ E [.tmp 2] R))) fr h := by
  obtain ⟨a0, l0, c0, e0, g⟩ := gSlice_elim g
  obtain ⟨a5, l5, c5, e5, g⟩ := gSlice_elim g
  obtain ⟨x15, e15, g⟩ := gInt_elim g
  obtain ⟨n, g⟩ := g
  refine loop_ok (fun n => L6.g (L6.t R n)) (b := (cAt C [true, true, true, true, true, true, true, false, true, false, false])) (by kernel_rfl) (fun fr h g => ?_) (fun n => D7.ok R (L6.t R n)) n fr h (gSlice_intro e0 (gSlice_intro e5 (gInt_intro e15 (g))))
  obtain ⟨a0, l0, c0, e0, g⟩ := gSlice_elim g
  obtain ⟨a5, l5, c5, e5, g⟩ := gSlice_elim g
  obtain ⟨x15, e15, g⟩ := gInt_elim g
  exact g
theorem B15.ok (R : Rt) (fr : Fr) (h : Hp) (g : L6.g (fun a0 l0 c0 a5 l5 c5 x15 h => ∃ n, L6.t R n a0 l0 c0 a5 l5 c5 x15 h) fr h) : den prog E (cAt C [true, true, true, true, true, true, true, false, true]) (Ex.then (D4.g R) (retQ E [.tmp 2] R)) fr h :=
  den_block (by kernel_rfl) (L6.ok R fr h g)
def D5.t (R : Rt) (a0 : Option Addr) (l0 : Nat) (c0 : Nat) (a5 : Option Addr) (l5 : Nat) (c5 : Nat) (h : Hp) : Prop :=
  (∃ n, L6.t R n a0 l0 c0 a5 l5 c5 0 h)
def D5.g (R : Rt) (fr : Fr) (h : Hp) : Prop := gSlice (fr 0) fun a0 l0 c0 => gSlice (fr 5) fun a5 l5 c5 => D5.t R a0 l0 c0 a5 l5 c5 h
theorem D5.ok (R : Rt) (fr : Fr) (h : Hp) (g : D5.g R fr h) : den prog E (cAt C [true, true, true, true, true, true, true, false]) (Ex.then (D4.g R) (retQ E [.tmp 2] R)) fr h := by
  obtain ⟨a0, l0, c0, e0, g⟩ := gSlice_elim g
  obtain ⟨a5, l5, c5, e5, g⟩ := gSlice_elim g
  exact den_cut 1 (r := (cAt C [true, true, true, true, true, true, true, false, true])) (by kernel_rfl) (B15.ok R) (den_enter [(0, .slice a0 l0 c0), (5, .slice a5 l5 c5)] ⟨e0, e5, trivial⟩ (by kernel_rfl) g)
theorem W16.ok (R : Rt) (fr : Fr) (h : Hp) (g : D5.g R fr h) : den prog E (cAt C [true, true, true, true, true, true, true]) (retQ E [.tmp 2] R) fr h :=
  den_then (by kernel_rfl) (D4.ok R) (D5.ok R fr h g)
def L18.g (N : Option Addr → Nat → Nat → Option Addr → Nat → Nat → Option Addr → Nat → Nat → Int → Hp → Prop) (fr : Fr) (h : Hp) : Prop := gSlice (fr 0) fun a0 l0 c0 => gSlice (fr 5) fun a5 l5 c5 => gSlice (fr 12) fun a12 l12 c12 => gInt .i64 (fr 13) fun x13 => N a0 l0 c0 a5 l5 c5 a12 l12 c12 x13 h
def D20.t (R : Rt) (N18 : Option Addr → Nat → Nat → Option Addr → Nat → Nat → Option Addr → Nat → Nat → Int → Hp → Prop) (a0 : Option Addr) (l0 : Nat) (c0 : Nat) (a5 : Option Addr) (l5 : Nat) (c5 : Nat) (a12 : Option Addr) (l12 : Nat) (c12 : Nat) (x13 : Int) (h : Hp) : Prop :=
  letK (IntKind.i64.wrap (x13 + 1)) fun n42 => N18 a0 l0 c0 a5 l5 c5 a12 l12 c12 n42 h
def D20.g (R : Rt) (N18 : Option Addr → Nat → Nat → Option Addr → Nat → Nat → Option Addr → Nat → Nat → Int → Hp → Prop) (fr : Fr) (h : Hp) : Prop := gSlice (fr 0) fun a0 l0 c0 => gSlice (fr 5) fun a5 l5 c5 => gSlice (fr 12) fun a12 l12 c12 => gInt .i64 (fr 13) fun x13 => D20.t R N18 a0 l0 c0 a5 l5 c5 a12 l12 c12 x13 h
theorem D20.ok (R : Rt) (N18 : Option Addr → Nat → Nat → Option Addr → Nat → Nat → Option Addr → Nat → Nat → Int → Hp → Prop) (fr : Fr) (h : Hp) (g : D20.g R N18 fr h) : den prog E (cAt C [true, true, true, true, true, true, false, true, false, false, true, true]) (Ex.then (L18.g N18) (Ex.inBlock 12 (Ex.then (D5.g R) (retQ E [.tmp 2] R)))) fr h := by
  obtain ⟨a0, l0, c0, e0, g⟩ := gSlice_elim g
  obtain ⟨a5, l5, c5, e5, g⟩ := gSlice_elim g
  obtain ⟨a12, l12, c12, e12, g⟩ := gSlice_elim g
  obtain ⟨x13, e13, g⟩ := gInt_elim g
  exact den_enter [(0, .slice a0 l0 c0), (5, .slice a5 l5 c5), (12, .slice a12 l12 c12), (13, .int .i64 x13)] ⟨e0, e5, e12, e13, trivial⟩ (by kernel_rfl) g
def D21.t (R : Rt) (N18 : Option Addr → Nat → Nat → Option Addr → Nat → Nat → Option Addr → Nat → Nat → Int → Hp → Prop) (a0 : Option Addr) (l0 : Nat) (c0 : Nat) (a5 : Option Addr) (l5 : Nat) (c5 : Nat) (a12 : Option Addr) (l12 : Nat) (c12 : Nat) (x13 : Int) (h : Hp) : Prop :=
  idxK a0 l0 x13 1 fun q43 =>
  ldK h q43 fun v44 =>
  gSlice v44 fun a_45 l_45 c_45 =>
  apK h 27 T27 a_45 l_45 c_45 (.slice a12 l12 c12) fun a_46 l_46 c_46 h46 =>
  idxK a5 l5 x13 1 fun q47 =>
  stK h46 q47 (.slice a_46 l_46 c_46) fun h48 =>
  D20.t R N18 a0 l0 c0 a5 l5 c5 a12 l12 c12 x13 h48
def D21.g (R : Rt) (N18 : Option Addr → Nat → Nat → Option Addr → Nat → Nat → Option Addr → Nat → Nat → Int → Hp → Prop) (fr : Fr) (h : Hp) : Prop := gSlice (fr 0) fun a0 l0 c0 => gSlice (fr 5) fun a5 l5 c5 => gSlice (fr 12) fun a12 l12 c12 => gInt .i64 (fr 13) fun x13 => D21.t R N18 a0 l0 c0 a5 l5 c5 a12 l12 c12 x13 h
theorem D21.ok (R : Rt) (N18 : Option Addr → Nat → Nat → Option Addr → Nat → Nat → Option Addr → Nat → Nat → Int → Hp → Prop) (fr : Fr) (h : Hp) (g : D21.g R N18 fr h) : den prog E (cAt C [true, true, true, true, true, true, false, true, false, false, true, false, false, true]) (Ex.inBlock 13 (Ex.then (D20.g R N18) (Ex.then (L18.g N18) (Ex.inBlock 12 (Ex.then (D5.g R) (retQ E [.tmp 2] R)))))) fr h := by
  obtain ⟨a0, l0, c0, e0, g⟩ := gSlice_elim g
  obtain ⟨a5, l5, c5, e5, g⟩ := gSlice_elim g
  obtain ⟨a12, l12, c12, e12, g⟩ := gSlice_elim g
  obtain ⟨x13, e13, g⟩ := gInt_elim g
  exact den_enter [(0, .slice a0 l0 c0), (5, .slice a5 l5 c5), (12, .slice a12 l12 c12), (13, .int .i64 x13)] ⟨e0, e5, e12, e13, trivial⟩ (by kernel_rfl) g
def L23.g (N : Option Addr → Nat → Nat → Option Addr → Nat → Nat → Option Addr → Nat → Nat → Int → Int → Hp → Prop) (fr : Fr) (h : Hp) : Prop := gSlice (fr 0) fun a0 l0 c0 => gSlice (fr 5) fun a5 l5 c5 => gSlice (fr 12) fun a12 l12 c12 => gInt .i64 (fr 13) fun x13 => gInt .i64 (fr 14) fun x14 => N a0 l0 c0 a5 l5 c5 a12 l12 c12 x13 x14 h
def D24.t (R : Rt) (N18 : Option Addr → Nat → Nat → Option Addr → Nat → Nat → Option Addr → Nat → Nat → Int → Hp → Prop) (N23 : Option Addr → Nat → Nat → Option Addr → Nat → Nat → Option Addr → Nat → Nat → Int → Int → Hp → Prop) (a0 : Option Addr) (l0 : Nat) (c0 : Nat) (a5 : Option Addr) (l5 : Nat) (c5 : Nat) (a12 : Option Addr) (l12 : Nat) (c12 : Nat) (x13 : Int) (x14 : Int) (h : Hp) : Prop :=
  cond (decide (x14 < 64)) (letK (IntKind.i64.wrap (200000 + x14)) fun n49 =>
  HQC gnomonlaw03_mark.id #[.int .i64 x13, .int .i64 n49] h fun v50 =>
  gInt .u64 v50 fun x_51 =>
  idxK a12 l12 x14 1 fun q52 =>
  stK h q52 (.int .u64 x_51) fun h53 =>
  letK (IntKind.i64.wrap (x14 + 1)) fun n54 =>
  N23 a0 l0 c0 a5 l5 c5 a12 l12 c12 x13 n54 h53) (D21.t R N18 a0 l0 c0 a5 l5 c5 a12 l12 c12 x13 h)
def D24.g (R : Rt) (N18 : Option Addr → Nat → Nat → Option Addr → Nat → Nat → Option Addr → Nat → Nat → Int → Hp → Prop) (N23 : Option Addr → Nat → Nat → Option Addr → Nat → Nat → Option Addr → Nat → Nat → Int → Int → Hp → Prop) (fr : Fr) (h : Hp) : Prop := gSlice (fr 0) fun a0 l0 c0 => gSlice (fr 5) fun a5 l5 c5 => gSlice (fr 12) fun a12 l12 c12 => gInt .i64 (fr 13) fun x13 => gInt .i64 (fr 14) fun x14 => D24.t R N18 N23 a0 l0 c0 a5 l5 c5 a12 l12 c12 x13 x14 h
theorem D24.ok (R : Rt) (N18 : Option Addr → Nat → Nat → Option Addr → Nat → Nat → Option Addr → Nat → Nat → Int → Hp → Prop) (N23 : Option Addr → Nat → Nat → Option Addr → Nat → Nat → Option Addr → Nat → Nat → Int → Int → Hp → Prop) (fr : Fr) (h : Hp) (g : D24.g R N18 N23 fr h) : den prog E (cAt C [true, true, true, true, true, true, false, true, false, false, true, false, false, false, true, false, false]) (Ex.then (L23.g N23) (Ex.inBlock 14 (Ex.then (D21.g R N18) (Ex.inBlock 13 (Ex.then (D20.g R N18) (Ex.then (L18.g N18) (Ex.inBlock 12 (Ex.then (D5.g R) (retQ E [.tmp 2] R))))))))) fr h := by
  obtain ⟨a0, l0, c0, e0, g⟩ := gSlice_elim g
  obtain ⟨a5, l5, c5, e5, g⟩ := gSlice_elim g
  obtain ⟨a12, l12, c12, e12, g⟩ := gSlice_elim g
  obtain ⟨x13, e13, g⟩ := gInt_elim g
  obtain ⟨x14, e14, g⟩ := gInt_elim g
  exact den_enter [(0, .slice a0 l0 c0), (5, .slice a5 l5 c5), (12, .slice a12 l12 c12), (13, .int .i64 x13), (14, .int .i64 x14)] ⟨e0, e5, e12, e13, e14, trivial⟩ (by kernel_rfl) g
def L23.t (R : Rt) (N18 : Option Addr → Nat → Nat → Option Addr → Nat → Nat → Option Addr → Nat → Nat → Int → Hp → Prop) : Nat → Option Addr → Nat → Nat → Option Addr → Nat → Nat → Option Addr → Nat → Nat → Int → Int → Hp → Prop
  | 0 => fun _ _ _ _ _ _ _ _ _ _ _ _ => False
  | n + 1 => fun a0 l0 c0 a5 l5 c5 a12 l12 c12 x13 x14 h => D24.t R N18 (L23.t R N18 n) a0 l0 c0 a5 l5 c5 a12 l12 c12 x13 x14 h
theorem L23.ok (R : Rt) (N18 : Option Addr → Nat → Nat → Option Addr → Nat → Nat → Option Addr → Nat → Nat → Int → Hp → Prop) (fr : Fr) (h : Hp) (g : L23.g (fun a0 l0 c0 a5 l5 c5 a12 l12 c12 x13 x14 h => ∃ n, L23.t R N18 n a0 l0 c0 a5 l5 c5 a12 l12 c12 x13 x14 h) fr h) : den prog E (cAt C [true, true, true, true, true, true, false, true, false, false, true, false, false, false, true, false]) (Ex.inBlock 14 (Ex.then (D21.g R N18) (Ex.inBlock 13 (Ex.then (D20.g R N18) (Ex.then (L18.g N18) (Ex.inBlock 12 (Ex.then (D5.g R) (retQ E [.tmp 2] R)))))))) fr h := by
  obtain ⟨a0, l0, c0, e0, g⟩ := gSlice_elim g
  obtain ⟨a5, l5, c5, e5, g⟩ := gSlice_elim g
  obtain ⟨a12, l12, c12, e12, g⟩ := gSlice_elim g
  obtain ⟨x13, e13, g⟩ := gInt_elim g
  obtain ⟨x14, e14, g⟩ := gInt_elim g
  obtain ⟨n, g⟩ := g
  refine loop_ok (fun n => L23.g (L23.t R N18 n)) (b := (cAt C [true, true, true, true, true, true, false, true, false, false, true, false, false, false, true, false, false])) (by kernel_rfl) (fun fr h g => ?_) (fun n => D24.ok R N18 (L23.t R N18 n)) n fr h (gSlice_intro e0 (gSlice_intro e5 (gSlice_intro e12 (gInt_intro e13 (gInt_intro e14 (g))))))
  obtain ⟨a0, l0, c0, e0, g⟩ := gSlice_elim g
  obtain ⟨a5, l5, c5, e5, g⟩ := gSlice_elim g
  obtain ⟨a12, l12, c12, e12, g⟩ := gSlice_elim g
  obtain ⟨x13, e13, g⟩ := gInt_elim g
  obtain ⟨x14, e14, g⟩ := gInt_elim g
  exact g
theorem B25.ok (R : Rt) (N18 : Option Addr → Nat → Nat → Option Addr → Nat → Nat → Option Addr → Nat → Nat → Int → Hp → Prop) (fr : Fr) (h : Hp) (g : L23.g (fun a0 l0 c0 a5 l5 c5 a12 l12 c12 x13 x14 h => ∃ n, L23.t R N18 n a0 l0 c0 a5 l5 c5 a12 l12 c12 x13 x14 h) fr h) : den prog E (cAt C [true, true, true, true, true, true, false, true, false, false, true, false, false, false, true]) (Ex.then (D21.g R N18) (Ex.inBlock 13 (Ex.then (D20.g R N18) (Ex.then (L18.g N18) (Ex.inBlock 12 (Ex.then (D5.g R) (retQ E [.tmp 2] R))))))) fr h :=
  den_block (by kernel_rfl) (L23.ok R N18 fr h g)
def D22.t (R : Rt) (N18 : Option Addr → Nat → Nat → Option Addr → Nat → Nat → Option Addr → Nat → Nat → Int → Hp → Prop) (a0 : Option Addr) (l0 : Nat) (c0 : Nat) (a5 : Option Addr) (l5 : Nat) (c5 : Nat) (a12 : Option Addr) (l12 : Nat) (c12 : Nat) (x13 : Int) (h : Hp) : Prop :=
  (∃ n, L23.t R N18 n a0 l0 c0 a5 l5 c5 a12 l12 c12 x13 0 h)
def D22.g (R : Rt) (N18 : Option Addr → Nat → Nat → Option Addr → Nat → Nat → Option Addr → Nat → Nat → Int → Hp → Prop) (fr : Fr) (h : Hp) : Prop := gSlice (fr 0) fun a0 l0 c0 => gSlice (fr 5) fun a5 l5 c5 => gSlice (fr 12) fun a12 l12 c12 => gInt .i64 (fr 13) fun x13 => D22.t R N18 a0 l0 c0 a5 l5 c5 a12 l12 c12 x13 h
theorem D22.ok (R : Rt) (N18 : Option Addr → Nat → Nat → Option Addr → Nat → Nat → Option Addr → Nat → Nat → Int → Hp → Prop) (fr : Fr) (h : Hp) (g : D22.g R N18 fr h) : den prog E (cAt C [true, true, true, true, true, true, false, true, false, false, true, false, false, false]) (Ex.then (D21.g R N18) (Ex.inBlock 13 (Ex.then (D20.g R N18) (Ex.then (L18.g N18) (Ex.inBlock 12 (Ex.then (D5.g R) (retQ E [.tmp 2] R))))))) fr h := by
  obtain ⟨a0, l0, c0, e0, g⟩ := gSlice_elim g
  obtain ⟨a5, l5, c5, e5, g⟩ := gSlice_elim g
  obtain ⟨a12, l12, c12, e12, g⟩ := gSlice_elim g
  obtain ⟨x13, e13, g⟩ := gInt_elim g
  exact den_cut 1 (r := (cAt C [true, true, true, true, true, true, false, true, false, false, true, false, false, false, true])) (by kernel_rfl) (B25.ok R N18) (den_enter [(0, .slice a0 l0 c0), (5, .slice a5 l5 c5), (12, .slice a12 l12 c12), (13, .int .i64 x13)] ⟨e0, e5, e12, e13, trivial⟩ (by kernel_rfl) g)
theorem W26.ok (R : Rt) (N18 : Option Addr → Nat → Nat → Option Addr → Nat → Nat → Option Addr → Nat → Nat → Int → Hp → Prop) (fr : Fr) (h : Hp) (g : D22.g R N18 fr h) : den prog E (cAt C [true, true, true, true, true, true, false, true, false, false, true, false, false]) (Ex.inBlock 13 (Ex.then (D20.g R N18) (Ex.then (L18.g N18) (Ex.inBlock 12 (Ex.then (D5.g R) (retQ E [.tmp 2] R)))))) fr h :=
  den_then (by kernel_rfl) (D21.ok R N18) (D22.ok R N18 fr h g)
theorem B27.ok (R : Rt) (N18 : Option Addr → Nat → Nat → Option Addr → Nat → Nat → Option Addr → Nat → Nat → Int → Hp → Prop) (fr : Fr) (h : Hp) (g : D22.g R N18 fr h) : den prog E (cAt C [true, true, true, true, true, true, false, true, false, false, true, false]) (Ex.then (D20.g R N18) (Ex.then (L18.g N18) (Ex.inBlock 12 (Ex.then (D5.g R) (retQ E [.tmp 2] R))))) fr h :=
  den_block (by kernel_rfl) (W26.ok R N18 fr h g)
theorem W28.ok (R : Rt) (N18 : Option Addr → Nat → Nat → Option Addr → Nat → Nat → Option Addr → Nat → Nat → Int → Hp → Prop) (fr : Fr) (h : Hp) (g : D22.g R N18 fr h) : den prog E (cAt C [true, true, true, true, true, true, false, true, false, false, true]) (Ex.then (L18.g N18) (Ex.inBlock 12 (Ex.then (D5.g R) (retQ E [.tmp 2] R)))) fr h :=
  den_then (by kernel_rfl) (D20.ok R N18) (B27.ok R N18 fr h g)
def D19.t (R : Rt) (N18 : Option Addr → Nat → Nat → Option Addr → Nat → Nat → Option Addr → Nat → Nat → Int → Hp → Prop) (a0 : Option Addr) (l0 : Nat) (c0 : Nat) (a5 : Option Addr) (l5 : Nat) (c5 : Nat) (a12 : Option Addr) (l12 : Nat) (c12 : Nat) (x13 : Int) (h : Hp) : Prop :=
  cond (decide (x13 < (((l0 : Nat) : Int)))) (D22.t R N18 a0 l0 c0 a5 l5 c5 a12 l12 c12 x13 h) (D5.t R a0 l0 c0 a5 l5 c5 h)
def D19.g (R : Rt) (N18 : Option Addr → Nat → Nat → Option Addr → Nat → Nat → Option Addr → Nat → Nat → Int → Hp → Prop) (fr : Fr) (h : Hp) : Prop := gSlice (fr 0) fun a0 l0 c0 => gSlice (fr 5) fun a5 l5 c5 => gSlice (fr 12) fun a12 l12 c12 => gInt .i64 (fr 13) fun x13 => D19.t R N18 a0 l0 c0 a5 l5 c5 a12 l12 c12 x13 h
theorem D19.ok (R : Rt) (N18 : Option Addr → Nat → Nat → Option Addr → Nat → Nat → Option Addr → Nat → Nat → Int → Hp → Prop) (fr : Fr) (h : Hp) (g : D19.g R N18 fr h) : den prog E (cAt C [true, true, true, true, true, true, false, true, false, false]) (Ex.then (L18.g N18) (Ex.inBlock 12 (Ex.then (D5.g R) (retQ E [.tmp 2] R)))) fr h := by
  obtain ⟨a0, l0, c0, e0, g⟩ := gSlice_elim g
  obtain ⟨a5, l5, c5, e5, g⟩ := gSlice_elim g
  obtain ⟨a12, l12, c12, e12, g⟩ := gSlice_elim g
  obtain ⟨x13, e13, g⟩ := gInt_elim g
  exact den_cut 1 (r := (cAt C [true, true, true, true, true, true, false, true, false, false, true])) (by kernel_rfl) (W28.ok R N18) (den_enter [(0, .slice a0 l0 c0), (5, .slice a5 l5 c5), (12, .slice a12 l12 c12), (13, .int .i64 x13)] ⟨e0, e5, e12, e13, trivial⟩ (by kernel_rfl) g)
def L18.t (R : Rt) : Nat → Option Addr → Nat → Nat → Option Addr → Nat → Nat → Option Addr → Nat → Nat → Int → Hp → Prop
  | 0 => fun _ _ _ _ _ _ _ _ _ _ _ => False
  | n + 1 => fun a0 l0 c0 a5 l5 c5 a12 l12 c12 x13 h => D19.t R (L18.t R n) a0 l0 c0 a5 l5 c5 a12 l12 c12 x13 h
theorem L18.ok (R : Rt) (fr : Fr) (h : Hp) (g : L18.g (fun a0 l0 c0 a5 l5 c5 a12 l12 c12 x13 h => ∃ n, L18.t R n a0 l0 c0 a5 l5 c5 a12 l12 c12 x13 h) fr h) : den prog E (cAt C [true, true, true, true, true, true, false, true, false]) (Ex.inBlock 12 (Ex.then (D5.g R) (retQ E [.tmp 2] R))) fr h := by
  obtain ⟨a0, l0, c0, e0, g⟩ := gSlice_elim g
  obtain ⟨a5, l5, c5, e5, g⟩ := gSlice_elim g
  obtain ⟨a12, l12, c12, e12, g⟩ := gSlice_elim g
  obtain ⟨x13, e13, g⟩ := gInt_elim g
  obtain ⟨n, g⟩ := g
  refine loop_ok (fun n => L18.g (L18.t R n)) (b := (cAt C [true, true, true, true, true, true, false, true, false, false])) (by kernel_rfl) (fun fr h g => ?_) (fun n => D19.ok R (L18.t R n)) n fr h (gSlice_intro e0 (gSlice_intro e5 (gSlice_intro e12 (gInt_intro e13 (g)))))
  obtain ⟨a0, l0, c0, e0, g⟩ := gSlice_elim g
  obtain ⟨a5, l5, c5, e5, g⟩ := gSlice_elim g
  obtain ⟨a12, l12, c12, e12, g⟩ := gSlice_elim g
  obtain ⟨x13, e13, g⟩ := gInt_elim g
  exact g
theorem B29.ok (R : Rt) (fr : Fr) (h : Hp) (g : L18.g (fun a0 l0 c0 a5 l5 c5 a12 l12 c12 x13 h => ∃ n, L18.t R n a0 l0 c0 a5 l5 c5 a12 l12 c12 x13 h) fr h) : den prog E (cAt C [true, true, true, true, true, true, false, true]) (Ex.then (D5.g R) (retQ E [.tmp 2] R)) fr h :=
  den_block (by kernel_rfl) (L18.ok R fr h g)
def D17.t (R : Rt) (a0 : Option Addr) (l0 : Nat) (c0 : Nat) (a5 : Option Addr) (l5 : Nat) (c5 : Nat) (a12 : Option Addr) (l12 : Nat) (c12 : Nat) (h : Hp) : Prop :=
  (∃ n, L18.t R n a0 l0 c0 a5 l5 c5 a12 l12 c12 0 h)
def D17.g (R : Rt) (fr : Fr) (h : Hp) : Prop := gSlice (fr 0) fun a0 l0 c0 => gSlice (fr 5) fun a5 l5 c5 => gSlice (fr 12) fun a12 l12 c12 => D17.t R a0 l0 c0 a5 l5 c5 a12 l12 c12 h
theorem D17.ok (R : Rt) (fr : Fr) (h : Hp) (g : D17.g R fr h) : den prog E (cAt C [true, true, true, true, true, true, false]) (Ex.then (D5.g R) (retQ E [.tmp 2] R)) fr h := by
  obtain ⟨a0, l0, c0, e0, g⟩ := gSlice_elim g
  obtain ⟨a5, l5, c5, e5, g⟩ := gSlice_elim g
  obtain ⟨a12, l12, c12, e12, g⟩ := gSlice_elim g
  exact den_cut 1 (r := (cAt C [true, true, true, true, true, true, false, true])) (by kernel_rfl) (B29.ok R) (den_enter [(0, .slice a0 l0 c0), (5, .slice a5 l5 c5), (12, .slice a12 l12 c12)] ⟨e0, e5, e12, trivial⟩ (by kernel_rfl) g)
theorem W30.ok (R : Rt) (fr : Fr) (h : Hp) (g : D17.g R fr h) : den prog E (cAt C [true, true, true, true, true, true]) (retQ E [.tmp 2] R) fr h :=
  den_then (by kernel_rfl) (W16.ok R) (D17.ok R fr h g)
def D3.t (R : Rt) (a0 : Option Addr) (l0 : Nat) (c0 : Nat) (a5 : Option Addr) (l5 : Nat) (c5 : Nat) (h : Hp) : Prop :=
  mkK h 27 T27 64 64 fun q3 h4 => D17.t R a0 l0 c0 a5 l5 c5 (some q3) ((64 : Int).toNat) ((64 : Int).toNat) h4
def D3.g (R : Rt) (fr : Fr) (h : Hp) : Prop := gSlice (fr 0) fun a0 l0 c0 => gSlice (fr 5) fun a5 l5 c5 => D3.t R a0 l0 c0 a5 l5 c5 h
theorem D3.ok (R : Rt) (fr : Fr) (h : Hp) (g : D3.g R fr h) : den prog E (cAt C [true, true, true, true, true]) (retQ E [.tmp 2] R) fr h := by
  obtain ⟨a0, l0, c0, e0, g⟩ := gSlice_elim g
  obtain ⟨a5, l5, c5, e5, g⟩ := gSlice_elim g
  exact den_cut 1 (r := (cAt C [true, true, true, true, true, true])) (by kernel_rfl) (W30.ok R) (den_enter [(0, .slice a0 l0 c0), (5, .slice a5 l5 c5)] ⟨e0, e5, trivial⟩ (by kernel_rfl) g)
def L32.g (N : Option Addr → Nat → Nat → Option Addr → Nat → Nat → Int → Hp → Prop) (fr : Fr) (h : Hp) : Prop := gSlice (fr 0) fun a0 l0 c0 => gSlice (fr 5) fun a5 l5 c5 => gInt .i64 (fr 9) fun x9 => N a0 l0 c0 a5 l5 c5 x9 h
def D34.t (R : Rt) (N32 : Option Addr → Nat → Nat → Option Addr → Nat → Nat → Int → Hp → Prop) (a0 : Option Addr) (l0 : Nat) (c0 : Nat) (a5 : Option Addr) (l5 : Nat) (c5 : Nat) (x9 : Int) (h : Hp) : Prop :=
  letK (IntKind.i64.wrap (x9 + 1)) fun n55 => N32 a0 l0 c0 a5 l5 c5 n55 h
def D34.g (R : Rt) (N32 : Option Addr → Nat → Nat → Option Addr → Nat → Nat → Int → Hp → Prop) (fr : Fr) (h : Hp) : Prop := gSlice (fr 0) fun a0 l0 c0 => gSlice (fr 5) fun a5 l5 c5 => gInt .i64 (fr 9) fun x9 => D34.t R N32 a0 l0 c0 a5 l5 c5 x9 h
theorem D34.ok (R : Rt) (N32 : Option Addr → Nat → Nat → Option Addr → Nat → Nat → Int → Hp → Prop) (fr : Fr) (h : Hp) (g : D34.g R N32 fr h) : den prog E (cAt C [true, true, true, true, false, true, false, false, true, true]) (Ex.then (L32.g N32) (Ex.inBlock 8 (Ex.then (D3.g R) (retQ E [.tmp 2] R)))) fr h := by
  obtain ⟨a0, l0, c0, e0, g⟩ := gSlice_elim g
  obtain ⟨a5, l5, c5, e5, g⟩ := gSlice_elim g
  obtain ⟨x9, e9, g⟩ := gInt_elim g
  exact den_enter [(0, .slice a0 l0 c0), (5, .slice a5 l5 c5), (9, .int .i64 x9)] ⟨e0, e5, e9, trivial⟩ (by kernel_rfl) g
def L36.g (N : Option Addr → Nat → Nat → Option Addr → Nat → Nat → Int → Int → Int → Hp → Prop) (fr : Fr) (h : Hp) : Prop := gSlice (fr 0) fun a0 l0 c0 => gSlice (fr 5) fun a5 l5 c5 => gInt .i64 (fr 9) fun x9 => gInt .i64 (fr 10) fun x10 => gInt .i64 (fr 11) fun x11 => N a0 l0 c0 a5 l5 c5 x9 x10 x11 h
def D37.t (R : Rt) (N32 : Option Addr → Nat → Nat → Option Addr → Nat → Nat → Int → Hp → Prop) (N36 : Option Addr → Nat → Nat → Option Addr → Nat → Nat → Int → Int → Int → Hp → Prop) (a0 : Option Addr) (l0 : Nat) (c0 : Nat) (a5 : Option Addr) (l5 : Nat) (c5 : Nat) (x9 : Int) (x10 : Int) (x11 : Int) (h : Hp) : Prop :=
  letK (IntKind.i64.wrap (x10 + 16)) fun n59 =>
  cond (decide (x11 < n59)) (cond (decide (x11 < x10)) (idxK a0 l0 x9 1 fun q60 =>
  ldK h q60 fun v61 =>
  gSlice v61 fun a_62 l_62 c_62 =>
  idxK a_62 l_62 x11 1 fun q63 =>
  ldK h q63 fun v64 =>
  gInt .u64 v64 fun x_65 =>
  HQC gnomonlaw03_mark.id #[.int .i64 x9, .int .i64 x11] h fun v66 =>
  gInt .u64 v66 fun x_67 =>
  cond (x_65 != x_67) (R (.bool false) h) (idxK a5 l5 x9 1 fun q68 =>
  ldK h q68 fun v69 =>
  gSlice v69 fun a_70 l_70 c_70 =>
  idxK a_70 l_70 x11 1 fun q71 =>
  ldK h q71 fun v72 =>
  gInt .u64 v72 fun x_73 =>
  HQC gnomonlaw03_mark.id #[.int .i64 x9, .int .i64 x11] h fun v74 =>
  gInt .u64 v74 fun x_75 =>
  cond (x_73 != x_75) (R (.bool false) h) (cond (decide (x11 ≥ x10)) (idxK a5 l5 x9 1 fun q76 =>
  ldK h q76 fun v77 =>
  gSlice v77 fun a_78 l_78 c_78 =>
  idxK a_78 l_78 x11 1 fun q79 =>
  ldK h q79 fun v80 =>
  gInt .u64 v80 fun x_81 =>
  letK (IntKind.i64.wrap (100000 + x11)) fun n82 =>
  letK (IntKind.i64.wrap (n82 - x10)) fun n83 =>
  HQC gnomonlaw03_mark.id #[.int .i64 x9, .int .i64 n83] h fun v84 =>
  gInt .u64 v84 fun x_85 =>
  cond (x_81 != x_85) (R (.bool false) h) (letK (IntKind.i64.wrap (x11 + 1)) fun n86 =>
  N36 a0 l0 c0 a5 l5 c5 x9 x10 n86 h)) (letK (IntKind.i64.wrap (x11 + 1)) fun n87 =>
  N36 a0 l0 c0 a5 l5 c5 x9 x10 n87 h)))) (cond (decide (x11 ≥ x10)) (idxK a5 l5 x9 1 fun q88 =>
  ldK h q88 fun v89 =>
  gSlice v89 fun a_90 l_90 c_90 =>
  idxK a_90 l_90 x11 1 fun q91 =>
  ldK h q91 fun v92 =>
  gInt .u64 v92 fun x_93 =>
  letK (IntKind.i64.wrap (100000 + x11)) fun n94 =>
  letK (IntKind.i64.wrap (n94 - x10)) fun n95 =>
  HQC gnomonlaw03_mark.id #[.int .i64 x9, .int .i64 n95] h fun v96 =>
  gInt .u64 v96 fun x_97 =>
  cond (x_93 != x_97) (R (.bool false) h) (letK (IntKind.i64.wrap (x11 + 1)) fun n98 =>
  N36 a0 l0 c0 a5 l5 c5 x9 x10 n98 h)) (letK (IntKind.i64.wrap (x11 + 1)) fun n99 =>
  N36 a0 l0 c0 a5 l5 c5 x9 x10 n99 h))) (D34.t R N32 a0 l0 c0 a5 l5 c5 x9 h)
def D37.g (R : Rt) (N32 : Option Addr → Nat → Nat → Option Addr → Nat → Nat → Int → Hp → Prop) (N36 : Option Addr → Nat → Nat → Option Addr → Nat → Nat → Int → Int → Int → Hp → Prop) (fr : Fr) (h : Hp) : Prop := gSlice (fr 0) fun a0 l0 c0 => gSlice (fr 5) fun a5 l5 c5 => gInt .i64 (fr 9) fun x9 => gInt .i64 (fr 10) fun x10 => gInt .i64 (fr 11) fun x11 => D37.t R N32 N36 a0 l0 c0 a5 l5 c5 x9 x10 x11 h
theorem D37.ok (R : Rt) (N32 : Option Addr → Nat → Nat → Option Addr → Nat → Nat → Int → Hp → Prop) (N36 : Option Addr → Nat → Nat → Option Addr → Nat → Nat → Int → Int → Int → Hp → Prop) (fr : Fr) (h : Hp) (g : D37.g R N32 N36 fr h) : den prog E (cAt C [true, true, true, true, false, true, false, false, true, false, false, true, true, false, false]) (Ex.then (L36.g N36) (Ex.inBlock 10 (Ex.inBlock 9 (Ex.then (D34.g R N32) (Ex.then (L32.g N32) (Ex.inBlock 8 (Ex.then (D3.g R) (retQ E [.tmp 2] R)))))))) fr h := by
  obtain ⟨a0, l0, c0, e0, g⟩ := gSlice_elim g
  obtain ⟨a5, l5, c5, e5, g⟩ := gSlice_elim g
  obtain ⟨x9, e9, g⟩ := gInt_elim g
  obtain ⟨x10, e10, g⟩ := gInt_elim g
  obtain ⟨x11, e11, g⟩ := gInt_elim g
  exact den_enter [(0, .slice a0 l0 c0), (5, .slice a5 l5 c5), (9, .int .i64 x9), (10, .int .i64 x10), (11, .int .i64 x11)] ⟨e0, e5, e9, e10, e11, trivial⟩ (by kernel_rfl) g
def L36.t (R : Rt) (N32 : Option Addr → Nat → Nat → Option Addr → Nat → Nat → Int → Hp → Prop) : Nat → Option Addr → Nat → Nat → Option Addr → Nat → Nat → Int → Int → Int → Hp → Prop
  | 0 => fun _ _ _ _ _ _ _ _ _ _ => False
  | n + 1 => fun a0 l0 c0 a5 l5 c5 x9 x10 x11 h => D37.t R N32 (L36.t R N32 n) a0 l0 c0 a5 l5 c5 x9 x10 x11 h
theorem L36.ok (R : Rt) (N32 : Option Addr → Nat → Nat → Option Addr → Nat → Nat → Int → Hp → Prop) (fr : Fr) (h : Hp) (g : L36.g (fun a0 l0 c0 a5 l5 c5 x9 x10 x11 h => ∃ n, L36.t R N32 n a0 l0 c0 a5 l5 c5 x9 x10 x11 h) fr h) : den prog E (cAt C [true, true, true, true, false, true, false, false, true, false, false, true, true, false]) (Ex.inBlock 10 (Ex.inBlock 9 (Ex.then (D34.g R N32) (Ex.then (L32.g N32) (Ex.inBlock 8 (Ex.then (D3.g R) (retQ E [.tmp 2] R))))))) fr h := by
  obtain ⟨a0, l0, c0, e0, g⟩ := gSlice_elim g
  obtain ⟨a5, l5, c5, e5, g⟩ := gSlice_elim g
  obtain ⟨x9, e9, g⟩ := gInt_elim g
  obtain ⟨x10, e10, g⟩ := gInt_elim g
  obtain ⟨x11, e11, g⟩ := gInt_elim g
  obtain ⟨n, g⟩ := g
  refine loop_ok (fun n => L36.g (L36.t R N32 n)) (b := (cAt C [true, true, true, true, false, true, false, false, true, false, false, true, true, false, false])) (by kernel_rfl) (fun fr h g => ?_) (fun n => D37.ok R N32 (L36.t R N32 n)) n fr h (gSlice_intro e0 (gSlice_intro e5 (gInt_intro e9 (gInt_intro e10 (gInt_intro e11 (g))))))
  obtain ⟨a0, l0, c0, e0, g⟩ := gSlice_elim g
  obtain ⟨a5, l5, c5, e5, g⟩ := gSlice_elim g
  obtain ⟨x9, e9, g⟩ := gInt_elim g
  obtain ⟨x10, e10, g⟩ := gInt_elim g
  obtain ⟨x11, e11, g⟩ := gInt_elim g
  exact g
theorem B38.ok (R : Rt) (N32 : Option Addr → Nat → Nat → Option Addr → Nat → Nat → Int → Hp → Prop) (fr : Fr) (h : Hp) (g : L36.g (fun a0 l0 c0 a5 l5 c5 x9 x10 x11 h => ∃ n, L36.t R N32 n a0 l0 c0 a5 l5 c5 x9 x10 x11 h) fr h) : den prog E (cAt C [true, true, true, true, false, true, false, false, true, false, false, true, true]) (Ex.inBlock 9 (Ex.then (D34.g R N32) (Ex.then (L32.g N32) (Ex.inBlock 8 (Ex.then (D3.g R) (retQ E [.tmp 2] R)))))) fr h :=
  den_block (by kernel_rfl) (L36.ok R N32 fr h g)
def D35.t (R : Rt) (N32 : Option Addr → Nat → Nat → Option Addr → Nat → Nat → Int → Hp → Prop) (a0 : Option Addr) (l0 : Nat) (c0 : Nat) (a5 : Option Addr) (l5 : Nat) (c5 : Nat) (x9 : Int) (h : Hp) : Prop :=
  idxK a0 l0 x9 1 fun q56 =>
  ldK h q56 fun v57 =>
  gSlice v57 fun a_58 l_58 c_58 =>
  (∃ n, L36.t R N32 n a0 l0 c0 a5 l5 c5 x9 (((l_58 : Nat) : Int)) 0 h)
def D35.g (R : Rt) (N32 : Option Addr → Nat → Nat → Option Addr → Nat → Nat → Int → Hp → Prop) (fr : Fr) (h : Hp) : Prop := gSlice (fr 0) fun a0 l0 c0 => gSlice (fr 5) fun a5 l5 c5 => gInt .i64 (fr 9) fun x9 => D35.t R N32 a0 l0 c0 a5 l5 c5 x9 h
theorem D35.ok (R : Rt) (N32 : Option Addr → Nat → Nat → Option Addr → Nat → Nat → Int → Hp → Prop) (fr : Fr) (h : Hp) (g : D35.g R N32 fr h) : den prog E (cAt C [true, true, true, true, false, true, false, false, true, false, false]) (Ex.inBlock 9 (Ex.then (D34.g R N32) (Ex.then (L32.g N32) (Ex.inBlock 8 (Ex.then (D3.g R) (retQ E [.tmp 2] R)))))) fr h := by
  obtain ⟨a0, l0, c0, e0, g⟩ := gSlice_elim g
  obtain ⟨a5, l5, c5, e5, g⟩ := gSlice_elim g
  obtain ⟨x9, e9, g⟩ := gInt_elim g
  exact den_cut 2 (r := (cAt C [true, true, true, true, false, true, false, false, true, false, false, true, true])) (by kernel_rfl) (B38.ok R N32) (den_enter [(0, .slice a0 l0 c0), (5, .slice a5 l5 c5), (9, .int .i64 x9)] ⟨e0, e5, e9, trivial⟩ (by kernel_rfl) g)
theorem B39.ok (R : Rt) (N32 : Option Addr → Nat → Nat → Option Addr → Nat → Nat → Int → Hp → Prop) (fr : Fr) (h : Hp) (g : D35.g R N32 fr h) : den prog E (cAt C [true, true, true, true, false, true, false, false, true, false]) (Ex.then (D34.g R N32) (Ex.then (L32.g N32) (Ex.inBlock 8 (Ex.then (D3.g R) (retQ E [.tmp 2] R))))) fr h :=
  den_block (by kernel_rfl) (D35.ok R N32 fr h g)
theorem W40.ok (R : Rt) (N32 : Option Addr → Nat → Nat → Option Addr → Nat → Nat → Int → Hp → Prop) (fr : Fr) (h : Hp) (g : D35.g R N32 fr h) : den prog E (cAt C [true, true, true, true, false, true, false, false, true]) (Ex.then (L32.g N32) (Ex.inBlock 8 (Ex.then (D3.g R) (retQ E [.tmp 2] R)))) fr h :=
  den_then (by kernel_rfl) (D34.ok R N32) (B39.ok R N32 fr h g)
def D33.t (R : Rt) (N32 : Option Addr → Nat → Nat → Option Addr → Nat → Nat → Int → Hp → Prop) (a0 : Option Addr) (l0 : Nat) (c0 : Nat) (a5 : Option Addr) (l5 : Nat) (c5 : Nat) (x9 : Int) (h : Hp) : Prop :=
  cond (decide (x9 < (((l0 : Nat) : Int)))) (D35.t R N32 a0 l0 c0 a5 l5 c5 x9 h) (D3.t R a0 l0 c0 a5 l5 c5 h)
def D33.g (R : Rt) (N32 : Option Addr → Nat → Nat → Option Addr → Nat → Nat → Int → Hp → Prop) (fr : Fr) (h : Hp) : Prop := gSlice (fr 0) fun a0 l0 c0 => gSlice (fr 5) fun a5 l5 c5 => gInt .i64 (fr 9) fun x9 => D33.t R N32 a0 l0 c0 a5 l5 c5 x9 h
theorem D33.ok (R : Rt) (N32 : Option Addr → Nat → Nat → Option Addr → Nat → Nat → Int → Hp → Prop) (fr : Fr) (h : Hp) (g : D33.g R N32 fr h) : den prog E (cAt C [true, true, true, true, false, true, false, false]) (Ex.then (L32.g N32) (Ex.inBlock 8 (Ex.then (D3.g R) (retQ E [.tmp 2] R)))) fr h := by
  obtain ⟨a0, l0, c0, e0, g⟩ := gSlice_elim g
  obtain ⟨a5, l5, c5, e5, g⟩ := gSlice_elim g
  obtain ⟨x9, e9, g⟩ := gInt_elim g
  exact den_cut 1 (r := (cAt C [true, true, true, true, false, true, false, false, true])) (by kernel_rfl) (W40.ok R N32) (den_enter [(0, .slice a0 l0 c0), (5, .slice a5 l5 c5), (9, .int .i64 x9)] ⟨e0, e5, e9, trivial⟩ (by kernel_rfl) g)
def L32.t (R : Rt) : Nat → Option Addr → Nat → Nat → Option Addr → Nat → Nat → Int → Hp → Prop
  | 0 => fun _ _ _ _ _ _ _ _ => False
  | n + 1 => fun a0 l0 c0 a5 l5 c5 x9 h => D33.t R (L32.t R n) a0 l0 c0 a5 l5 c5 x9 h
theorem L32.ok (R : Rt) (fr : Fr) (h : Hp) (g : L32.g (fun a0 l0 c0 a5 l5 c5 x9 h => ∃ n, L32.t R n a0 l0 c0 a5 l5 c5 x9 h) fr h) : den prog E (cAt C [true, true, true, true, false, true, false]) (Ex.inBlock 8 (Ex.then (D3.g R) (retQ E [.tmp 2] R))) fr h := by
  obtain ⟨a0, l0, c0, e0, g⟩ := gSlice_elim g
  obtain ⟨a5, l5, c5, e5, g⟩ := gSlice_elim g
  obtain ⟨x9, e9, g⟩ := gInt_elim g
  obtain ⟨n, g⟩ := g
  refine loop_ok (fun n => L32.g (L32.t R n)) (b := (cAt C [true, true, true, true, false, true, false, false])) (by kernel_rfl) (fun fr h g => ?_) (fun n => D33.ok R (L32.t R n)) n fr h (gSlice_intro e0 (gSlice_intro e5 (gInt_intro e9 (g))))
  obtain ⟨a0, l0, c0, e0, g⟩ := gSlice_elim g
  obtain ⟨a5, l5, c5, e5, g⟩ := gSlice_elim g
  obtain ⟨x9, e9, g⟩ := gInt_elim g
  exact g
theorem B41.ok (R : Rt) (fr : Fr) (h : Hp) (g : L32.g (fun a0 l0 c0 a5 l5 c5 x9 h => ∃ n, L32.t R n a0 l0 c0 a5 l5 c5 x9 h) fr h) : den prog E (cAt C [true, true, true, true, false, true]) (Ex.then (D3.g R) (retQ E [.tmp 2] R)) fr h :=
  den_block (by kernel_rfl) (L32.ok R fr h g)
def D31.t (R : Rt) (a0 : Option Addr) (l0 : Nat) (c0 : Nat) (a5 : Option Addr) (l5 : Nat) (c5 : Nat) (h : Hp) : Prop :=
  (∃ n, L32.t R n a0 l0 c0 a5 l5 c5 0 h)
def D31.g (R : Rt) (fr : Fr) (h : Hp) : Prop := gSlice (fr 0) fun a0 l0 c0 => gSlice (fr 5) fun a5 l5 c5 => D31.t R a0 l0 c0 a5 l5 c5 h
theorem D31.ok (R : Rt) (fr : Fr) (h : Hp) (g : D31.g R fr h) : den prog E (cAt C [true, true, true, true, false]) (Ex.then (D3.g R) (retQ E [.tmp 2] R)) fr h := by
  obtain ⟨a0, l0, c0, e0, g⟩ := gSlice_elim g
  obtain ⟨a5, l5, c5, e5, g⟩ := gSlice_elim g
  exact den_cut 1 (r := (cAt C [true, true, true, true, false, true])) (by kernel_rfl) (B41.ok R) (den_enter [(0, .slice a0 l0 c0), (5, .slice a5 l5 c5)] ⟨e0, e5, trivial⟩ (by kernel_rfl) g)
theorem W42.ok (R : Rt) (fr : Fr) (h : Hp) (g : D31.g R fr h) : den prog E (cAt C [true, true, true, true]) (retQ E [.tmp 2] R) fr h :=
  den_then (by kernel_rfl) (D3.ok R) (D31.ok R fr h g)
def L44.g (N : Option Addr → Nat → Nat → Option Addr → Nat → Nat → Int → Hp → Prop) (fr : Fr) (h : Hp) : Prop := gSlice (fr 0) fun a0 l0 c0 => gSlice (fr 5) fun a5 l5 c5 => gInt .i64 (fr 6) fun x6 => N a0 l0 c0 a5 l5 c5 x6 h
def D46.t (R : Rt) (N44 : Option Addr → Nat → Nat → Option Addr → Nat → Nat → Int → Hp → Prop) (a0 : Option Addr) (l0 : Nat) (c0 : Nat) (a5 : Option Addr) (l5 : Nat) (c5 : Nat) (x6 : Int) (h : Hp) : Prop :=
  letK (IntKind.i64.wrap (x6 + 1)) fun n100 => N44 a0 l0 c0 a5 l5 c5 n100 h
def D46.g (R : Rt) (N44 : Option Addr → Nat → Nat → Option Addr → Nat → Nat → Int → Hp → Prop) (fr : Fr) (h : Hp) : Prop := gSlice (fr 0) fun a0 l0 c0 => gSlice (fr 5) fun a5 l5 c5 => gInt .i64 (fr 6) fun x6 => D46.t R N44 a0 l0 c0 a5 l5 c5 x6 h
theorem D46.ok (R : Rt) (N44 : Option Addr → Nat → Nat → Option Addr → Nat → Nat → Int → Hp → Prop) (fr : Fr) (h : Hp) (g : D46.g R N44 fr h) : den prog E (cAt C [true, true, true, false, true, false, false, true, true]) (Ex.then (L44.g N44) (Ex.inBlock 4 (Ex.then (D31.g R) (retQ E [.tmp 2] R)))) fr h := by
  obtain ⟨a0, l0, c0, e0, g⟩ := gSlice_elim g
  obtain ⟨a5, l5, c5, e5, g⟩ := gSlice_elim g
  obtain ⟨x6, e6, g⟩ := gInt_elim g
  exact den_enter [(0, .slice a0 l0 c0), (5, .slice a5 l5 c5), (6, .int .i64 x6)] ⟨e0, e5, e6, trivial⟩ (by kernel_rfl) g
def D48.t (R : Rt) (N44 : Option Addr → Nat → Nat → Option Addr → Nat → Nat → Int → Hp → Prop) (a0 : Option Addr) (l0 : Nat) (c0 : Nat) (a5 : Option Addr) (l5 : Nat) (c5 : Nat) (x6 : Int) (a7 : Option Addr) (l7 : Nat) (c7 : Nat) (h : Hp) : Prop :=
  idxK a5 l5 x6 1 fun q104 => stK h q104 (.slice a7 l7 c7) fun h105 => D46.t R N44 a0 l0 c0 a5 l5 c5 x6 h105
def D48.g (R : Rt) (N44 : Option Addr → Nat → Nat → Option Addr → Nat → Nat → Int → Hp → Prop) (fr : Fr) (h : Hp) : Prop := gSlice (fr 0) fun a0 l0 c0 => gSlice (fr 5) fun a5 l5 c5 => gInt .i64 (fr 6) fun x6 => gSlice (fr 7) fun a7 l7 c7 => D48.t R N44 a0 l0 c0 a5 l5 c5 x6 a7 l7 c7 h
theorem D48.ok (R : Rt) (N44 : Option Addr → Nat → Nat → Option Addr → Nat → Nat → Int → Hp → Prop) (fr : Fr) (h : Hp) (g : D48.g R N44 fr h) : den prog E (cAt C [true, true, true, false, true, false, false, true, false, false, true, true]) (Ex.inBlock 5 (Ex.then (D46.g R N44) (Ex.then (L44.g N44) (Ex.inBlock 4 (Ex.then (D31.g R) (retQ E [.tmp 2] R)))))) fr h := by
  obtain ⟨a0, l0, c0, e0, g⟩ := gSlice_elim g
  obtain ⟨a5, l5, c5, e5, g⟩ := gSlice_elim g
  obtain ⟨x6, e6, g⟩ := gInt_elim g
  obtain ⟨a7, l7, c7, e7, g⟩ := gSlice_elim g
  exact den_enter [(0, .slice a0 l0 c0), (5, .slice a5 l5 c5), (6, .int .i64 x6), (7, .slice a7 l7 c7)] ⟨e0, e5, e6, e7, trivial⟩ (by kernel_rfl) g
def L50.g (N : Option Addr → Nat → Nat → Option Addr → Nat → Nat → Int → Option Addr → Nat → Nat → Int → Hp → Prop) (fr : Fr) (h : Hp) : Prop := gSlice (fr 0) fun a0 l0 c0 => gSlice (fr 5) fun a5 l5 c5 => gInt .i64 (fr 6) fun x6 => gSlice (fr 7) fun a7 l7 c7 => gInt .i64 (fr 8) fun x8 => N a0 l0 c0 a5 l5 c5 x6 a7 l7 c7 x8 h
def D51.t (R : Rt) (N44 : Option Addr → Nat → Nat → Option Addr → Nat → Nat → Int → Hp → Prop) (N50 : Option Addr → Nat → Nat → Option Addr → Nat → Nat → Int → Option Addr → Nat → Nat → Int → Hp → Prop) (a0 : Option Addr) (l0 : Nat) (c0 : Nat) (a5 : Option Addr) (l5 : Nat) (c5 : Nat) (x6 : Int) (a7 : Option Addr) (l7 : Nat) (c7 : Nat) (x8 : Int) (h : Hp) : Prop :=
  cond (decide (x8 < 16)) (letK (IntKind.i64.wrap (100000 + x8)) fun n106 =>
  HQC gnomonlaw03_mark.id #[.int .i64 x6, .int .i64 n106] h fun v107 =>
  gInt .u64 v107 fun x_108 =>
  boxK h 27 [.int .u64 x_108] fun q109 h110 =>
  apK h110 27 T27 a7 l7 c7 (.slice (some q109) 1 1) fun a_111 l_111 c_111 h111 =>
  letK (IntKind.i64.wrap (x8 + 1)) fun n112 =>
  N50 a0 l0 c0 a5 l5 c5 x6 a_111 l_111 c_111 n112 h111) (D48.t R N44 a0 l0 c0 a5 l5 c5 x6 a7 l7 c7 h)
def D51.g (R : Rt) (N44 : Option Addr → Nat → Nat → Option Addr → Nat → Nat → Int → Hp → Prop) (N50 : Option Addr → Nat → Nat → Option Addr → Nat → Nat → Int → Option Addr → Nat → Nat → Int → Hp → Prop) (fr : Fr) (h : Hp) : Prop := gSlice (fr 0) fun a0 l0 c0 => gSlice (fr 5) fun a5 l5 c5 => gInt .i64 (fr 6) fun x6 => gSlice (fr 7) fun a7 l7 c7 => gInt .i64 (fr 8) fun x8 => D51.t R N44 N50 a0 l0 c0 a5 l5 c5 x6 a7 l7 c7 x8 h
theorem D51.ok (R : Rt) (N44 : Option Addr → Nat → Nat → Option Addr → Nat → Nat → Int → Hp → Prop) (N50 : Option Addr → Nat → Nat → Option Addr → Nat → Nat → Int → Option Addr → Nat → Nat → Int → Hp → Prop) (fr : Fr) (h : Hp) (g : D51.g R N44 N50 fr h) : den prog E (cAt C [true, true, true, false, true, false, false, true, false, false, true, false, true, false, false]) (Ex.then (L50.g N50) (Ex.inBlock 6 (Ex.then (D48.g R N44) (Ex.inBlock 5 (Ex.then (D46.g R N44) (Ex.then (L44.g N44) (Ex.inBlock 4 (Ex.then (D31.g R) (retQ E [.tmp 2] R))))))))) fr h := by
  obtain ⟨a0, l0, c0, e0, g⟩ := gSlice_elim g
  obtain ⟨a5, l5, c5, e5, g⟩ := gSlice_elim g
  obtain ⟨x6, e6, g⟩ := gInt_elim g
  obtain ⟨a7, l7, c7, e7, g⟩ := gSlice_elim g
  obtain ⟨x8, e8, g⟩ := gInt_elim g
  exact den_enter [(0, .slice a0 l0 c0), (5, .slice a5 l5 c5), (6, .int .i64 x6), (7, .slice a7 l7 c7), (8, .int .i64 x8)] ⟨e0, e5, e6, e7, e8, trivial⟩ (by kernel_rfl) g
def L50.t (R : Rt) (N44 : Option Addr → Nat → Nat → Option Addr → Nat → Nat → Int → Hp → Prop) : Nat → Option Addr → Nat → Nat → Option Addr → Nat → Nat → Int → Option Addr → Nat → Nat → Int → Hp → Prop
  | 0 => fun _ _ _ _ _ _ _ _ _ _ _ _ => False
  | n + 1 => fun a0 l0 c0 a5 l5 c5 x6 a7 l7 c7 x8 h => D51.t R N44 (L50.t R N44 n) a0 l0 c0 a5 l5 c5 x6 a7 l7 c7 x8 h
theorem L50.ok (R : Rt) (N44 : Option Addr → Nat → Nat → Option Addr → Nat → Nat → Int → Hp → Prop) (fr : Fr) (h : Hp) (g : L50.g (fun a0 l0 c0 a5 l5 c5 x6 a7 l7 c7 x8 h => ∃ n, L50.t R N44 n a0 l0 c0 a5 l5 c5 x6 a7 l7 c7 x8 h) fr h) : den prog E (cAt C [true, true, true, false, true, false, false, true, false, false, true, false, true, false]) (Ex.inBlock 6 (Ex.then (D48.g R N44) (Ex.inBlock 5 (Ex.then (D46.g R N44) (Ex.then (L44.g N44) (Ex.inBlock 4 (Ex.then (D31.g R) (retQ E [.tmp 2] R)))))))) fr h := by
  obtain ⟨a0, l0, c0, e0, g⟩ := gSlice_elim g
  obtain ⟨a5, l5, c5, e5, g⟩ := gSlice_elim g
  obtain ⟨x6, e6, g⟩ := gInt_elim g
  obtain ⟨a7, l7, c7, e7, g⟩ := gSlice_elim g
  obtain ⟨x8, e8, g⟩ := gInt_elim g
  obtain ⟨n, g⟩ := g
  refine loop_ok (fun n => L50.g (L50.t R N44 n)) (b := (cAt C [true, true, true, false, true, false, false, true, false, false, true, false, true, false, false])) (by kernel_rfl) (fun fr h g => ?_) (fun n => D51.ok R N44 (L50.t R N44 n)) n fr h (gSlice_intro e0 (gSlice_intro e5 (gInt_intro e6 (gSlice_intro e7 (gInt_intro e8 (g))))))
  obtain ⟨a0, l0, c0, e0, g⟩ := gSlice_elim g
  obtain ⟨a5, l5, c5, e5, g⟩ := gSlice_elim g
  obtain ⟨x6, e6, g⟩ := gInt_elim g
  obtain ⟨a7, l7, c7, e7, g⟩ := gSlice_elim g
  obtain ⟨x8, e8, g⟩ := gInt_elim g
  exact g
theorem B52.ok (R : Rt) (N44 : Option Addr → Nat → Nat → Option Addr → Nat → Nat → Int → Hp → Prop) (fr : Fr) (h : Hp) (g : L50.g (fun a0 l0 c0 a5 l5 c5 x6 a7 l7 c7 x8 h => ∃ n, L50.t R N44 n a0 l0 c0 a5 l5 c5 x6 a7 l7 c7 x8 h) fr h) : den prog E (cAt C [true, true, true, false, true, false, false, true, false, false, true, false, true]) (Ex.then (D48.g R N44) (Ex.inBlock 5 (Ex.then (D46.g R N44) (Ex.then (L44.g N44) (Ex.inBlock 4 (Ex.then (D31.g R) (retQ E [.tmp 2] R))))))) fr h :=
  den_block (by kernel_rfl) (L50.ok R N44 fr h g)
def D49.t (R : Rt) (N44 : Option Addr → Nat → Nat → Option Addr → Nat → Nat → Int → Hp → Prop) (a0 : Option Addr) (l0 : Nat) (c0 : Nat) (a5 : Option Addr) (l5 : Nat) (c5 : Nat) (x6 : Int) (a7 : Option Addr) (l7 : Nat) (c7 : Nat) (h : Hp) : Prop :=
  (∃ n, L50.t R N44 n a0 l0 c0 a5 l5 c5 x6 a7 l7 c7 0 h)
def D49.g (R : Rt) (N44 : Option Addr → Nat → Nat → Option Addr → Nat → Nat → Int → Hp → Prop) (fr : Fr) (h : Hp) : Prop := gSlice (fr 0) fun a0 l0 c0 => gSlice (fr 5) fun a5 l5 c5 => gInt .i64 (fr 6) fun x6 => gSlice (fr 7) fun a7 l7 c7 => D49.t R N44 a0 l0 c0 a5 l5 c5 x6 a7 l7 c7 h
theorem D49.ok (R : Rt) (N44 : Option Addr → Nat → Nat → Option Addr → Nat → Nat → Int → Hp → Prop) (fr : Fr) (h : Hp) (g : D49.g R N44 fr h) : den prog E (cAt C [true, true, true, false, true, false, false, true, false, false, true, false]) (Ex.then (D48.g R N44) (Ex.inBlock 5 (Ex.then (D46.g R N44) (Ex.then (L44.g N44) (Ex.inBlock 4 (Ex.then (D31.g R) (retQ E [.tmp 2] R))))))) fr h := by
  obtain ⟨a0, l0, c0, e0, g⟩ := gSlice_elim g
  obtain ⟨a5, l5, c5, e5, g⟩ := gSlice_elim g
  obtain ⟨x6, e6, g⟩ := gInt_elim g
  obtain ⟨a7, l7, c7, e7, g⟩ := gSlice_elim g
  exact den_cut 1 (r := (cAt C [true, true, true, false, true, false, false, true, false, false, true, false, true])) (by kernel_rfl) (B52.ok R N44) (den_enter [(0, .slice a0 l0 c0), (5, .slice a5 l5 c5), (6, .int .i64 x6), (7, .slice a7 l7 c7)] ⟨e0, e5, e6, e7, trivial⟩ (by kernel_rfl) g)
theorem W53.ok (R : Rt) (N44 : Option Addr → Nat → Nat → Option Addr → Nat → Nat → Int → Hp → Prop) (fr : Fr) (h : Hp) (g : D49.g R N44 fr h) : den prog E (cAt C [true, true, true, false, true, false, false, true, false, false, true]) (Ex.inBlock 5 (Ex.then (D46.g R N44) (Ex.then (L44.g N44) (Ex.inBlock 4 (Ex.then (D31.g R) (retQ E [.tmp 2] R)))))) fr h :=
  den_then (by kernel_rfl) (D48.ok R N44) (D49.ok R N44 fr h g)
def D47.t (R : Rt) (N44 : Option Addr → Nat → Nat → Option Addr → Nat → Nat → Int → Hp → Prop) (a0 : Option Addr) (l0 : Nat) (c0 : Nat) (a5 : Option Addr) (l5 : Nat) (c5 : Nat) (x6 : Int) (h : Hp) : Prop :=
  idxK a0 l0 x6 1 fun q101 =>
  ldK h q101 fun v102 =>
  gSlice v102 fun a_103 l_103 c_103 =>
  D49.t R N44 a0 l0 c0 a5 l5 c5 x6 a_103 l_103 c_103 h
def D47.g (R : Rt) (N44 : Option Addr → Nat → Nat → Option Addr → Nat → Nat → Int → Hp → Prop) (fr : Fr) (h : Hp) : Prop := gSlice (fr 0) fun a0 l0 c0 => gSlice (fr 5) fun a5 l5 c5 => gInt .i64 (fr 6) fun x6 => D47.t R N44 a0 l0 c0 a5 l5 c5 x6 h
theorem D47.ok (R : Rt) (N44 : Option Addr → Nat → Nat → Option Addr → Nat → Nat → Int → Hp → Prop) (fr : Fr) (h : Hp) (g : D47.g R N44 fr h) : den prog E (cAt C [true, true, true, false, true, false, false, true, false, false]) (Ex.inBlock 5 (Ex.then (D46.g R N44) (Ex.then (L44.g N44) (Ex.inBlock 4 (Ex.then (D31.g R) (retQ E [.tmp 2] R)))))) fr h := by
  obtain ⟨a0, l0, c0, e0, g⟩ := gSlice_elim g
  obtain ⟨a5, l5, c5, e5, g⟩ := gSlice_elim g
  obtain ⟨x6, e6, g⟩ := gInt_elim g
  exact den_cut 1 (r := (cAt C [true, true, true, false, true, false, false, true, false, false, true])) (by kernel_rfl) (W53.ok R N44) (den_enter [(0, .slice a0 l0 c0), (5, .slice a5 l5 c5), (6, .int .i64 x6)] ⟨e0, e5, e6, trivial⟩ (by kernel_rfl) g)
theorem B54.ok (R : Rt) (N44 : Option Addr → Nat → Nat → Option Addr → Nat → Nat → Int → Hp → Prop) (fr : Fr) (h : Hp) (g : D47.g R N44 fr h) : den prog E (cAt C [true, true, true, false, true, false, false, true, false]) (Ex.then (D46.g R N44) (Ex.then (L44.g N44) (Ex.inBlock 4 (Ex.then (D31.g R) (retQ E [.tmp 2] R))))) fr h :=
  den_block (by kernel_rfl) (D47.ok R N44 fr h g)
theorem W55.ok (R : Rt) (N44 : Option Addr → Nat → Nat → Option Addr → Nat → Nat → Int → Hp → Prop) (fr : Fr) (h : Hp) (g : D47.g R N44 fr h) : den prog E (cAt C [true, true, true, false, true, false, false, true]) (Ex.then (L44.g N44) (Ex.inBlock 4 (Ex.then (D31.g R) (retQ E [.tmp 2] R)))) fr h :=
  den_then (by kernel_rfl) (D46.ok R N44) (B54.ok R N44 fr h g)
def D45.t (R : Rt) (N44 : Option Addr → Nat → Nat → Option Addr → Nat → Nat → Int → Hp → Prop) (a0 : Option Addr) (l0 : Nat) (c0 : Nat) (a5 : Option Addr) (l5 : Nat) (c5 : Nat) (x6 : Int) (h : Hp) : Prop :=
  cond (decide (x6 < (((l0 : Nat) : Int)))) (D47.t R N44 a0 l0 c0 a5 l5 c5 x6 h) (D31.t R a0 l0 c0 a5 l5 c5 h)
def D45.g (R : Rt) (N44 : Option Addr → Nat → Nat → Option Addr → Nat → Nat → Int → Hp → Prop) (fr : Fr) (h : Hp) : Prop := gSlice (fr 0) fun a0 l0 c0 => gSlice (fr 5) fun a5 l5 c5 => gInt .i64 (fr 6) fun x6 => D45.t R N44 a0 l0 c0 a5 l5 c5 x6 h
theorem D45.ok (R : Rt) (N44 : Option Addr → Nat → Nat → Option Addr → Nat → Nat → Int → Hp → Prop) (fr : Fr) (h : Hp) (g : D45.g R N44 fr h) : den prog E (cAt C [true, true, true, false, true, false, false]) (Ex.then (L44.g N44) (Ex.inBlock 4 (Ex.then (D31.g R) (retQ E [.tmp 2] R)))) fr h := by
  obtain ⟨a0, l0, c0, e0, g⟩ := gSlice_elim g
  obtain ⟨a5, l5, c5, e5, g⟩ := gSlice_elim g
  obtain ⟨x6, e6, g⟩ := gInt_elim g
  exact den_cut 1 (r := (cAt C [true, true, true, false, true, false, false, true])) (by kernel_rfl) (W55.ok R N44) (den_enter [(0, .slice a0 l0 c0), (5, .slice a5 l5 c5), (6, .int .i64 x6)] ⟨e0, e5, e6, trivial⟩ (by kernel_rfl) g)
def L44.t (R : Rt) : Nat → Option Addr → Nat → Nat → Option Addr → Nat → Nat → Int → Hp → Prop
  | 0 => fun _ _ _ _ _ _ _ _ => False
  | n + 1 => fun a0 l0 c0 a5 l5 c5 x6 h => D45.t R (L44.t R n) a0 l0 c0 a5 l5 c5 x6 h
theorem L44.ok (R : Rt) (fr : Fr) (h : Hp) (g : L44.g (fun a0 l0 c0 a5 l5 c5 x6 h => ∃ n, L44.t R n a0 l0 c0 a5 l5 c5 x6 h) fr h) : den prog E (cAt C [true, true, true, false, true, false]) (Ex.inBlock 4 (Ex.then (D31.g R) (retQ E [.tmp 2] R))) fr h := by
  obtain ⟨a0, l0, c0, e0, g⟩ := gSlice_elim g
  obtain ⟨a5, l5, c5, e5, g⟩ := gSlice_elim g
  obtain ⟨x6, e6, g⟩ := gInt_elim g
  obtain ⟨n, g⟩ := g
  refine loop_ok (fun n => L44.g (L44.t R n)) (b := (cAt C [true, true, true, false, true, false, false])) (by kernel_rfl) (fun fr h g => ?_) (fun n => D45.ok R (L44.t R n)) n fr h (gSlice_intro e0 (gSlice_intro e5 (gInt_intro e6 (g))))
  obtain ⟨a0, l0, c0, e0, g⟩ := gSlice_elim g
  obtain ⟨a5, l5, c5, e5, g⟩ := gSlice_elim g
  obtain ⟨x6, e6, g⟩ := gInt_elim g
  exact g
theorem B56.ok (R : Rt) (fr : Fr) (h : Hp) (g : L44.g (fun a0 l0 c0 a5 l5 c5 x6 h => ∃ n, L44.t R n a0 l0 c0 a5 l5 c5 x6 h) fr h) : den prog E (cAt C [true, true, true, false, true]) (Ex.then (D31.g R) (retQ E [.tmp 2] R)) fr h :=
  den_block (by kernel_rfl) (L44.ok R fr h g)
def D43.t (R : Rt) (a0 : Option Addr) (l0 : Nat) (c0 : Nat) (a5 : Option Addr) (l5 : Nat) (c5 : Nat) (h : Hp) : Prop :=
  (∃ n, L44.t R n a0 l0 c0 a5 l5 c5 0 h)
def D43.g (R : Rt) (fr : Fr) (h : Hp) : Prop := gSlice (fr 0) fun a0 l0 c0 => gSlice (fr 5) fun a5 l5 c5 => D43.t R a0 l0 c0 a5 l5 c5 h
theorem D43.ok (R : Rt) (fr : Fr) (h : Hp) (g : D43.g R fr h) : den prog E (cAt C [true, true, true, false]) (Ex.then (D31.g R) (retQ E [.tmp 2] R)) fr h := by
  obtain ⟨a0, l0, c0, e0, g⟩ := gSlice_elim g
  obtain ⟨a5, l5, c5, e5, g⟩ := gSlice_elim g
  exact den_cut 1 (r := (cAt C [true, true, true, false, true])) (by kernel_rfl) (B56.ok R) (den_enter [(0, .slice a0 l0 c0), (5, .slice a5 l5 c5)] ⟨e0, e5, trivial⟩ (by kernel_rfl) g)
theorem W57.ok (R : Rt) (fr : Fr) (h : Hp) (g : D43.g R fr h) : den prog E (cAt C [true, true, true]) (retQ E [.tmp 2] R) fr h :=
  den_then (by kernel_rfl) (W42.ok R) (D43.ok R fr h g)
def D2.t (R : Rt) (a0 : Option Addr) (l0 : Nat) (c0 : Nat) (h : Hp) : Prop :=
  mkK h 22 T22 (((l0 : Nat) : Int)) (((l0 : Nat) : Int)) fun q1 h2 =>
  D43.t R a0 l0 c0 (some q1) ((((l0 : Nat) : Int)).toNat) ((((l0 : Nat) : Int)).toNat) h2
def D2.g (R : Rt) (fr : Fr) (h : Hp) : Prop := gSlice (fr 0) fun a0 l0 c0 => D2.t R a0 l0 c0 h
theorem D2.ok (R : Rt) (fr : Fr) (h : Hp) (g : D2.g R fr h) : den prog E (cAt C [true, true]) (retQ E [.tmp 2] R) fr h := by
  obtain ⟨a0, l0, c0, e0, g⟩ := gSlice_elim g
  exact den_cut 1 (r := (cAt C [true, true, true])) (by kernel_rfl) (W57.ok R) (den_enter [(0, .slice a0 l0 c0)] ⟨e0, trivial⟩ (by kernel_rfl) g)
def L59.g (N : Option Addr → Nat → Nat → Int → Hp → Prop) (fr : Fr) (h : Hp) : Prop := gSlice (fr 0) fun a0 l0 c0 => gInt .i64 (fr 3) fun x3 => N a0 l0 c0 x3 h
def D61.t (R : Rt) (N59 : Option Addr → Nat → Nat → Int → Hp → Prop) (a0 : Option Addr) (l0 : Nat) (c0 : Nat) (x3 : Int) (h : Hp) : Prop :=
  letK (IntKind.i64.wrap (x3 + 1)) fun n113 => N59 a0 l0 c0 n113 h
def D61.g (R : Rt) (N59 : Option Addr → Nat → Nat → Int → Hp → Prop) (fr : Fr) (h : Hp) : Prop := gSlice (fr 0) fun a0 l0 c0 => gInt .i64 (fr 3) fun x3 => D61.t R N59 a0 l0 c0 x3 h
theorem D61.ok (R : Rt) (N59 : Option Addr → Nat → Nat → Int → Hp → Prop) (fr : Fr) (h : Hp) (g : D61.g R N59 fr h) : den prog E (cAt C [true, false, true, false, false, true, true]) (Ex.then (L59.g N59) (Ex.inBlock 0 (Ex.then (D2.g R) (retQ E [.tmp 2] R)))) fr h := by
  obtain ⟨a0, l0, c0, e0, g⟩ := gSlice_elim g
  obtain ⟨x3, e3, g⟩ := gInt_elim g
  exact den_enter [(0, .slice a0 l0 c0), (3, .int .i64 x3)] ⟨e0, e3, trivial⟩ (by kernel_rfl) g
def L63.g (N : Option Addr → Nat → Nat → Int → Int → Hp → Prop) (fr : Fr) (h : Hp) : Prop := gSlice (fr 0) fun a0 l0 c0 => gInt .i64 (fr 3) fun x3 => gInt .i64 (fr 4) fun x4 => N a0 l0 c0 x3 x4 h
def D64.t (R : Rt) (N59 : Option Addr → Nat → Nat → Int → Hp → Prop) (N63 : Option Addr → Nat → Nat → Int → Int → Hp → Prop) (a0 : Option Addr) (l0 : Nat) (c0 : Nat) (x3 : Int) (x4 : Int) (h : Hp) : Prop :=
  idxK a0 l0 x3 1 fun q114 =>
  ldK h q114 fun v115 =>
  gSlice v115 fun a_116 l_116 c_116 =>
  cond (decide (x4 < (((l_116 : Nat) : Int)))) (idxK a0 l0 x3 1 fun q117 =>
  ldK h q117 fun v118 =>
  gSlice v118 fun a_119 l_119 c_119 =>
  HQC gnomonlaw03_mark.id #[.int .i64 x3, .int .i64 x4] h fun v120 =>
  gInt .u64 v120 fun x_121 =>
  idxK a_119 l_119 x4 1 fun q122 =>
  stK h q122 (.int .u64 x_121) fun h123 =>
  letK (IntKind.i64.wrap (x4 + 1)) fun n124 =>
  N63 a0 l0 c0 x3 n124 h123) (D61.t R N59 a0 l0 c0 x3 h)
def D64.g (R : Rt) (N59 : Option Addr → Nat → Nat → Int → Hp → Prop) (N63 : Option Addr → Nat → Nat → Int → Int → Hp → Prop) (fr : Fr) (h : Hp) : Prop := gSlice (fr 0) fun a0 l0 c0 => gInt .i64 (fr 3) fun x3 => gInt .i64 (fr 4) fun x4 => D64.t R N59 N63 a0 l0 c0 x3 x4 h
theorem D64.ok (R : Rt) (N59 : Option Addr → Nat → Nat → Int → Hp → Prop) (N63 : Option Addr → Nat → Nat → Int → Int → Hp → Prop) (fr : Fr) (h : Hp) (g : D64.g R N59 N63 fr h) : den prog E (cAt C [true, false, true, false, false, true, false, false, true, false, false]) (Ex.then (L63.g N63) (Ex.inBlock 2 (Ex.inBlock 1 (Ex.then (D61.g R N59) (Ex.then (L59.g N59) (Ex.inBlock 0 (Ex.then (D2.g R) (retQ E [.tmp 2] R)))))))) fr h := by
  obtain ⟨a0, l0, c0, e0, g⟩ := gSlice_elim g
  obtain ⟨x3, e3, g⟩ := gInt_elim g
  obtain ⟨x4, e4, g⟩ := gInt_elim g
  exact den_enter [(0, .slice a0 l0 c0), (3, .int .i64 x3), (4, .int .i64 x4)] ⟨e0, e3, e4, trivial⟩ (by kernel_rfl) g
def L63.t (R : Rt) (N59 : Option Addr → Nat → Nat → Int → Hp → Prop) : Nat → Option Addr → Nat → Nat → Int → Int → Hp → Prop
  | 0 => fun _ _ _ _ _ _ => False
  | n + 1 => fun a0 l0 c0 x3 x4 h => D64.t R N59 (L63.t R N59 n) a0 l0 c0 x3 x4 h
theorem L63.ok (R : Rt) (N59 : Option Addr → Nat → Nat → Int → Hp → Prop) (fr : Fr) (h : Hp) (g : L63.g (fun a0 l0 c0 x3 x4 h => ∃ n, L63.t R N59 n a0 l0 c0 x3 x4 h) fr h) : den prog E (cAt C [true, false, true, false, false, true, false, false, true, false]) (Ex.inBlock 2 (Ex.inBlock 1 (Ex.then (D61.g R N59) (Ex.then (L59.g N59) (Ex.inBlock 0 (Ex.then (D2.g R) (retQ E [.tmp 2] R))))))) fr h := by
  obtain ⟨a0, l0, c0, e0, g⟩ := gSlice_elim g
  obtain ⟨x3, e3, g⟩ := gInt_elim g
  obtain ⟨x4, e4, g⟩ := gInt_elim g
  obtain ⟨n, g⟩ := g
  refine loop_ok (fun n => L63.g (L63.t R N59 n)) (b := (cAt C [true, false, true, false, false, true, false, false, true, false, false])) (by kernel_rfl) (fun fr h g => ?_) (fun n => D64.ok R N59 (L63.t R N59 n)) n fr h (gSlice_intro e0 (gInt_intro e3 (gInt_intro e4 (g))))
  obtain ⟨a0, l0, c0, e0, g⟩ := gSlice_elim g
  obtain ⟨x3, e3, g⟩ := gInt_elim g
  obtain ⟨x4, e4, g⟩ := gInt_elim g
  exact g
theorem B65.ok (R : Rt) (N59 : Option Addr → Nat → Nat → Int → Hp → Prop) (fr : Fr) (h : Hp) (g : L63.g (fun a0 l0 c0 x3 x4 h => ∃ n, L63.t R N59 n a0 l0 c0 x3 x4 h) fr h) : den prog E (cAt C [true, false, true, false, false, true, false, false, true]) (Ex.inBlock 1 (Ex.then (D61.g R N59) (Ex.then (L59.g N59) (Ex.inBlock 0 (Ex.then (D2.g R) (retQ E [.tmp 2] R)))))) fr h :=
  den_block (by kernel_rfl) (L63.ok R N59 fr h g)
def D62.t (R : Rt) (N59 : Option Addr → Nat → Nat → Int → Hp → Prop) (a0 : Option Addr) (l0 : Nat) (c0 : Nat) (x3 : Int) (h : Hp) : Prop :=
  (∃ n, L63.t R N59 n a0 l0 c0 x3 0 h)
def D62.g (R : Rt) (N59 : Option Addr → Nat → Nat → Int → Hp → Prop) (fr : Fr) (h : Hp) : Prop := gSlice (fr 0) fun a0 l0 c0 => gInt .i64 (fr 3) fun x3 => D62.t R N59 a0 l0 c0 x3 h
theorem D62.ok (R : Rt) (N59 : Option Addr → Nat → Nat → Int → Hp → Prop) (fr : Fr) (h : Hp) (g : D62.g R N59 fr h) : den prog E (cAt C [true, false, true, false, false, true, false, false]) (Ex.inBlock 1 (Ex.then (D61.g R N59) (Ex.then (L59.g N59) (Ex.inBlock 0 (Ex.then (D2.g R) (retQ E [.tmp 2] R)))))) fr h := by
  obtain ⟨a0, l0, c0, e0, g⟩ := gSlice_elim g
  obtain ⟨x3, e3, g⟩ := gInt_elim g
  exact den_cut 1 (r := (cAt C [true, false, true, false, false, true, false, false, true])) (by kernel_rfl) (B65.ok R N59) (den_enter [(0, .slice a0 l0 c0), (3, .int .i64 x3)] ⟨e0, e3, trivial⟩ (by kernel_rfl) g)
theorem B66.ok (R : Rt) (N59 : Option Addr → Nat → Nat → Int → Hp → Prop) (fr : Fr) (h : Hp) (g : D62.g R N59 fr h) : den prog E (cAt C [true, false, true, false, false, true, false]) (Ex.then (D61.g R N59) (Ex.then (L59.g N59) (Ex.inBlock 0 (Ex.then (D2.g R) (retQ E [.tmp 2] R))))) fr h :=
  den_block (by kernel_rfl) (D62.ok R N59 fr h g)
theorem W67.ok (R : Rt) (N59 : Option Addr → Nat → Nat → Int → Hp → Prop) (fr : Fr) (h : Hp) (g : D62.g R N59 fr h) : den prog E (cAt C [true, false, true, false, false, true]) (Ex.then (L59.g N59) (Ex.inBlock 0 (Ex.then (D2.g R) (retQ E [.tmp 2] R)))) fr h :=
  den_then (by kernel_rfl) (D61.ok R N59) (B66.ok R N59 fr h g)
def D60.t (R : Rt) (N59 : Option Addr → Nat → Nat → Int → Hp → Prop) (a0 : Option Addr) (l0 : Nat) (c0 : Nat) (x3 : Int) (h : Hp) : Prop :=
  cond (decide (x3 < (((l0 : Nat) : Int)))) (D62.t R N59 a0 l0 c0 x3 h) (D2.t R a0 l0 c0 h)
def D60.g (R : Rt) (N59 : Option Addr → Nat → Nat → Int → Hp → Prop) (fr : Fr) (h : Hp) : Prop := gSlice (fr 0) fun a0 l0 c0 => gInt .i64 (fr 3) fun x3 => D60.t R N59 a0 l0 c0 x3 h
theorem D60.ok (R : Rt) (N59 : Option Addr → Nat → Nat → Int → Hp → Prop) (fr : Fr) (h : Hp) (g : D60.g R N59 fr h) : den prog E (cAt C [true, false, true, false, false]) (Ex.then (L59.g N59) (Ex.inBlock 0 (Ex.then (D2.g R) (retQ E [.tmp 2] R)))) fr h := by
  obtain ⟨a0, l0, c0, e0, g⟩ := gSlice_elim g
  obtain ⟨x3, e3, g⟩ := gInt_elim g
  exact den_cut 1 (r := (cAt C [true, false, true, false, false, true])) (by kernel_rfl) (W67.ok R N59) (den_enter [(0, .slice a0 l0 c0), (3, .int .i64 x3)] ⟨e0, e3, trivial⟩ (by kernel_rfl) g)
def L59.t (R : Rt) : Nat → Option Addr → Nat → Nat → Int → Hp → Prop
  | 0 => fun _ _ _ _ _ => False
  | n + 1 => fun a0 l0 c0 x3 h => D60.t R (L59.t R n) a0 l0 c0 x3 h
theorem L59.ok (R : Rt) (fr : Fr) (h : Hp) (g : L59.g (fun a0 l0 c0 x3 h => ∃ n, L59.t R n a0 l0 c0 x3 h) fr h) : den prog E (cAt C [true, false, true, false]) (Ex.inBlock 0 (Ex.then (D2.g R) (retQ E [.tmp 2] R))) fr h := by
  obtain ⟨a0, l0, c0, e0, g⟩ := gSlice_elim g
  obtain ⟨x3, e3, g⟩ := gInt_elim g
  obtain ⟨n, g⟩ := g
  refine loop_ok (fun n => L59.g (L59.t R n)) (b := (cAt C [true, false, true, false, false])) (by kernel_rfl) (fun fr h g => ?_) (fun n => D60.ok R (L59.t R n)) n fr h (gSlice_intro e0 (gInt_intro e3 (g)))
  obtain ⟨a0, l0, c0, e0, g⟩ := gSlice_elim g
  obtain ⟨x3, e3, g⟩ := gInt_elim g
  exact g
theorem B68.ok (R : Rt) (fr : Fr) (h : Hp) (g : L59.g (fun a0 l0 c0 x3 h => ∃ n, L59.t R n a0 l0 c0 x3 h) fr h) : den prog E (cAt C [true, false, true]) (Ex.then (D2.g R) (retQ E [.tmp 2] R)) fr h :=
  den_block (by kernel_rfl) (L59.ok R fr h g)
def D58.t (R : Rt) (a0 : Option Addr) (l0 : Nat) (c0 : Nat) (h : Hp) : Prop :=
  (∃ n, L59.t R n a0 l0 c0 0 h)
def D58.g (R : Rt) (fr : Fr) (h : Hp) : Prop := gSlice (fr 0) fun a0 l0 c0 => D58.t R a0 l0 c0 h
theorem D58.ok (R : Rt) (fr : Fr) (h : Hp) (g : D58.g R fr h) : den prog E (cAt C [true, false]) (Ex.then (D2.g R) (retQ E [.tmp 2] R)) fr h := by
  obtain ⟨a0, l0, c0, e0, g⟩ := gSlice_elim g
  exact den_cut 1 (r := (cAt C [true, false, true])) (by kernel_rfl) (B68.ok R) (den_enter [(0, .slice a0 l0 c0)] ⟨e0, trivial⟩ (by kernel_rfl) g)
theorem W69.ok (R : Rt) (fr : Fr) (h : Hp) (g : D58.g R fr h) : den prog E (cAt C [true]) (retQ E [.tmp 2] R) fr h :=
  den_then (by kernel_rfl) (D2.ok R) (D58.ok R fr h g)
def D1.t (R : Rt) (a0 : Option Addr) (l0 : Nat) (c0 : Nat) (h : Hp) : Prop :=
  D58.t R a0 l0 c0 h
def D1.g (R : Rt) (fr : Fr) (h : Hp) : Prop := gSlice (fr 0) fun a0 l0 c0 => D1.t R a0 l0 c0 h
theorem D1.ok (R : Rt) (fr : Fr) (h : Hp) (g : D1.g R fr h) : den prog E C (retQ E [.tmp 2] R) fr h := by
  obtain ⟨a0, l0, c0, e0, g⟩ := gSlice_elim g
  exact den_cut 1 (r := (cAt C [true])) (by kernel_rfl) (W69.ok R) (den_enter [(0, .slice a0 l0 c0)] ⟨e0, trivial⟩ (by kernel_rfl) g)
def t (a0 : Option Addr) (l0 : Nat) (c0 : Nat) (h : Hp) (R : Rt) : Prop := D1.t R a0 l0 c0 h
theorem ok {a0 : Option Addr} {l0 : Nat} {c0 : Nat} {h : Hp} {R : Rt} (g : t a0 l0 c0 h R) : HC id #[.slice a0 l0 c0] h R :=
  calls_of_den' envOk (c := C) (rs := [.tmp 2]) Try.func23 (by kernel_rfl) (by kernel_rfl) (by kernel_rfl) (args := [.slice a0 l0 c0]) (by kernel_rfl) (D1.ok R _ h (gSlice_intro rfl (g)))
end gnomonlaw03_apart

namespace gnomonlaw03_awake
noncomputable def C : Code := bodyOf Try.f24
def D2.t (R : Rt) (a1 : Option Addr) (l1 : Nat) (c1 : Nat) (a2 : Option Addr) (l2 : Nat) (c2 : Nat) (a4 : Option Addr) (l4 : Nat) (c4 : Nat) (a5 : Option Addr) (l5 : Nat) (c5 : Nat) (h : Hp) : Prop :=
  idxK a1 l1 0 1 fun q25 =>
  ldK h q25 fun v26 =>
  gInt .u64 v26 fun x_27 =>
  cond (x_27 == 2) (idxK a2 l2 0 1 fun q28 =>
  ldK h q28 fun v29 =>
  gInt .u64 v29 fun x_30 =>
  cond (x_30 == 1) (idxK a4 l4 0 1 fun q31 =>
  ldK h q31 fun v32 =>
  gInt .u64 v32 fun x_33 =>
  cond (x_33 == 2) (idxK a5 l5 0 1 fun q34 =>
  ldK h q34 fun v35 =>
  gInt .u64 v35 fun x_36 =>
  R (.bool (x_36 == 3)) h) (R (.bool false) h)) (R (.bool false) h)) (R (.bool false) h)
def D2.g (R : Rt) (fr : Fr) (h : Hp) : Prop := gSlice (fr 1) fun a1 l1 c1 => gSlice (fr 2) fun a2 l2 c2 => gSlice (fr 4) fun a4 l4 c4 => gSlice (fr 5) fun a5 l5 c5 => D2.t R a1 l1 c1 a2 l2 c2 a4 l4 c4 a5 l5 c5 h
theorem D2.ok (R : Rt) (fr : Fr) (h : Hp) (g : D2.g R fr h) : den prog E (cAt C [true, true, true, true]) (retQ E [.tmp 0] R) fr h := by
  obtain ⟨a1, l1, c1, e1, g⟩ := gSlice_elim g
  obtain ⟨a2, l2, c2, e2, g⟩ := gSlice_elim g
  obtain ⟨a4, l4, c4, e4, g⟩ := gSlice_elim g
  obtain ⟨a5, l5, c5, e5, g⟩ := gSlice_elim g
  exact den_enter [(1, .slice a1 l1 c1), (2, .slice a2 l2 c2), (4, .slice a4 l4 c4), (5, .slice a5 l5 c5)] ⟨e1, e2, e4, e5, trivial⟩ (by kernel_rfl) g
def D1.t (R : Rt)  (h : Hp) : Prop :=
  boxK h 27 [.int .u64 7] fun q1 h2 =>
  boxK h2 27 [.int .u64 3] fun q3 h4 =>
  HC natdiv_QuoRem.id #[.slice (some q1) 1 1, .slice (some q3) 1 1] h4 fun v5 h6 =>
  gTup v5 fun y7 =>
  uncons y7 fun v8 y8 =>
  gSlice v8 fun a_9 l_9 c_9 =>
  uncons y8 fun v10 y10 =>
  gSlice v10 fun a_11 l_11 c_11 =>
  uncons y10 fun v12 y12 =>
  gInt .i64 v12 fun x_13 =>
  unnil y12 <| boxK h6 27 [.int .u64 7] fun q14 h15 =>
  HC natdiv_Root.id #[.slice (some q14) 1 1] h15 fun v16 h17 =>
  gTup v16 fun y18 =>
  uncons y18 fun v19 y19 =>
  gSlice v19 fun a_20 l_20 c_20 =>
  uncons y19 fun v21 y21 =>
  gSlice v21 fun a_22 l_22 c_22 =>
  uncons y21 fun v23 y23 =>
  gInt .i64 v23 fun x_24 =>
  unnil y23 <| cond (x_13 != 0) (R (.bool false) h17) (cond (x_24 != 0) (R (.bool false) h17) (cond ((((l_9 : Nat) : Int)) != 1) (R (.bool false) h17) (cond ((((l_11 : Nat) : Int)) != 1) (R (.bool false) h17) (cond ((((l_20 : Nat) : Int)) != 1) (R (.bool false) h17) (cond ((((l_22 : Nat) : Int)) != 1) (R (.bool false) h17) (D2.t R a_9 l_9 c_9 a_11 l_11 c_11 a_20 l_20 c_20 a_22 l_22 c_22 h17))))))
def D1.g (R : Rt) (fr : Fr) (h : Hp) : Prop := D1.t R  h
theorem D1.ok (R : Rt) (fr : Fr) (h : Hp) (g : D1.g R fr h) : den prog E C (retQ E [.tmp 0] R) fr h := by
  exact den_cut 4 (r := (cAt C [true, true, true, true])) (by kernel_rfl) (D2.ok R) (den_enter [] trivial (by kernel_rfl) g)
def t  (h : Hp) (R : Rt) : Prop := D1.t R h
theorem ok  {h : Hp} {R : Rt} (g : t  h R) : HC id #[] h R :=
  calls_of_den' envOk (c := C) (rs := [.tmp 0]) Try.func24 (by kernel_rfl) (by kernel_rfl) (by kernel_rfl) (args := []) (by kernel_rfl) (D1.ok R _ h (g))
end gnomonlaw03_awake

namespace gnomonref01_DocForm
noncomputable def C : Code := bodyOf Try.f25
def D1.t (R : Rt) (a0 : Option Addr) (l0 : Nat) (c0 : Nat) (h : Hp) : Prop :=
  cond (decide ((((l0 : Nat) : Int)) ≤ 8192)) (cond ((((l0 : Nat) : Int)) == 0) (R (.bool true) h) (letK (IntKind.i64.wrap ((((l0 : Nat) : Int)) - 1)) fun n1 =>
  idxK a0 l0 n1 1 fun q2 =>
  ldK h q2 fun v3 =>
  gInt .u64 v3 fun x_4 =>
  R (.bool (x_4 != 0)) h)) (R (.bool false) h)
def D1.g (R : Rt) (fr : Fr) (h : Hp) : Prop := gSlice (fr 0) fun a0 l0 c0 => D1.t R a0 l0 c0 h
theorem D1.ok (R : Rt) (fr : Fr) (h : Hp) (g : D1.g R fr h) : den prog E C (retQ E [.tmp 2] R) fr h := by
  obtain ⟨a0, l0, c0, e0, g⟩ := gSlice_elim g
  exact den_enter [(0, .slice a0 l0 c0)] ⟨e0, trivial⟩ (by kernel_rfl) g
def t (a0 : Option Addr) (l0 : Nat) (c0 : Nat) (h : Hp) (R : Rt) : Prop := D1.t R a0 l0 c0 h
theorem ok {a0 : Option Addr} {l0 : Nat} {c0 : Nat} {h : Hp} {R : Rt} (g : t a0 l0 c0 h R) : HC id #[.slice a0 l0 c0] h R :=
  calls_of_den' envOk (c := C) (rs := [.tmp 2]) Try.func25 (by kernel_rfl) (by kernel_rfl) (by kernel_rfl) (args := [.slice a0 l0 c0]) (by kernel_rfl) (D1.ok R _ h (gSlice_intro rfl (g)))
end gnomonref01_DocForm

namespace natdiv_QuoRem
noncomputable def C : Code := bodyOf Try.f26
def D2.t (R : Rt) (a0 : Option Addr) (l0 : Nat) (c0 : Nat) (a1 : Option Addr) (l1 : Nat) (c1 : Nat) (h : Hp) : Prop :=
  cond ((((l1 : Nat) : Int)) == 0) (R (.tuple #[.slice none 0 0, .slice none 0 0, .int .i64 4]) h) (HC nat_Cmp.id #[.slice a0 l0 c0, .slice a1 l1 c1] h fun v7 h8 =>
  gInt .i64 v7 fun x_9 =>
  cond (decide (x_9 < 0)) (HC nat_Norm.id #[.slice a0 l0 c0] h8 fun v10 h11 =>
  gTup v10 fun y12 =>
  uncons y12 fun v13 y13 =>
  gSlice v13 fun a_14 l_14 c_14 =>
  uncons y13 fun v15 y15 =>
  gInt .i64 v15 fun x_16 =>
  unnil y15 <| R (.tuple #[.slice none 0 0, .slice a_14 l_14 c_14, .int .i64 0]) h11) (cond ((((l1 : Nat) : Int)) == 1) (idxK a1 l1 0 1 fun q17 =>
  ldK h8 q17 fun v18 =>
  gInt .u64 v18 fun x_19 =>
  HC nat_DivWord.id #[.slice a0 l0 c0, .int .u64 x_19] h8 fun v20 h21 =>
  gTup v20 fun y22 =>
  uncons y22 fun v23 y23 =>
  gSlice v23 fun a_24 l_24 c_24 =>
  uncons y23 fun v25 y25 =>
  gInt .u64 v25 fun x_26 =>
  uncons y25 fun v27 y27 =>
  gInt .i64 v27 fun x_28 =>
  unnil y27 <| HC nat_Word.id #[.int .u64 x_26] h21 fun v29 h30 =>
  gSlice v29 fun a_31 l_31 c_31 =>
  R (.tuple #[.slice a_24 l_24 c_24, .slice a_31 l_31 c_31, .int .i64 0]) h30) (letK (IntKind.i64.wrap ((((l1 : Nat) : Int)) - 1)) fun n32 =>
  idxK a1 l1 n32 1 fun q33 =>
  ldK h8 q33 fun v34 =>
  gInt .u64 v34 fun x_35 =>
  HC bits_LeadingZeros64.id #[.int .u64 x_35] h8 fun v36 h37 =>
  gInt .i64 v36 fun x_38 =>
  letK (IntKind.i64.wrap ((((l0 : Nat) : Int)) + 1)) fun n39 =>
  HC natdiv_shifted.id #[.slice a0 l0 c0, .int .i64 x_38, .int .i64 n39] h37 fun v40 h41 =>
  gSlice v40 fun a_42 l_42 c_42 =>
  HC natdiv_shifted.id #[.slice a1 l1 c1, .int .i64 x_38, .int .i64 (((l1 : Nat) : Int))] h41 fun v43 h44 =>
  gSlice v43 fun a_45 l_45 c_45 =>
  HC natdiv_long.id #[.slice a_42 l_42 c_42, .slice a_45 l_45 c_45] h44 fun v46 h47 =>
  gSlice v46 fun a_48 l_48 c_48 =>
  slK 1 a_42 l_42 c_42 none (some (.int .i64 (((l_45 : Nat) : Int)))) none fun a_49 l_49 c_49 =>
  HC nat_Norm.id #[.slice a_49 l_49 c_49] h47 fun v50 h51 =>
  gTup v50 fun y52 =>
  uncons y52 fun v53 y53 =>
  gSlice v53 fun a_54 l_54 c_54 =>
  uncons y53 fun v55 y55 =>
  gInt .i64 v55 fun x_56 =>
  unnil y55 <| HC nat_Shr.id #[.slice a_54 l_54 c_54, .int .i64 x_38] h51 fun v57 h58 =>
  gTup v57 fun y59 =>
  uncons y59 fun v60 y60 =>
  gSlice v60 fun a_61 l_61 c_61 =>
  uncons y60 fun v62 y62 =>
  gInt .i64 v62 fun x_63 =>
  unnil y62 <| HC nat_Norm.id #[.slice a_48 l_48 c_48] h58 fun v64 h65 =>
  gTup v64 fun y66 =>
  uncons y66 fun v67 y67 =>
  gSlice v67 fun a_68 l_68 c_68 =>
  uncons y67 fun v69 y69 =>
  gInt .i64 v69 fun x_70 =>
  unnil y69 <| R (.tuple #[.slice a_68 l_68 c_68, .slice a_61 l_61 c_61, .int .i64 0]) h65)))
def D2.g (R : Rt) (fr : Fr) (h : Hp) : Prop := gSlice (fr 0) fun a0 l0 c0 => gSlice (fr 1) fun a1 l1 c1 => D2.t R a0 l0 c0 a1 l1 c1 h
theorem D2.ok (R : Rt) (fr : Fr) (h : Hp) (g : D2.g R fr h) : den prog E (cAt C [true, true]) (retQ E [.tmp 4, .tmp 5, .tmp 6] R) fr h := by
  obtain ⟨a0, l0, c0, e0, g⟩ := gSlice_elim g
  obtain ⟨a1, l1, c1, e1, g⟩ := gSlice_elim g
  exact den_enter [(0, .slice a0 l0 c0), (1, .slice a1 l1 c1)] ⟨e0, e1, trivial⟩ (by kernel_rfl) g
def D1.t (R : Rt) (a0 : Option Addr) (l0 : Nat) (c0 : Nat) (a1 : Option Addr) (l1 : Nat) (c1 : Nat) (h : Hp) : Prop :=
  HC nat_Form.id #[.slice a0 l0 c0] h fun v1 h2 =>
  gBool v1 fun b_3 =>
  cond (!b_3) (R (.tuple #[.slice none 0 0, .slice none 0 0, .int .i64 2]) h2) (HC nat_Form.id #[.slice a1 l1 c1] h2 fun v4 h5 =>
  gBool v4 fun b_6 =>
  cond (!b_6) (R (.tuple #[.slice none 0 0, .slice none 0 0, .int .i64 2]) h5) (D2.t R a0 l0 c0 a1 l1 c1 h5))
def D1.g (R : Rt) (fr : Fr) (h : Hp) : Prop := gSlice (fr 0) fun a0 l0 c0 => gSlice (fr 1) fun a1 l1 c1 => D1.t R a0 l0 c0 a1 l1 c1 h
theorem D1.ok (R : Rt) (fr : Fr) (h : Hp) (g : D1.g R fr h) : den prog E C (retQ E [.tmp 4, .tmp 5, .tmp 6] R) fr h := by
  obtain ⟨a0, l0, c0, e0, g⟩ := gSlice_elim g
  obtain ⟨a1, l1, c1, e1, g⟩ := gSlice_elim g
  exact den_cut 2 (r := (cAt C [true, true])) (by kernel_rfl) (D2.ok R) (den_enter [(0, .slice a0 l0 c0), (1, .slice a1 l1 c1)] ⟨e0, e1, trivial⟩ (by kernel_rfl) g)
def t (a0 : Option Addr) (l0 : Nat) (c0 : Nat) (a1 : Option Addr) (l1 : Nat) (c1 : Nat) (h : Hp) (R : Rt) : Prop := D1.t R a0 l0 c0 a1 l1 c1 h
theorem ok {a0 : Option Addr} {l0 : Nat} {c0 : Nat} {a1 : Option Addr} {l1 : Nat} {c1 : Nat} {h : Hp} {R : Rt} (g : t a0 l0 c0 a1 l1 c1 h R) : HC id #[.slice a0 l0 c0, .slice a1 l1 c1] h R :=
  calls_of_den' envOk (c := C) (rs := [.tmp 4, .tmp 5, .tmp 6]) Try.func26 (by kernel_rfl) (by kernel_rfl) (by kernel_rfl) (args := [.slice a0 l0 c0, .slice a1 l1 c1]) (by kernel_rfl) (D1.ok R _ h (gSlice_intro rfl (gSlice_intro rfl (g))))
end natdiv_QuoRem

namespace gnomonref01_From
noncomputable def C : Code := bodyOf Try.f27
def D2.t (R : Rt) (a3 : Option Addr) (l3 : Nat) (c3 : Nat) (h : Hp) : Prop :=
  HC gnomonref01_Norm.id #[.slice a3 l3 c3] h fun v4 h5 =>
  gSlice v4 fun a_6 l_6 c_6 =>
  R (.slice a_6 l_6 c_6) h5
def D2.g (R : Rt) (fr : Fr) (h : Hp) : Prop := gSlice (fr 3) fun a3 l3 c3 => D2.t R a3 l3 c3 h
theorem D2.ok (R : Rt) (fr : Fr) (h : Hp) (g : D2.g R fr h) : den prog E (cAt C [true, true, true]) (retQ E [.tmp 2] R) fr h := by
  obtain ⟨a3, l3, c3, e3, g⟩ := gSlice_elim g
  exact den_enter [(3, .slice a3 l3 c3)] ⟨e3, trivial⟩ (by kernel_rfl) g
def L4.g (N : Option Addr → Nat → Nat → Option Addr → Nat → Nat → Int → Hp → Prop) (fr : Fr) (h : Hp) : Prop := gSlice (fr 0) fun a0 l0 c0 => gSlice (fr 3) fun a3 l3 c3 => gInt .i64 (fr 4) fun x4 => N a0 l0 c0 a3 l3 c3 x4 h
def D5.t (R : Rt) (N4 : Option Addr → Nat → Nat → Option Addr → Nat → Nat → Int → Hp → Prop) (a0 : Option Addr) (l0 : Nat) (c0 : Nat) (a3 : Option Addr) (l3 : Nat) (c3 : Nat) (x4 : Int) (h : Hp) : Prop :=
  cond (decide (x4 < (((l0 : Nat) : Int)))) (idxK a0 l0 x4 1 fun q7 =>
  ldK h q7 fun v8 =>
  gInt .u64 v8 fun x_9 =>
  letK (andI .u64 x_9 4294967295) fun n10 =>
  letK (IntKind.u32.wrap n10) fun n11 =>
  idxK a0 l0 x4 1 fun q12 =>
  ldK h q12 fun v13 =>
  gInt .u64 v13 fun x_14 =>
  0 ≤ (32 : Int) ∧ letK (shrI .u64 x_14 32) fun n15 =>
  letK (IntKind.u32.wrap n15) fun n16 =>
  boxK h 84 [.int .u32 n11, .int .u32 n16] fun q17 h18 =>
  apK h18 84 T84 a3 l3 c3 (.slice (some q17) 2 2) fun a_19 l_19 c_19 h19 =>
  letK (IntKind.i64.wrap (x4 + 1)) fun n20 =>
  N4 a0 l0 c0 a_19 l_19 c_19 n20 h19) (D2.t R a3 l3 c3 h)
def D5.g (R : Rt) (N4 : Option Addr → Nat → Nat → Option Addr → Nat → Nat → Int → Hp → Prop) (fr : Fr) (h : Hp) : Prop := gSlice (fr 0) fun a0 l0 c0 => gSlice (fr 3) fun a3 l3 c3 => gInt .i64 (fr 4) fun x4 => D5.t R N4 a0 l0 c0 a3 l3 c3 x4 h
theorem D5.ok (R : Rt) (N4 : Option Addr → Nat → Nat → Option Addr → Nat → Nat → Int → Hp → Prop) (fr : Fr) (h : Hp) (g : D5.g R N4 fr h) : den prog E (cAt C [true, true, false, true, false, false]) (Ex.then (L4.g N4) (Ex.inBlock 0 (Ex.then (D2.g R) (retQ E [.tmp 2] R)))) fr h := by
  obtain ⟨a0, l0, c0, e0, g⟩ := gSlice_elim g
  obtain ⟨a3, l3, c3, e3, g⟩ := gSlice_elim g
  obtain ⟨x4, e4, g⟩ := gInt_elim g
  exact den_enter [(0, .slice a0 l0 c0), (3, .slice a3 l3 c3), (4, .int .i64 x4)] ⟨e0, e3, e4, trivial⟩ (by kernel_rfl) g
def L4.t (R : Rt) : Nat → Option Addr → Nat → Nat → Option Addr → Nat → Nat → Int → Hp → Prop
  | 0 => fun _ _ _ _ _ _ _ _ => False
  | n + 1 => fun a0 l0 c0 a3 l3 c3 x4 h => D5.t R (L4.t R n) a0 l0 c0 a3 l3 c3 x4 h
theorem L4.ok (R : Rt) (fr : Fr) (h : Hp) (g : L4.g (fun a0 l0 c0 a3 l3 c3 x4 h => ∃ n, L4.t R n a0 l0 c0 a3 l3 c3 x4 h) fr h) : den prog E (cAt C [true, true, false, true, false]) (Ex.inBlock 0 (Ex.then (D2.g R) (retQ E [.tmp 2] R))) fr h := by
  obtain ⟨a0, l0, c0, e0, g⟩ := gSlice_elim g
  obtain ⟨a3, l3, c3, e3, g⟩ := gSlice_elim g
  obtain ⟨x4, e4, g⟩ := gInt_elim g
  obtain ⟨n, g⟩ := g
  refine loop_ok (fun n => L4.g (L4.t R n)) (b := (cAt C [true, true, false, true, false, false])) (by kernel_rfl) (fun fr h g => ?_) (fun n => D5.ok R (L4.t R n)) n fr h (gSlice_intro e0 (gSlice_intro e3 (gInt_intro e4 (g))))
  obtain ⟨a0, l0, c0, e0, g⟩ := gSlice_elim g
  obtain ⟨a3, l3, c3, e3, g⟩ := gSlice_elim g
  obtain ⟨x4, e4, g⟩ := gInt_elim g
  exact g
theorem B6.ok (R : Rt) (fr : Fr) (h : Hp) (g : L4.g (fun a0 l0 c0 a3 l3 c3 x4 h => ∃ n, L4.t R n a0 l0 c0 a3 l3 c3 x4 h) fr h) : den prog E (cAt C [true, true, false, true]) (Ex.then (D2.g R) (retQ E [.tmp 2] R)) fr h :=
  den_block (by kernel_rfl) (L4.ok R fr h g)
def D3.t (R : Rt) (a0 : Option Addr) (l0 : Nat) (c0 : Nat) (a3 : Option Addr) (l3 : Nat) (c3 : Nat) (h : Hp) : Prop :=
  (∃ n, L4.t R n a0 l0 c0 a3 l3 c3 0 h)
def D3.g (R : Rt) (fr : Fr) (h : Hp) : Prop := gSlice (fr 0) fun a0 l0 c0 => gSlice (fr 3) fun a3 l3 c3 => D3.t R a0 l0 c0 a3 l3 c3 h
theorem D3.ok (R : Rt) (fr : Fr) (h : Hp) (g : D3.g R fr h) : den prog E (cAt C [true, true, false]) (Ex.then (D2.g R) (retQ E [.tmp 2] R)) fr h := by
  obtain ⟨a0, l0, c0, e0, g⟩ := gSlice_elim g
  obtain ⟨a3, l3, c3, e3, g⟩ := gSlice_elim g
  exact den_cut 1 (r := (cAt C [true, true, false, true])) (by kernel_rfl) (B6.ok R) (den_enter [(0, .slice a0 l0 c0), (3, .slice a3 l3 c3)] ⟨e0, e3, trivial⟩ (by kernel_rfl) g)
theorem W7.ok (R : Rt) (fr : Fr) (h : Hp) (g : D3.g R fr h) : den prog E (cAt C [true, true]) (retQ E [.tmp 2] R) fr h :=
  den_then (by kernel_rfl) (D2.ok R) (D3.ok R fr h g)
def D1.t (R : Rt) (a0 : Option Addr) (l0 : Nat) (c0 : Nat) (h : Hp) : Prop :=
  letK (IntKind.i64.wrap (2 * (((l0 : Nat) : Int)))) fun n1 =>
  mkK h 84 T84 0 n1 fun q2 h3 =>
  D3.t R a0 l0 c0 (some q2) ((0 : Int).toNat) n1.toNat h3
def D1.g (R : Rt) (fr : Fr) (h : Hp) : Prop := gSlice (fr 0) fun a0 l0 c0 => D1.t R a0 l0 c0 h
theorem D1.ok (R : Rt) (fr : Fr) (h : Hp) (g : D1.g R fr h) : den prog E C (retQ E [.tmp 2] R) fr h := by
  obtain ⟨a0, l0, c0, e0, g⟩ := gSlice_elim g
  exact den_cut 2 (r := (cAt C [true, true])) (by kernel_rfl) (W7.ok R) (den_enter [(0, .slice a0 l0 c0)] ⟨e0, trivial⟩ (by kernel_rfl) g)
def t (a0 : Option Addr) (l0 : Nat) (c0 : Nat) (h : Hp) (R : Rt) : Prop := D1.t R a0 l0 c0 h
theorem ok {a0 : Option Addr} {l0 : Nat} {c0 : Nat} {h : Hp} {R : Rt} (g : t a0 l0 c0 h R) : HC id #[.slice a0 l0 c0] h R :=
  calls_of_den' envOk (c := C) (rs := [.tmp 2]) Try.func27 (by kernel_rfl) (by kernel_rfl) (by kernel_rfl) (args := [.slice a0 l0 c0]) (by kernel_rfl) (D1.ok R _ h (gSlice_intro rfl (g)))
end gnomonref01_From

namespace gnomonref01_Add
noncomputable def C : Code := bodyOf Try.f28
def D2.t (R : Rt) (a5 : Option Addr) (l5 : Nat) (c5 : Nat) (h : Hp) : Prop :=
  HC gnomonref01_Norm.id #[.slice a5 l5 c5] h fun v4 h5 =>
  gSlice v4 fun a_6 l_6 c_6 =>
  R (.slice a_6 l_6 c_6) h5
def D2.g (R : Rt) (fr : Fr) (h : Hp) : Prop := gSlice (fr 5) fun a5 l5 c5 => D2.t R a5 l5 c5 h
theorem D2.ok (R : Rt) (fr : Fr) (h : Hp) (g : D2.g R fr h) : den prog E (cAt C [true, true, true, true]) (retQ E [.tmp 4] R) fr h := by
  obtain ⟨a5, l5, c5, e5, g⟩ := gSlice_elim g
  exact den_enter [(5, .slice a5 l5 c5)] ⟨e5, trivial⟩ (by kernel_rfl) g
def L4.g (N : Option Addr → Nat → Nat → Option Addr → Nat → Nat → Option Addr → Nat → Nat → Int → Int → Hp → Prop) (fr : Fr) (h : Hp) : Prop := gSlice (fr 0) fun a0 l0 c0 => gSlice (fr 1) fun a1 l1 c1 => gSlice (fr 5) fun a5 l5 c5 => gInt .u64 (fr 6) fun x6 => gInt .i64 (fr 7) fun x7 => N a0 l0 c0 a1 l1 c1 a5 l5 c5 x6 x7 h
def D6.t (R : Rt) (N4 : Option Addr → Nat → Nat → Option Addr → Nat → Nat → Option Addr → Nat → Nat → Int → Int → Hp → Prop) (a0 : Option Addr) (l0 : Nat) (c0 : Nat) (a1 : Option Addr) (l1 : Nat) (c1 : Nat) (a5 : Option Addr) (l5 : Nat) (c5 : Nat) (x6 : Int) (x7 : Int) (h : Hp) : Prop :=
  cond (decide (x7 < (((l0 : Nat) : Int)))) (idxK a0 l0 x7 1 fun q7 =>
  ldK h q7 fun v8 =>
  gInt .u32 v8 fun x_9 =>
  letK (IntKind.u64.wrap x_9) fun n10 =>
  letK (IntKind.u64.wrap (x6 + n10)) fun n11 =>
  cond (decide (x7 < (((l1 : Nat) : Int)))) (idxK a1 l1 x7 1 fun q12 =>
  ldK h q12 fun v13 =>
  gInt .u32 v13 fun x_14 =>
  letK (IntKind.u64.wrap x_14) fun n15 =>
  letK (IntKind.u64.wrap (n11 + n15)) fun n16 =>
  letK (andI .u64 n16 4294967295) fun n17 =>
  letK (IntKind.u32.wrap n17) fun n18 =>
  boxK h 84 [.int .u32 n18] fun q19 h20 =>
  apK h20 84 T84 a5 l5 c5 (.slice (some q19) 1 1) fun a_21 l_21 c_21 h21 =>
  0 ≤ (32 : Int) ∧ letK (shrI .u64 n16 32) fun n22 =>
  letK (IntKind.i64.wrap (x7 + 1)) fun n23 =>
  N4 a0 l0 c0 a1 l1 c1 a_21 l_21 c_21 n22 n23 h21) (letK (andI .u64 n11 4294967295) fun n24 =>
  letK (IntKind.u32.wrap n24) fun n25 =>
  boxK h 84 [.int .u32 n25] fun q26 h27 =>
  apK h27 84 T84 a5 l5 c5 (.slice (some q26) 1 1) fun a_28 l_28 c_28 h28 =>
  0 ≤ (32 : Int) ∧ letK (shrI .u64 n11 32) fun n29 =>
  letK (IntKind.i64.wrap (x7 + 1)) fun n30 =>
  N4 a0 l0 c0 a1 l1 c1 a_28 l_28 c_28 n29 n30 h28)) (cond (decide (x7 < (((l1 : Nat) : Int)))) (idxK a1 l1 x7 1 fun q31 =>
  ldK h q31 fun v32 =>
  gInt .u32 v32 fun x_33 =>
  letK (IntKind.u64.wrap x_33) fun n34 =>
  letK (IntKind.u64.wrap (x6 + n34)) fun n35 =>
  letK (andI .u64 n35 4294967295) fun n36 =>
  letK (IntKind.u32.wrap n36) fun n37 =>
  boxK h 84 [.int .u32 n37] fun q38 h39 =>
  apK h39 84 T84 a5 l5 c5 (.slice (some q38) 1 1) fun a_40 l_40 c_40 h40 =>
  0 ≤ (32 : Int) ∧ letK (shrI .u64 n35 32) fun n41 =>
  letK (IntKind.i64.wrap (x7 + 1)) fun n42 =>
  N4 a0 l0 c0 a1 l1 c1 a_40 l_40 c_40 n41 n42 h40) (letK (andI .u64 x6 4294967295) fun n43 =>
  letK (IntKind.u32.wrap n43) fun n44 =>
  boxK h 84 [.int .u32 n44] fun q45 h46 =>
  apK h46 84 T84 a5 l5 c5 (.slice (some q45) 1 1) fun a_47 l_47 c_47 h47 =>
  0 ≤ (32 : Int) ∧ letK (shrI .u64 x6 32) fun n48 =>
  letK (IntKind.i64.wrap (x7 + 1)) fun n49 =>
  N4 a0 l0 c0 a1 l1 c1 a_47 l_47 c_47 n48 n49 h47))
def D6.g (R : Rt) (N4 : Option Addr → Nat → Nat → Option Addr → Nat → Nat → Option Addr → Nat → Nat → Int → Int → Hp → Prop) (fr : Fr) (h : Hp) : Prop := gSlice (fr 0) fun a0 l0 c0 => gSlice (fr 1) fun a1 l1 c1 => gSlice (fr 5) fun a5 l5 c5 => gInt .u64 (fr 6) fun x6 => gInt .i64 (fr 7) fun x7 => D6.t R N4 a0 l0 c0 a1 l1 c1 a5 l5 c5 x6 x7 h
theorem D6.ok (R : Rt) (N4 : Option Addr → Nat → Nat → Option Addr → Nat → Nat → Option Addr → Nat → Nat → Int → Int → Hp → Prop) (fr : Fr) (h : Hp) (g : D6.g R N4 fr h) : den prog E (cAt C [true, true, true, false, true, false, false, true]) (Ex.then (L4.g N4) (Ex.inBlock 0 (Ex.then (D2.g R) (retQ E [.tmp 4] R)))) fr h := by
  obtain ⟨a0, l0, c0, e0, g⟩ := gSlice_elim g
  obtain ⟨a1, l1, c1, e1, g⟩ := gSlice_elim g
  obtain ⟨a5, l5, c5, e5, g⟩ := gSlice_elim g
  obtain ⟨x6, e6, g⟩ := gInt_elim g
  obtain ⟨x7, e7, g⟩ := gInt_elim g
  exact den_enter [(0, .slice a0 l0 c0), (1, .slice a1 l1 c1), (5, .slice a5 l5 c5), (6, .int .u64 x6), (7, .int .i64 x7)] ⟨e0, e1, e5, e6, e7, trivial⟩ (by kernel_rfl) g
def D5.t (R : Rt) (N4 : Option Addr → Nat → Nat → Option Addr → Nat → Nat → Option Addr → Nat → Nat → Int → Int → Hp → Prop) (a0 : Option Addr) (l0 : Nat) (c0 : Nat) (a1 : Option Addr) (l1 : Nat) (c1 : Nat) (a5 : Option Addr) (l5 : Nat) (c5 : Nat) (x6 : Int) (x7 : Int) (h : Hp) : Prop :=
  cond (decide (x7 < (((l0 : Nat) : Int)))) (D6.t R N4 a0 l0 c0 a1 l1 c1 a5 l5 c5 x6 x7 h) (cond (decide (x7 < (((l1 : Nat) : Int)))) (D6.t R N4 a0 l0 c0 a1 l1 c1 a5 l5 c5 x6 x7 h) (cond (decide (x6 > 0)) (D6.t R N4 a0 l0 c0 a1 l1 c1 a5 l5 c5 x6 x7 h) (D2.t R a5 l5 c5 h)))
def D5.g (R : Rt) (N4 : Option Addr → Nat → Nat → Option Addr → Nat → Nat → Option Addr → Nat → Nat → Int → Int → Hp → Prop) (fr : Fr) (h : Hp) : Prop := gSlice (fr 0) fun a0 l0 c0 => gSlice (fr 1) fun a1 l1 c1 => gSlice (fr 5) fun a5 l5 c5 => gInt .u64 (fr 6) fun x6 => gInt .i64 (fr 7) fun x7 => D5.t R N4 a0 l0 c0 a1 l1 c1 a5 l5 c5 x6 x7 h
theorem D5.ok (R : Rt) (N4 : Option Addr → Nat → Nat → Option Addr → Nat → Nat → Option Addr → Nat → Nat → Int → Int → Hp → Prop) (fr : Fr) (h : Hp) (g : D5.g R N4 fr h) : den prog E (cAt C [true, true, true, false, true, false, false]) (Ex.then (L4.g N4) (Ex.inBlock 0 (Ex.then (D2.g R) (retQ E [.tmp 4] R)))) fr h := by
  obtain ⟨a0, l0, c0, e0, g⟩ := gSlice_elim g
  obtain ⟨a1, l1, c1, e1, g⟩ := gSlice_elim g
  obtain ⟨a5, l5, c5, e5, g⟩ := gSlice_elim g
  obtain ⟨x6, e6, g⟩ := gInt_elim g
  obtain ⟨x7, e7, g⟩ := gInt_elim g
  exact den_cut 1 (r := (cAt C [true, true, true, false, true, false, false, true])) (by kernel_rfl) (D6.ok R N4) (den_enter [(0, .slice a0 l0 c0), (1, .slice a1 l1 c1), (5, .slice a5 l5 c5), (6, .int .u64 x6), (7, .int .i64 x7)] ⟨e0, e1, e5, e6, e7, trivial⟩ (by kernel_rfl) g)
def L4.t (R : Rt) : Nat → Option Addr → Nat → Nat → Option Addr → Nat → Nat → Option Addr → Nat → Nat → Int → Int → Hp → Prop
  | 0 => fun _ _ _ _ _ _ _ _ _ _ _ _ => False
  | n + 1 => fun a0 l0 c0 a1 l1 c1 a5 l5 c5 x6 x7 h => D5.t R (L4.t R n) a0 l0 c0 a1 l1 c1 a5 l5 c5 x6 x7 h
theorem L4.ok (R : Rt) (fr : Fr) (h : Hp) (g : L4.g (fun a0 l0 c0 a1 l1 c1 a5 l5 c5 x6 x7 h => ∃ n, L4.t R n a0 l0 c0 a1 l1 c1 a5 l5 c5 x6 x7 h) fr h) : den prog E (cAt C [true, true, true, false, true, false]) (Ex.inBlock 0 (Ex.then (D2.g R) (retQ E [.tmp 4] R))) fr h := by
  obtain ⟨a0, l0, c0, e0, g⟩ := gSlice_elim g
  obtain ⟨a1, l1, c1, e1, g⟩ := gSlice_elim g
  obtain ⟨a5, l5, c5, e5, g⟩ := gSlice_elim g
  obtain ⟨x6, e6, g⟩ := gInt_elim g
  obtain ⟨x7, e7, g⟩ := gInt_elim g
  obtain ⟨n, g⟩ := g
  refine loop_ok (fun n => L4.g (L4.t R n)) (b := (cAt C [true, true, true, false, true, false, false])) (by kernel_rfl) (fun fr h g => ?_) (fun n => D5.ok R (L4.t R n)) n fr h (gSlice_intro e0 (gSlice_intro e1 (gSlice_intro e5 (gInt_intro e6 (gInt_intro e7 (g))))))
  obtain ⟨a0, l0, c0, e0, g⟩ := gSlice_elim g
  obtain ⟨a1, l1, c1, e1, g⟩ := gSlice_elim g
  obtain ⟨a5, l5, c5, e5, g⟩ := gSlice_elim g
  obtain ⟨x6, e6, g⟩ := gInt_elim g
  obtain ⟨x7, e7, g⟩ := gInt_elim g
  exact g
theorem B7.ok (R : Rt) (fr : Fr) (h : Hp) (g : L4.g (fun a0 l0 c0 a1 l1 c1 a5 l5 c5 x6 x7 h => ∃ n, L4.t R n a0 l0 c0 a1 l1 c1 a5 l5 c5 x6 x7 h) fr h) : den prog E (cAt C [true, true, true, false, true]) (Ex.then (D2.g R) (retQ E [.tmp 4] R)) fr h :=
  den_block (by kernel_rfl) (L4.ok R fr h g)
def D3.t (R : Rt) (a0 : Option Addr) (l0 : Nat) (c0 : Nat) (a1 : Option Addr) (l1 : Nat) (c1 : Nat) (a5 : Option Addr) (l5 : Nat) (c5 : Nat) (x6 : Int) (h : Hp) : Prop :=
  (∃ n, L4.t R n a0 l0 c0 a1 l1 c1 a5 l5 c5 x6 0 h)
def D3.g (R : Rt) (fr : Fr) (h : Hp) : Prop := gSlice (fr 0) fun a0 l0 c0 => gSlice (fr 1) fun a1 l1 c1 => gSlice (fr 5) fun a5 l5 c5 => gInt .u64 (fr 6) fun x6 => D3.t R a0 l0 c0 a1 l1 c1 a5 l5 c5 x6 h
theorem D3.ok (R : Rt) (fr : Fr) (h : Hp) (g : D3.g R fr h) : den prog E (cAt C [true, true, true, false]) (Ex.then (D2.g R) (retQ E [.tmp 4] R)) fr h := by
  obtain ⟨a0, l0, c0, e0, g⟩ := gSlice_elim g
  obtain ⟨a1, l1, c1, e1, g⟩ := gSlice_elim g
  obtain ⟨a5, l5, c5, e5, g⟩ := gSlice_elim g
  obtain ⟨x6, e6, g⟩ := gInt_elim g
  exact den_cut 1 (r := (cAt C [true, true, true, false, true])) (by kernel_rfl) (B7.ok R) (den_enter [(0, .slice a0 l0 c0), (1, .slice a1 l1 c1), (5, .slice a5 l5 c5), (6, .int .u64 x6)] ⟨e0, e1, e5, e6, trivial⟩ (by kernel_rfl) g)
theorem W8.ok (R : Rt) (fr : Fr) (h : Hp) (g : D3.g R fr h) : den prog E (cAt C [true, true, true]) (retQ E [.tmp 4] R) fr h :=
  den_then (by kernel_rfl) (D2.ok R) (D3.ok R fr h g)
def D1.t (R : Rt) (a0 : Option Addr) (l0 : Nat) (c0 : Nat) (a1 : Option Addr) (l1 : Nat) (c1 : Nat) (h : Hp) : Prop :=
  letK (IntKind.i64.wrap ((if (((l1 : Nat) : Int)) > (((l0 : Nat) : Int)) then (((l1 : Nat) : Int)) else (((l0 : Nat) : Int))) + 1)) fun n1 =>
  mkK h 84 T84 0 n1 fun q2 h3 =>
  D3.t R a0 l0 c0 a1 l1 c1 (some q2) ((0 : Int).toNat) n1.toNat 0 h3
def D1.g (R : Rt) (fr : Fr) (h : Hp) : Prop := gSlice (fr 0) fun a0 l0 c0 => gSlice (fr 1) fun a1 l1 c1 => D1.t R a0 l0 c0 a1 l1 c1 h
theorem D1.ok (R : Rt) (fr : Fr) (h : Hp) (g : D1.g R fr h) : den prog E C (retQ E [.tmp 4] R) fr h := by
  obtain ⟨a0, l0, c0, e0, g⟩ := gSlice_elim g
  obtain ⟨a1, l1, c1, e1, g⟩ := gSlice_elim g
  exact den_cut 3 (r := (cAt C [true, true, true])) (by kernel_rfl) (W8.ok R) (den_enter [(0, .slice a0 l0 c0), (1, .slice a1 l1 c1)] ⟨e0, e1, trivial⟩ (by kernel_rfl) g)
def t (a0 : Option Addr) (l0 : Nat) (c0 : Nat) (a1 : Option Addr) (l1 : Nat) (c1 : Nat) (h : Hp) (R : Rt) : Prop := D1.t R a0 l0 c0 a1 l1 c1 h
theorem ok {a0 : Option Addr} {l0 : Nat} {c0 : Nat} {a1 : Option Addr} {l1 : Nat} {c1 : Nat} {h : Hp} {R : Rt} (g : t a0 l0 c0 a1 l1 c1 h R) : HC id #[.slice a0 l0 c0, .slice a1 l1 c1] h R :=
  calls_of_den' envOk (c := C) (rs := [.tmp 4]) Try.func28 (by kernel_rfl) (by kernel_rfl) (by kernel_rfl) (args := [.slice a0 l0 c0, .slice a1 l1 c1]) (by kernel_rfl) (D1.ok R _ h (gSlice_intro rfl (gSlice_intro rfl (g))))
end gnomonref01_Add

namespace gnomonref01_Mul
noncomputable def C : Code := bodyOf Try.f29
def D2.t (R : Rt) (a5 : Option Addr) (l5 : Nat) (c5 : Nat) (h : Hp) : Prop :=
  HC gnomonref01_Norm.id #[.slice a5 l5 c5] h fun v4 h5 =>
  gSlice v4 fun a_6 l_6 c_6 =>
  R (.slice a_6 l_6 c_6) h5
def D2.g (R : Rt) (fr : Fr) (h : Hp) : Prop := gSlice (fr 5) fun a5 l5 c5 => D2.t R a5 l5 c5 h
theorem D2.ok (R : Rt) (fr : Fr) (h : Hp) (g : D2.g R fr h) : den prog E (cAt C [true, true, true]) (retQ E [.tmp 4] R) fr h := by
  obtain ⟨a5, l5, c5, e5, g⟩ := gSlice_elim g
  exact den_enter [(5, .slice a5 l5 c5)] ⟨e5, trivial⟩ (by kernel_rfl) g
def L4.g (N : Option Addr → Nat → Nat → Option Addr → Nat → Nat → Option Addr → Nat → Nat → Int → Hp → Prop) (fr : Fr) (h : Hp) : Prop := gSlice (fr 0) fun a0 l0 c0 => gSlice (fr 1) fun a1 l1 c1 => gSlice (fr 5) fun a5 l5 c5 => gInt .i64 (fr 6) fun x6 => N a0 l0 c0 a1 l1 c1 a5 l5 c5 x6 h
def D6.t (R : Rt) (N4 : Option Addr → Nat → Nat → Option Addr → Nat → Nat → Option Addr → Nat → Nat → Int → Hp → Prop) (a0 : Option Addr) (l0 : Nat) (c0 : Nat) (a1 : Option Addr) (l1 : Nat) (c1 : Nat) (a5 : Option Addr) (l5 : Nat) (c5 : Nat) (x6 : Int) (h : Hp) : Prop :=
  letK (IntKind.i64.wrap (x6 + 1)) fun n7 => N4 a0 l0 c0 a1 l1 c1 a5 l5 c5 n7 h
def D6.g (R : Rt) (N4 : Option Addr → Nat → Nat → Option Addr → Nat → Nat → Option Addr → Nat → Nat → Int → Hp → Prop) (fr : Fr) (h : Hp) : Prop := gSlice (fr 0) fun a0 l0 c0 => gSlice (fr 1) fun a1 l1 c1 => gSlice (fr 5) fun a5 l5 c5 => gInt .i64 (fr 6) fun x6 => D6.t R N4 a0 l0 c0 a1 l1 c1 a5 l5 c5 x6 h
theorem D6.ok (R : Rt) (N4 : Option Addr → Nat → Nat → Option Addr → Nat → Nat → Option Addr → Nat → Nat → Int → Hp → Prop) (fr : Fr) (h : Hp) (g : D6.g R N4 fr h) : den prog E (cAt C [true, true, false, true, false, false, true, true]) (Ex.then (L4.g N4) (Ex.inBlock 0 (Ex.then (D2.g R) (retQ E [.tmp 4] R)))) fr h := by
  obtain ⟨a0, l0, c0, e0, g⟩ := gSlice_elim g
  obtain ⟨a1, l1, c1, e1, g⟩ := gSlice_elim g
  obtain ⟨a5, l5, c5, e5, g⟩ := gSlice_elim g
  obtain ⟨x6, e6, g⟩ := gInt_elim g
  exact den_enter [(0, .slice a0 l0 c0), (1, .slice a1 l1 c1), (5, .slice a5 l5 c5), (6, .int .i64 x6)] ⟨e0, e1, e5, e6, trivial⟩ (by kernel_rfl) g
def D8.t (R : Rt) (N4 : Option Addr → Nat → Nat → Option Addr → Nat → Nat → Option Addr → Nat → Nat → Int → Hp → Prop) (a0 : Option Addr) (l0 : Nat) (c0 : Nat) (a1 : Option Addr) (l1 : Nat) (c1 : Nat) (a5 : Option Addr) (l5 : Nat) (c5 : Nat) (x6 : Int) (x7 : Int) (h : Hp) : Prop :=
  letK (IntKind.i64.wrap (x6 + (((l1 : Nat) : Int)))) fun n12 =>
  letK (IntKind.u32.wrap x7) fun n13 =>
  idxK a5 l5 n12 1 fun q14 =>
  stK h q14 (.int .u32 n13) fun h15 =>
  D6.t R N4 a0 l0 c0 a1 l1 c1 a5 l5 c5 x6 h15
def D8.g (R : Rt) (N4 : Option Addr → Nat → Nat → Option Addr → Nat → Nat → Option Addr → Nat → Nat → Int → Hp → Prop) (fr : Fr) (h : Hp) : Prop := gSlice (fr 0) fun a0 l0 c0 => gSlice (fr 1) fun a1 l1 c1 => gSlice (fr 5) fun a5 l5 c5 => gInt .i64 (fr 6) fun x6 => gInt .u64 (fr 7) fun x7 => D8.t R N4 a0 l0 c0 a1 l1 c1 a5 l5 c5 x6 x7 h
theorem D8.ok (R : Rt) (N4 : Option Addr → Nat → Nat → Option Addr → Nat → Nat → Option Addr → Nat → Nat → Int → Hp → Prop) (fr : Fr) (h : Hp) (g : D8.g R N4 fr h) : den prog E (cAt C [true, true, false, true, false, false, true, false, false, true, true, true]) (Ex.inBlock 1 (Ex.then (D6.g R N4) (Ex.then (L4.g N4) (Ex.inBlock 0 (Ex.then (D2.g R) (retQ E [.tmp 4] R)))))) fr h := by
  obtain ⟨a0, l0, c0, e0, g⟩ := gSlice_elim g
  obtain ⟨a1, l1, c1, e1, g⟩ := gSlice_elim g
  obtain ⟨a5, l5, c5, e5, g⟩ := gSlice_elim g
  obtain ⟨x6, e6, g⟩ := gInt_elim g
  obtain ⟨x7, e7, g⟩ := gInt_elim g
  exact den_enter [(0, .slice a0 l0 c0), (1, .slice a1 l1 c1), (5, .slice a5 l5 c5), (6, .int .i64 x6), (7, .int .u64 x7)] ⟨e0, e1, e5, e6, e7, trivial⟩ (by kernel_rfl) g
def L10.g (N : Option Addr → Nat → Nat → Option Addr → Nat → Nat → Option Addr → Nat → Nat → Int → Int → Int → Int → Hp → Prop) (fr : Fr) (h : Hp) : Prop := gSlice (fr 0) fun a0 l0 c0 => gSlice (fr 1) fun a1 l1 c1 => gSlice (fr 5) fun a5 l5 c5 => gInt .i64 (fr 6) fun x6 => gInt .u64 (fr 7) fun x7 => gInt .u64 (fr 8) fun x8 => gInt .i64 (fr 9) fun x9 => N a0 l0 c0 a1 l1 c1 a5 l5 c5 x6 x7 x8 x9 h
def D11.t (R : Rt) (N4 : Option Addr → Nat → Nat → Option Addr → Nat → Nat → Option Addr → Nat → Nat → Int → Hp → Prop) (N10 : Option Addr → Nat → Nat → Option Addr → Nat → Nat → Option Addr → Nat → Nat → Int → Int → Int → Int → Hp → Prop) (a0 : Option Addr) (l0 : Nat) (c0 : Nat) (a1 : Option Addr) (l1 : Nat) (c1 : Nat) (a5 : Option Addr) (l5 : Nat) (c5 : Nat) (x6 : Int) (x7 : Int) (x8 : Int) (x9 : Int) (h : Hp) : Prop :=
  cond (decide (x9 < (((l1 : Nat) : Int)))) (letK (IntKind.i64.wrap (x6 + x9)) fun n16 =>
  idxK a5 l5 n16 1 fun q17 =>
  ldK h q17 fun v18 =>
  gInt .u32 v18 fun x_19 =>
  letK (IntKind.u64.wrap x_19) fun n20 =>
  idxK a1 l1 x9 1 fun q21 =>
  ldK h q21 fun v22 =>
  gInt .u32 v22 fun x_23 =>
  letK (IntKind.u64.wrap x_23) fun n24 =>
  letK (IntKind.u64.wrap (x8 * n24)) fun n25 =>
  letK (IntKind.u64.wrap (n20 + n25)) fun n26 =>
  letK (IntKind.u64.wrap (x7 + n26)) fun n27 =>
  letK (IntKind.i64.wrap (x6 + x9)) fun n28 =>
  letK (andI .u64 n27 4294967295) fun n29 =>
  letK (IntKind.u32.wrap n29) fun n30 =>
  idxK a5 l5 n28 1 fun q31 =>
  stK h q31 (.int .u32 n30) fun h32 =>
  0 ≤ (32 : Int) ∧ letK (shrI .u64 n27 32) fun n33 =>
  letK (IntKind.i64.wrap (x9 + 1)) fun n34 =>
  N10 a0 l0 c0 a1 l1 c1 a5 l5 c5 x6 n33 x8 n34 h32) (D8.t R N4 a0 l0 c0 a1 l1 c1 a5 l5 c5 x6 x7 h)
def D11.g (R : Rt) (N4 : Option Addr → Nat → Nat → Option Addr → Nat → Nat → Option Addr → Nat → Nat → Int → Hp → Prop) (N10 : Option Addr → Nat → Nat → Option Addr → Nat → Nat → Option Addr → Nat → Nat → Int → Int → Int → Int → Hp → Prop) (fr : Fr) (h : Hp) : Prop := gSlice (fr 0) fun a0 l0 c0 => gSlice (fr 1) fun a1 l1 c1 => gSlice (fr 5) fun a5 l5 c5 => gInt .i64 (fr 6) fun x6 => gInt .u64 (fr 7) fun x7 => gInt .u64 (fr 8) fun x8 => gInt .i64 (fr 9) fun x9 => D11.t R N4 N10 a0 l0 c0 a1 l1 c1 a5 l5 c5 x6 x7 x8 x9 h
theorem D11.ok (R : Rt) (N4 : Option Addr → Nat → Nat → Option Addr → Nat → Nat → Option Addr → Nat → Nat → Int → Hp → Prop) (N10 : Option Addr → Nat → Nat → Option Addr → Nat → Nat → Option Addr → Nat → Nat → Int → Int → Int → Int → Hp → Prop) (fr : Fr) (h : Hp) (g : D11.g R N4 N10 fr h) : den prog E (cAt C [true, true, false, true, false, false, true, false, false, true, true, false, true, false, false]) (Ex.then (L10.g N10) (Ex.inBlock 2 (Ex.then (D8.g R N4) (Ex.inBlock 1 (Ex.then (D6.g R N4) (Ex.then (L4.g N4) (Ex.inBlock 0 (Ex.then (D2.g R) (retQ E [.tmp 4] R))))))))) fr h := by
  obtain ⟨a0, l0, c0, e0, g⟩ := gSlice_elim g
  obtain ⟨a1, l1, c1, e1, g⟩ := gSlice_elim g
  obtain ⟨a5, l5, c5, e5, g⟩ := gSlice_elim g
  obtain ⟨x6, e6, g⟩ := gInt_elim g
  obtain ⟨x7, e7, g⟩ := gInt_elim g
  obtain ⟨x8, e8, g⟩ := gInt_elim g
  obtain ⟨x9, e9, g⟩ := gInt_elim g
  exact den_enter [(0, .slice a0 l0 c0), (1, .slice a1 l1 c1), (5, .slice a5 l5 c5), (6, .int .i64 x6), (7, .int .u64 x7), (8, .int .u64 x8), (9, .int .i64 x9)] ⟨e0, e1, e5, e6, e7, e8, e9, trivial⟩ (by kernel_rfl) g
def L10.t (R : Rt) (N4 : Option Addr → Nat → Nat → Option Addr → Nat → Nat → Option Addr → Nat → Nat → Int → Hp → Prop) : Nat → Option Addr → Nat → Nat → Option Addr → Nat → Nat → Option Addr → Nat → Nat → Int → Int → Int → Int → Hp → Prop
  | 0 => fun _ _ _ _ _ _ _ _ _ _ _ _ _ _ => False
  | n + 1 => fun a0 l0 c0 a1 l1 c1 a5 l5 c5 x6 x7 x8 x9 h => D11.t R N4 (L10.t R N4 n) a0 l0 c0 a1 l1 c1 a5 l5 c5 x6 x7 x8 x9 h
theorem L10.ok (R : Rt) (N4 : Option Addr → Nat → Nat → Option Addr → Nat → Nat → Option Addr → Nat → Nat → Int → Hp → Prop) (fr : Fr) (h : Hp) (g : L10.g (fun a0 l0 c0 a1 l1 c1 a5 l5 c5 x6 x7 x8 x9 h => ∃ n, L10.t R N4 n a0 l0 c0 a1 l1 c1 a5 l5 c5 x6 x7 x8 x9 h) fr h) : den prog E (cAt C [true, true, false, true, false, false, true, false, false, true, true, false, true, false]) (Ex.inBlock 2 (Ex.then (D8.g R N4) (Ex.inBlock 1 (Ex.then (D6.g R N4) (Ex.then (L4.g N4) (Ex.inBlock 0 (Ex.then (D2.g R) (retQ E [.tmp 4] R)))))))) fr h := by
  obtain ⟨a0, l0, c0, e0, g⟩ := gSlice_elim g
  obtain ⟨a1, l1, c1, e1, g⟩ := gSlice_elim g
  obtain ⟨a5, l5, c5, e5, g⟩ := gSlice_elim g
  obtain ⟨x6, e6, g⟩ := gInt_elim g
  obtain ⟨x7, e7, g⟩ := gInt_elim g
  obtain ⟨x8, e8, g⟩ := gInt_elim g
  obtain ⟨x9, e9, g⟩ := gInt_elim g
  obtain ⟨n, g⟩ := g
  refine loop_ok (fun n => L10.g (L10.t R N4 n)) (b := (cAt C [true, true, false, true, false, false, true, false, false, true, true, false, true, false, false])) (by kernel_rfl) (fun fr h g => ?_) (fun n => D11.ok R N4 (L10.t R N4 n)) n fr h (gSlice_intro e0 (gSlice_intro e1 (gSlice_intro e5 (gInt_intro e6 (gInt_intro e7 (gInt_intro e8 (gInt_intro e9 (g))))))))
  obtain ⟨a0, l0, c0, e0, g⟩ := gSlice_elim g
  obtain ⟨a1, l1, c1, e1, g⟩ := gSlice_elim g
  obtain ⟨a5, l5, c5, e5, g⟩ := gSlice_elim g
  obtain ⟨x6, e6, g⟩ := gInt_elim g
  obtain ⟨x7, e7, g⟩ := gInt_elim g
  obtain ⟨x8, e8, g⟩ := gInt_elim g
  obtain ⟨x9, e9, g⟩ := gInt_elim g
  exact g
theorem B12.ok (R : Rt) (N4 : Option Addr → Nat → Nat → Option Addr → Nat → Nat → Option Addr → Nat → Nat → Int → Hp → Prop) (fr : Fr) (h : Hp) (g : L10.g (fun a0 l0 c0 a1 l1 c1 a5 l5 c5 x6 x7 x8 x9 h => ∃ n, L10.t R N4 n a0 l0 c0 a1 l1 c1 a5 l5 c5 x6 x7 x8 x9 h) fr h) : den prog E (cAt C [true, true, false, true, false, false, true, false, false, true, true, false, true]) (Ex.then (D8.g R N4) (Ex.inBlock 1 (Ex.then (D6.g R N4) (Ex.then (L4.g N4) (Ex.inBlock 0 (Ex.then (D2.g R) (retQ E [.tmp 4] R))))))) fr h :=
  den_block (by kernel_rfl) (L10.ok R N4 fr h g)
def D9.t (R : Rt) (N4 : Option Addr → Nat → Nat → Option Addr → Nat → Nat → Option Addr → Nat → Nat → Int → Hp → Prop) (a0 : Option Addr) (l0 : Nat) (c0 : Nat) (a1 : Option Addr) (l1 : Nat) (c1 : Nat) (a5 : Option Addr) (l5 : Nat) (c5 : Nat) (x6 : Int) (x7 : Int) (x8 : Int) (h : Hp) : Prop :=
  (∃ n, L10.t R N4 n a0 l0 c0 a1 l1 c1 a5 l5 c5 x6 x7 x8 0 h)
def D9.g (R : Rt) (N4 : Option Addr → Nat → Nat → Option Addr → Nat → Nat → Option Addr → Nat → Nat → Int → Hp → Prop) (fr : Fr) (h : Hp) : Prop := gSlice (fr 0) fun a0 l0 c0 => gSlice (fr 1) fun a1 l1 c1 => gSlice (fr 5) fun a5 l5 c5 => gInt .i64 (fr 6) fun x6 => gInt .u64 (fr 7) fun x7 => gInt .u64 (fr 8) fun x8 => D9.t R N4 a0 l0 c0 a1 l1 c1 a5 l5 c5 x6 x7 x8 h
theorem D9.ok (R : Rt) (N4 : Option Addr → Nat → Nat → Option Addr → Nat → Nat → Option Addr → Nat → Nat → Int → Hp → Prop) (fr : Fr) (h : Hp) (g : D9.g R N4 fr h) : den prog E (cAt C [true, true, false, true, false, false, true, false, false, true, true, false]) (Ex.then (D8.g R N4) (Ex.inBlock 1 (Ex.then (D6.g R N4) (Ex.then (L4.g N4) (Ex.inBlock 0 (Ex.then (D2.g R) (retQ E [.tmp 4] R))))))) fr h := by
  obtain ⟨a0, l0, c0, e0, g⟩ := gSlice_elim g
  obtain ⟨a1, l1, c1, e1, g⟩ := gSlice_elim g
  obtain ⟨a5, l5, c5, e5, g⟩ := gSlice_elim g
  obtain ⟨x6, e6, g⟩ := gInt_elim g
  obtain ⟨x7, e7, g⟩ := gInt_elim g
  obtain ⟨x8, e8, g⟩ := gInt_elim g
  exact den_cut 1 (r := (cAt C [true, true, false, true, false, false, true, false, false, true, true, false, true])) (by kernel_rfl) (B12.ok R N4) (den_enter [(0, .slice a0 l0 c0), (1, .slice a1 l1 c1), (5, .slice a5 l5 c5), (6, .int .i64 x6), (7, .int .u64 x7), (8, .int .u64 x8)] ⟨e0, e1, e5, e6, e7, e8, trivial⟩ (by kernel_rfl) g)
theorem W13.ok (R : Rt) (N4 : Option Addr → Nat → Nat → Option Addr → Nat → Nat → Option Addr → Nat → Nat → Int → Hp → Prop) (fr : Fr) (h : Hp) (g : D9.g R N4 fr h) : den prog E (cAt C [true, true, false, true, false, false, true, false, false, true, true]) (Ex.inBlock 1 (Ex.then (D6.g R N4) (Ex.then (L4.g N4) (Ex.inBlock 0 (Ex.then (D2.g R) (retQ E [.tmp 4] R)))))) fr h :=
  den_then (by kernel_rfl) (D8.ok R N4) (D9.ok R N4 fr h g)
def D7.t (R : Rt) (N4 : Option Addr → Nat → Nat → Option Addr → Nat → Nat → Option Addr → Nat → Nat → Int → Hp → Prop) (a0 : Option Addr) (l0 : Nat) (c0 : Nat) (a1 : Option Addr) (l1 : Nat) (c1 : Nat) (a5 : Option Addr) (l5 : Nat) (c5 : Nat) (x6 : Int) (h : Hp) : Prop :=
  idxK a0 l0 x6 1 fun q8 =>
  ldK h q8 fun v9 =>
  gInt .u32 v9 fun x_10 =>
  letK (IntKind.u64.wrap x_10) fun n11 =>
  D9.t R N4 a0 l0 c0 a1 l1 c1 a5 l5 c5 x6 0 n11 h
def D7.g (R : Rt) (N4 : Option Addr → Nat → Nat → Option Addr → Nat → Nat → Option Addr → Nat → Nat → Int → Hp → Prop) (fr : Fr) (h : Hp) : Prop := gSlice (fr 0) fun a0 l0 c0 => gSlice (fr 1) fun a1 l1 c1 => gSlice (fr 5) fun a5 l5 c5 => gInt .i64 (fr 6) fun x6 => D7.t R N4 a0 l0 c0 a1 l1 c1 a5 l5 c5 x6 h
theorem D7.ok (R : Rt) (N4 : Option Addr → Nat → Nat → Option Addr → Nat → Nat → Option Addr → Nat → Nat → Int → Hp → Prop) (fr : Fr) (h : Hp) (g : D7.g R N4 fr h) : den prog E (cAt C [true, true, false, true, false, false, true, false, false]) (Ex.inBlock 1 (Ex.then (D6.g R N4) (Ex.then (L4.g N4) (Ex.inBlock 0 (Ex.then (D2.g R) (retQ E [.tmp 4] R)))))) fr h := by
  obtain ⟨a0, l0, c0, e0, g⟩ := gSlice_elim g
  obtain ⟨a1, l1, c1, e1, g⟩ := gSlice_elim g
  obtain ⟨a5, l5, c5, e5, g⟩ := gSlice_elim g
  obtain ⟨x6, e6, g⟩ := gInt_elim g
  exact den_cut 2 (r := (cAt C [true, true, false, true, false, false, true, false, false, true, true])) (by kernel_rfl) (W13.ok R N4) (den_enter [(0, .slice a0 l0 c0), (1, .slice a1 l1 c1), (5, .slice a5 l5 c5), (6, .int .i64 x6)] ⟨e0, e1, e5, e6, trivial⟩ (by kernel_rfl) g)
theorem B14.ok (R : Rt) (N4 : Option Addr → Nat → Nat → Option Addr → Nat → Nat → Option Addr → Nat → Nat → Int → Hp → Prop) (fr : Fr) (h : Hp) (g : D7.g R N4 fr h) : den prog E (cAt C [true, true, false, true, false, false, true, false]) (Ex.then (D6.g R N4) (Ex.then (L4.g N4) (Ex.inBlock 0 (Ex.then (D2.g R) (retQ E [.tmp 4] R))))) fr h :=
  den_block (by kernel_rfl) (D7.ok R N4 fr h g)
theorem W15.ok (R : Rt) (N4 : Option Addr → Nat → Nat → Option Addr → Nat → Nat → Option Addr → Nat → Nat → Int → Hp → Prop) (fr : Fr) (h : Hp) (g : D7.g R N4 fr h) : den prog E (cAt C [true, true, false, true, false, false, true]) (Ex.then (L4.g N4) (Ex.inBlock 0 (Ex.then (D2.g R) (retQ E [.tmp 4] R)))) fr h :=
  den_then (by kernel_rfl) (D6.ok R N4) (B14.ok R N4 fr h g)
def D5.t (R : Rt) (N4 : Option Addr → Nat → Nat → Option Addr → Nat → Nat → Option Addr → Nat → Nat → Int → Hp → Prop) (a0 : Option Addr) (l0 : Nat) (c0 : Nat) (a1 : Option Addr) (l1 : Nat) (c1 : Nat) (a5 : Option Addr) (l5 : Nat) (c5 : Nat) (x6 : Int) (h : Hp) : Prop :=
  cond (decide (x6 < (((l0 : Nat) : Int)))) (D7.t R N4 a0 l0 c0 a1 l1 c1 a5 l5 c5 x6 h) (D2.t R a5 l5 c5 h)
def D5.g (R : Rt) (N4 : Option Addr → Nat → Nat → Option Addr → Nat → Nat → Option Addr → Nat → Nat → Int → Hp → Prop) (fr : Fr) (h : Hp) : Prop := gSlice (fr 0) fun a0 l0 c0 => gSlice (fr 1) fun a1 l1 c1 => gSlice (fr 5) fun a5 l5 c5 => gInt .i64 (fr 6) fun x6 => D5.t R N4 a0 l0 c0 a1 l1 c1 a5 l5 c5 x6 h
theorem D5.ok (R : Rt) (N4 : Option Addr → Nat → Nat → Option Addr → Nat → Nat → Option Addr → Nat → Nat → Int → Hp → Prop) (fr : Fr) (h : Hp) (g : D5.g R N4 fr h) : den prog E (cAt C [true, true, false, true, false, false]) (Ex.then (L4.g N4) (Ex.inBlock 0 (Ex.then (D2.g R) (retQ E [.tmp 4] R)))) fr h := by
  obtain ⟨a0, l0, c0, e0, g⟩ := gSlice_elim g
  obtain ⟨a1, l1, c1, e1, g⟩ := gSlice_elim g
  obtain ⟨a5, l5, c5, e5, g⟩ := gSlice_elim g
  obtain ⟨x6, e6, g⟩ := gInt_elim g
  exact den_cut 1 (r := (cAt C [true, true, false, true, false, false, true])) (by kernel_rfl) (W15.ok R N4) (den_enter [(0, .slice a0 l0 c0), (1, .slice a1 l1 c1), (5, .slice a5 l5 c5), (6, .int .i64 x6)] ⟨e0, e1, e5, e6, trivial⟩ (by kernel_rfl) g)
def L4.t (R : Rt) : Nat → Option Addr → Nat → Nat → Option Addr → Nat → Nat → Option Addr → Nat → Nat → Int → Hp → Prop
  | 0 => fun _ _ _ _ _ _ _ _ _ _ _ => False
  | n + 1 => fun a0 l0 c0 a1 l1 c1 a5 l5 c5 x6 h => D5.t R (L4.t R n) a0 l0 c0 a1 l1 c1 a5 l5 c5 x6 h
theorem L4.ok (R : Rt) (fr : Fr) (h : Hp) (g : L4.g (fun a0 l0 c0 a1 l1 c1 a5 l5 c5 x6 h => ∃ n, L4.t R n a0 l0 c0 a1 l1 c1 a5 l5 c5 x6 h) fr h) : den prog E (cAt C [true, true, false, true, false]) (Ex.inBlock 0 (Ex.then (D2.g R) (retQ E [.tmp 4] R))) fr h := by
  obtain ⟨a0, l0, c0, e0, g⟩ := gSlice_elim g
  obtain ⟨a1, l1, c1, e1, g⟩ := gSlice_elim g
  obtain ⟨a5, l5, c5, e5, g⟩ := gSlice_elim g
  obtain ⟨x6, e6, g⟩ := gInt_elim g
  obtain ⟨n, g⟩ := g
  refine loop_ok (fun n => L4.g (L4.t R n)) (b := (cAt C [true, true, false, true, false, false])) (by kernel_rfl) (fun fr h g => ?_) (fun n => D5.ok R (L4.t R n)) n fr h (gSlice_intro e0 (gSlice_intro e1 (gSlice_intro e5 (gInt_intro e6 (g)))))
  obtain ⟨a0, l0, c0, e0, g⟩ := gSlice_elim g
  obtain ⟨a1, l1, c1, e1, g⟩ := gSlice_elim g
  obtain ⟨a5, l5, c5, e5, g⟩ := gSlice_elim g
  obtain ⟨x6, e6, g⟩ := gInt_elim g
  exact g
theorem B16.ok (R : Rt) (fr : Fr) (h : Hp) (g : L4.g (fun a0 l0 c0 a1 l1 c1 a5 l5 c5 x6 h => ∃ n, L4.t R n a0 l0 c0 a1 l1 c1 a5 l5 c5 x6 h) fr h) : den prog E (cAt C [true, true, false, true]) (Ex.then (D2.g R) (retQ E [.tmp 4] R)) fr h :=
  den_block (by kernel_rfl) (L4.ok R fr h g)
def D3.t (R : Rt) (a0 : Option Addr) (l0 : Nat) (c0 : Nat) (a1 : Option Addr) (l1 : Nat) (c1 : Nat) (a5 : Option Addr) (l5 : Nat) (c5 : Nat) (h : Hp) : Prop :=
  (∃ n, L4.t R n a0 l0 c0 a1 l1 c1 a5 l5 c5 0 h)
def D3.g (R : Rt) (fr : Fr) (h : Hp) : Prop := gSlice (fr 0) fun a0 l0 c0 => gSlice (fr 1) fun a1 l1 c1 => gSlice (fr 5) fun a5 l5 c5 => D3.t R a0 l0 c0 a1 l1 c1 a5 l5 c5 h
theorem D3.ok (R : Rt) (fr : Fr) (h : Hp) (g : D3.g R fr h) : den prog E (cAt C [true, true, false]) (Ex.then (D2.g R) (retQ E [.tmp 4] R)) fr h := by
  obtain ⟨a0, l0, c0, e0, g⟩ := gSlice_elim g
  obtain ⟨a1, l1, c1, e1, g⟩ := gSlice_elim g
  obtain ⟨a5, l5, c5, e5, g⟩ := gSlice_elim g
  exact den_cut 1 (r := (cAt C [true, true, false, true])) (by kernel_rfl) (B16.ok R) (den_enter [(0, .slice a0 l0 c0), (1, .slice a1 l1 c1), (5, .slice a5 l5 c5)] ⟨e0, e1, e5, trivial⟩ (by kernel_rfl) g)
theorem W17.ok (R : Rt) (fr : Fr) (h : Hp) (g : D3.g R fr h) : den prog E (cAt C [true, true]) (retQ E [.tmp 4] R) fr h :=
  den_then (by kernel_rfl) (D2.ok R) (D3.ok R fr h g)
def D1.t (R : Rt) (a0 : Option Addr) (l0 : Nat) (c0 : Nat) (a1 : Option Addr) (l1 : Nat) (c1 : Nat) (h : Hp) : Prop :=
  letK (IntKind.i64.wrap ((((l0 : Nat) : Int)) + (((l1 : Nat) : Int)))) fun n1 =>
  mkK h 84 T84 n1 n1 fun q2 h3 =>
  D3.t R a0 l0 c0 a1 l1 c1 (some q2) n1.toNat n1.toNat h3
def D1.g (R : Rt) (fr : Fr) (h : Hp) : Prop := gSlice (fr 0) fun a0 l0 c0 => gSlice (fr 1) fun a1 l1 c1 => D1.t R a0 l0 c0 a1 l1 c1 h
theorem D1.ok (R : Rt) (fr : Fr) (h : Hp) (g : D1.g R fr h) : den prog E C (retQ E [.tmp 4] R) fr h := by
  obtain ⟨a0, l0, c0, e0, g⟩ := gSlice_elim g
  obtain ⟨a1, l1, c1, e1, g⟩ := gSlice_elim g
  exact den_cut 2 (r := (cAt C [true, true])) (by kernel_rfl) (W17.ok R) (den_enter [(0, .slice a0 l0 c0), (1, .slice a1 l1 c1)] ⟨e0, e1, trivial⟩ (by kernel_rfl) g)
def t (a0 : Option Addr) (l0 : Nat) (c0 : Nat) (a1 : Option Addr) (l1 : Nat) (c1 : Nat) (h : Hp) (R : Rt) : Prop := D1.t R a0 l0 c0 a1 l1 c1 h
theorem ok {a0 : Option Addr} {l0 : Nat} {c0 : Nat} {a1 : Option Addr} {l1 : Nat} {c1 : Nat} {h : Hp} {R : Rt} (g : t a0 l0 c0 a1 l1 c1 h R) : HC id #[.slice a0 l0 c0, .slice a1 l1 c1] h R :=
  calls_of_den' envOk (c := C) (rs := [.tmp 4]) Try.func29 (by kernel_rfl) (by kernel_rfl) (by kernel_rfl) (args := [.slice a0 l0 c0, .slice a1 l1 c1]) (by kernel_rfl) (D1.ok R _ h (gSlice_intro rfl (gSlice_intro rfl (g))))
end gnomonref01_Mul

namespace gnomonref01_Cmp
noncomputable def C : Code := bodyOf Try.f30
def D2.t (R : Rt)  (h : Hp) : Prop :=
  R (.int .i64 0) h
def D2.g (R : Rt) (fr : Fr) (h : Hp) : Prop := D2.t R  h
theorem D2.ok (R : Rt) (fr : Fr) (h : Hp) (g : D2.g R fr h) : den prog E (cAt C [true, true, true]) (retQ E [.tmp 4] R) fr h := by
  exact den_enter [] trivial (by kernel_rfl) g
def L4.g (N : Option Addr → Nat → Nat → Option Addr → Nat → Nat → Int → Hp → Prop) (fr : Fr) (h : Hp) : Prop := gSlice (fr 0) fun a0 l0 c0 => gSlice (fr 1) fun a1 l1 c1 => gInt .i64 (fr 5) fun x5 => N a0 l0 c0 a1 l1 c1 x5 h
def D5.t (R : Rt) (N4 : Option Addr → Nat → Nat → Option Addr → Nat → Nat → Int → Hp → Prop) (a0 : Option Addr) (l0 : Nat) (c0 : Nat) (a1 : Option Addr) (l1 : Nat) (c1 : Nat) (x5 : Int) (h : Hp) : Prop :=
  cond (decide (x5 ≥ 0)) (idxK a0 l0 x5 1 fun q2 =>
  ldK h q2 fun v3 =>
  gInt .u32 v3 fun x_4 =>
  idxK a1 l1 x5 1 fun q5 =>
  ldK h q5 fun v6 =>
  gInt .u32 v6 fun x_7 =>
  cond (decide (x_4 < x_7)) (R (.int .i64 (-1)) h) (idxK a0 l0 x5 1 fun q8 =>
  ldK h q8 fun v9 =>
  gInt .u32 v9 fun x_10 =>
  idxK a1 l1 x5 1 fun q11 =>
  ldK h q11 fun v12 =>
  gInt .u32 v12 fun x_13 =>
  cond (decide (x_10 > x_13)) (R (.int .i64 1) h) (letK (IntKind.i64.wrap (x5 - 1)) fun n14 =>
  N4 a0 l0 c0 a1 l1 c1 n14 h))) (D2.t R h)
def D5.g (R : Rt) (N4 : Option Addr → Nat → Nat → Option Addr → Nat → Nat → Int → Hp → Prop) (fr : Fr) (h : Hp) : Prop := gSlice (fr 0) fun a0 l0 c0 => gSlice (fr 1) fun a1 l1 c1 => gInt .i64 (fr 5) fun x5 => D5.t R N4 a0 l0 c0 a1 l1 c1 x5 h
theorem D5.ok (R : Rt) (N4 : Option Addr → Nat → Nat → Option Addr → Nat → Nat → Int → Hp → Prop) (fr : Fr) (h : Hp) (g : D5.g R N4 fr h) : den prog E (cAt C [true, true, false, true, false, false]) (Ex.then (L4.g N4) (Ex.inBlock 0 (Ex.then (D2.g R) (retQ E [.tmp 4] R)))) fr h := by
  obtain ⟨a0, l0, c0, e0, g⟩ := gSlice_elim g
  obtain ⟨a1, l1, c1, e1, g⟩ := gSlice_elim g
  obtain ⟨x5, e5, g⟩ := gInt_elim g
  exact den_enter [(0, .slice a0 l0 c0), (1, .slice a1 l1 c1), (5, .int .i64 x5)] ⟨e0, e1, e5, trivial⟩ (by kernel_rfl) g
def L4.t (R : Rt) : Nat → Option Addr → Nat → Nat → Option Addr → Nat → Nat → Int → Hp → Prop
  | 0 => fun _ _ _ _ _ _ _ _ => False
  | n + 1 => fun a0 l0 c0 a1 l1 c1 x5 h => D5.t R (L4.t R n) a0 l0 c0 a1 l1 c1 x5 h
theorem L4.ok (R : Rt) (fr : Fr) (h : Hp) (g : L4.g (fun a0 l0 c0 a1 l1 c1 x5 h => ∃ n, L4.t R n a0 l0 c0 a1 l1 c1 x5 h) fr h) : den prog E (cAt C [true, true, false, true, false]) (Ex.inBlock 0 (Ex.then (D2.g R) (retQ E [.tmp 4] R))) fr h := by
  obtain ⟨a0, l0, c0, e0, g⟩ := gSlice_elim g
  obtain ⟨a1, l1, c1, e1, g⟩ := gSlice_elim g
  obtain ⟨x5, e5, g⟩ := gInt_elim g
  obtain ⟨n, g⟩ := g
  refine loop_ok (fun n => L4.g (L4.t R n)) (b := (cAt C [true, true, false, true, false, false])) (by kernel_rfl) (fun fr h g => ?_) (fun n => D5.ok R (L4.t R n)) n fr h (gSlice_intro e0 (gSlice_intro e1 (gInt_intro e5 (g))))
  obtain ⟨a0, l0, c0, e0, g⟩ := gSlice_elim g
  obtain ⟨a1, l1, c1, e1, g⟩ := gSlice_elim g
  obtain ⟨x5, e5, g⟩ := gInt_elim g
  exact g
theorem B6.ok (R : Rt) (fr : Fr) (h : Hp) (g : L4.g (fun a0 l0 c0 a1 l1 c1 x5 h => ∃ n, L4.t R n a0 l0 c0 a1 l1 c1 x5 h) fr h) : den prog E (cAt C [true, true, false, true]) (Ex.then (D2.g R) (retQ E [.tmp 4] R)) fr h :=
  den_block (by kernel_rfl) (L4.ok R fr h g)
def D3.t (R : Rt) (a0 : Option Addr) (l0 : Nat) (c0 : Nat) (a1 : Option Addr) (l1 : Nat) (c1 : Nat) (h : Hp) : Prop :=
  letK (IntKind.i64.wrap ((((l0 : Nat) : Int)) - 1)) fun n1 => (∃ n, L4.t R n a0 l0 c0 a1 l1 c1 n1 h)
def D3.g (R : Rt) (fr : Fr) (h : Hp) : Prop := gSlice (fr 0) fun a0 l0 c0 => gSlice (fr 1) fun a1 l1 c1 => D3.t R a0 l0 c0 a1 l1 c1 h
theorem D3.ok (R : Rt) (fr : Fr) (h : Hp) (g : D3.g R fr h) : den prog E (cAt C [true, true, false]) (Ex.then (D2.g R) (retQ E [.tmp 4] R)) fr h := by
  obtain ⟨a0, l0, c0, e0, g⟩ := gSlice_elim g
  obtain ⟨a1, l1, c1, e1, g⟩ := gSlice_elim g
  exact den_cut 1 (r := (cAt C [true, true, false, true])) (by kernel_rfl) (B6.ok R) (den_enter [(0, .slice a0 l0 c0), (1, .slice a1 l1 c1)] ⟨e0, e1, trivial⟩ (by kernel_rfl) g)
theorem W7.ok (R : Rt) (fr : Fr) (h : Hp) (g : D3.g R fr h) : den prog E (cAt C [true, true]) (retQ E [.tmp 4] R) fr h :=
  den_then (by kernel_rfl) (D2.ok R) (D3.ok R fr h g)
def D1.t (R : Rt) (a0 : Option Addr) (l0 : Nat) (c0 : Nat) (a1 : Option Addr) (l1 : Nat) (c1 : Nat) (h : Hp) : Prop :=
  cond ((((l0 : Nat) : Int)) != (((l1 : Nat) : Int))) (cond (decide ((((l0 : Nat) : Int)) < (((l1 : Nat) : Int)))) (R (.int .i64 (-1)) h) (R (.int .i64 1) h)) (D3.t R a0 l0 c0 a1 l1 c1 h)
def D1.g (R : Rt) (fr : Fr) (h : Hp) : Prop := gSlice (fr 0) fun a0 l0 c0 => gSlice (fr 1) fun a1 l1 c1 => D1.t R a0 l0 c0 a1 l1 c1 h
theorem D1.ok (R : Rt) (fr : Fr) (h : Hp) (g : D1.g R fr h) : den prog E C (retQ E [.tmp 4] R) fr h := by
  obtain ⟨a0, l0, c0, e0, g⟩ := gSlice_elim g
  obtain ⟨a1, l1, c1, e1, g⟩ := gSlice_elim g
  exact den_cut 2 (r := (cAt C [true, true])) (by kernel_rfl) (W7.ok R) (den_enter [(0, .slice a0 l0 c0), (1, .slice a1 l1 c1)] ⟨e0, e1, trivial⟩ (by kernel_rfl) g)
def t (a0 : Option Addr) (l0 : Nat) (c0 : Nat) (a1 : Option Addr) (l1 : Nat) (c1 : Nat) (h : Hp) (R : Rt) : Prop := D1.t R a0 l0 c0 a1 l1 c1 h
theorem ok {a0 : Option Addr} {l0 : Nat} {c0 : Nat} {a1 : Option Addr} {l1 : Nat} {c1 : Nat} {h : Hp} {R : Rt} (g : t a0 l0 c0 a1 l1 c1 h R) : HC id #[.slice a0 l0 c0, .slice a1 l1 c1] h R :=
  calls_of_den' envOk (c := C) (rs := [.tmp 4]) Try.func30 (by kernel_rfl) (by kernel_rfl) (by kernel_rfl) (args := [.slice a0 l0 c0, .slice a1 l1 c1]) (by kernel_rfl) (D1.ok R _ h (gSlice_intro rfl (gSlice_intro rfl (g))))
end gnomonref01_Cmp

namespace natdiv_Root
noncomputable def C : Code := bodyOf Try.f31
def D1.t (R : Rt) (a0 : Option Addr) (l0 : Nat) (c0 : Nat) (h : Hp) : Prop :=
  HC nat_Form.id #[.slice a0 l0 c0] h fun v1 h2 =>
  gBool v1 fun b_3 =>
  cond (!b_3) (R (.tuple #[.slice none 0 0, .slice none 0 0, .int .i64 2]) h2) (HC natdiv_root.id #[.slice a0 l0 c0] h2 fun v4 h5 =>
  gSlice v4 fun a_6 l_6 c_6 =>
  HC natmul_Sqr.id #[.slice a_6 l_6 c_6] h5 fun v7 h8 =>
  gTup v7 fun y9 =>
  uncons y9 fun v10 y10 =>
  gSlice v10 fun a_11 l_11 c_11 =>
  uncons y10 fun v12 y12 =>
  gInt .i64 v12 fun x_13 =>
  unnil y12 <| HC nat_Sub.id #[.slice a0 l0 c0, .slice a_11 l_11 c_11] h8 fun v14 h15 =>
  gTup v14 fun y16 =>
  uncons y16 fun v17 y17 =>
  gSlice v17 fun a_18 l_18 c_18 =>
  uncons y17 fun v19 y19 =>
  gInt .i64 v19 fun x_20 =>
  unnil y19 <| R (.tuple #[.slice a_6 l_6 c_6, .slice a_18 l_18 c_18, .int .i64 0]) h15)
def D1.g (R : Rt) (fr : Fr) (h : Hp) : Prop := gSlice (fr 0) fun a0 l0 c0 => D1.t R a0 l0 c0 h
theorem D1.ok (R : Rt) (fr : Fr) (h : Hp) (g : D1.g R fr h) : den prog E C (retQ E [.tmp 2, .tmp 3, .tmp 4] R) fr h := by
  obtain ⟨a0, l0, c0, e0, g⟩ := gSlice_elim g
  exact den_enter [(0, .slice a0 l0 c0)] ⟨e0, trivial⟩ (by kernel_rfl) g
def t (a0 : Option Addr) (l0 : Nat) (c0 : Nat) (h : Hp) (R : Rt) : Prop := D1.t R a0 l0 c0 h
theorem ok {a0 : Option Addr} {l0 : Nat} {c0 : Nat} {h : Hp} {R : Rt} (g : t a0 l0 c0 h R) : HC id #[.slice a0 l0 c0] h R :=
  calls_of_den' envOk (c := C) (rs := [.tmp 2, .tmp 3, .tmp 4]) Try.func31 (by kernel_rfl) (by kernel_rfl) (by kernel_rfl) (args := [.slice a0 l0 c0]) (by kernel_rfl) (D1.ok R _ h (gSlice_intro rfl (g)))
end natdiv_Root


namespace natmul_Mul
noncomputable def C : Code := bodyOf Try.f33
def D2.t (R : Rt) (a0 : Option Addr) (l0 : Nat) (c0 : Nat) (a1 : Option Addr) (l1 : Nat) (c1 : Nat) (h : Hp) : Prop :=
  HC natmul_product.id #[.slice a0 l0 c0, .slice a1 l1 c1] h fun v7 h8 =>
  gSlice v7 fun a_9 l_9 c_9 =>
  HC natmul_told.id #[.slice a_9 l_9 c_9] h8 fun v10 h11 =>
  gTup v10 fun y12 =>
  uncons y12 fun v13 y13 =>
  gSlice v13 fun a_14 l_14 c_14 =>
  uncons y13 fun v15 y15 =>
  gInt .i64 v15 fun x_16 =>
  unnil y15 <| R (.tuple #[.slice a_14 l_14 c_14, .int .i64 x_16]) h11
def D2.g (R : Rt) (fr : Fr) (h : Hp) : Prop := gSlice (fr 0) fun a0 l0 c0 => gSlice (fr 1) fun a1 l1 c1 => D2.t R a0 l0 c0 a1 l1 c1 h
theorem D2.ok (R : Rt) (fr : Fr) (h : Hp) (g : D2.g R fr h) : den prog E (cAt C [true, true]) (retQ E [.tmp 4, .tmp 5] R) fr h := by
  obtain ⟨a0, l0, c0, e0, g⟩ := gSlice_elim g
  obtain ⟨a1, l1, c1, e1, g⟩ := gSlice_elim g
  exact den_enter [(0, .slice a0 l0 c0), (1, .slice a1 l1 c1)] ⟨e0, e1, trivial⟩ (by kernel_rfl) g
def D1.t (R : Rt) (a0 : Option Addr) (l0 : Nat) (c0 : Nat) (a1 : Option Addr) (l1 : Nat) (c1 : Nat) (h : Hp) : Prop :=
  HC nat_Form.id #[.slice a0 l0 c0] h fun v1 h2 =>
  gBool v1 fun b_3 =>
  cond (!b_3) (R (.tuple #[.slice none 0 0, .int .i64 2]) h2) (HC nat_Form.id #[.slice a1 l1 c1] h2 fun v4 h5 =>
  gBool v4 fun b_6 =>
  cond (!b_6) (R (.tuple #[.slice none 0 0, .int .i64 2]) h5) (D2.t R a0 l0 c0 a1 l1 c1 h5))
def D1.g (R : Rt) (fr : Fr) (h : Hp) : Prop := gSlice (fr 0) fun a0 l0 c0 => gSlice (fr 1) fun a1 l1 c1 => D1.t R a0 l0 c0 a1 l1 c1 h
theorem D1.ok (R : Rt) (fr : Fr) (h : Hp) (g : D1.g R fr h) : den prog E C (retQ E [.tmp 4, .tmp 5] R) fr h := by
  obtain ⟨a0, l0, c0, e0, g⟩ := gSlice_elim g
  obtain ⟨a1, l1, c1, e1, g⟩ := gSlice_elim g
  exact den_cut 2 (r := (cAt C [true, true])) (by kernel_rfl) (D2.ok R) (den_enter [(0, .slice a0 l0 c0), (1, .slice a1 l1 c1)] ⟨e0, e1, trivial⟩ (by kernel_rfl) g)
def t (a0 : Option Addr) (l0 : Nat) (c0 : Nat) (a1 : Option Addr) (l1 : Nat) (c1 : Nat) (h : Hp) (R : Rt) : Prop := D1.t R a0 l0 c0 a1 l1 c1 h
theorem ok {a0 : Option Addr} {l0 : Nat} {c0 : Nat} {a1 : Option Addr} {l1 : Nat} {c1 : Nat} {h : Hp} {R : Rt} (g : t a0 l0 c0 a1 l1 c1 h R) : HC id #[.slice a0 l0 c0, .slice a1 l1 c1] h R :=
  calls_of_den' envOk (c := C) (rs := [.tmp 4, .tmp 5]) Try.func33 (by kernel_rfl) (by kernel_rfl) (by kernel_rfl) (args := [.slice a0 l0 c0, .slice a1 l1 c1]) (by kernel_rfl) (D1.ok R _ h (gSlice_intro rfl (gSlice_intro rfl (g))))
end natmul_Mul

end Go.Proofs.Ytdpkfipkjdlmlaa.G
