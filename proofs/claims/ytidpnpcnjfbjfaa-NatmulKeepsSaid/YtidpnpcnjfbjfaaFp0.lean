/- Functions of the translation as predicates over heaps, and that their calls do so. Written by a program of this work. -/
import Derived.Test.YtidpnpcnjfbjfaaEnv
namespace Go.Proofs.Ytidpnpcnjfbjfaa.G
open Go.Gv
set_option linter.unusedVariables false
set_option maxRecDepth 100000
namespace gnomonlaw02_NatmulLists
noncomputable def C : Code := bodyOf Try.f3
def D4.t (R : Rt) (a0 : Option Addr) (l0 : Nat) (c0 : Nat) (a6 : Option Addr) (l6 : Nat) (c6 : Nat) (x12 : Int) (h : Hp) : Prop :=
  letK (IntKind.i64.wrap (x12 - 1)) fun n26 =>
  idxK a6 l6 n26 1 fun q27 =>
  ldK h q27 fun v28 =>
  gSlice v28 fun a_29 l_29 c_29 =>
  letK (IntKind.i64.wrap (x12 - 1)) fun n30 =>
  idxK a0 l0 n30 1 fun q31 =>
  ldK h q31 fun v32 =>
  gSlice v32 fun a_33 l_33 c_33 =>
  letK (IntKind.i64.wrap ((((l_33 : Nat) : Int)) - 1)) fun n34 =>
  idxK a_29 l_29 n34 1 fun q35 =>
  ldK h q35 fun v36 =>
  gInt .u64 v36 fun x_37 =>
  letK (xorI .u64 x_37 6) fun n38 =>
  idxK a_29 l_29 n34 1 fun q39 =>
  stK h q39 (.int .u64 n38) fun h40 =>
  HC natmul_Product.id #[.slice a6 l6 c6] h40 fun v41 h42 =>
  gTup v41 fun y43 =>
  uncons y43 fun v44 y44 =>
  gSlice v44 fun a_45 l_45 c_45 =>
  uncons y44 fun v46 y46 =>
  gInt .i64 v46 fun x_47 =>
  unnil y46 <| HC gnomonref02_DocProduct.id #[.slice a6 l6 c6] h42 fun v48 h49 =>
  gTup v48 fun y50 =>
  uncons y50 fun v51 y51 =>
  gSlice v51 fun a_52 l_52 c_52 =>
  uncons y51 fun v53 y53 =>
  gInt .i64 v53 fun x_54 =>
  unnil y53 <| cond (x_47 == x_54) (HQC gnomonref01_Same.id #[.slice a_45 l_45 c_45, .slice a_52 l_52 c_52] h49 fun v55 =>
  gBool v55 fun b_56 =>
  R (.bool b_56) h49) (R (.bool false) h49)
def D4.g (R : Rt) (fr : Fr) (h : Hp) : Prop := gSlice (fr 0) fun a0 l0 c0 => gSlice (fr 6) fun a6 l6 c6 => gInt .i64 (fr 12) fun x12 => D4.t R a0 l0 c0 a6 l6 c6 x12 h
theorem D4.ok (R : Rt) (fr : Fr) (h : Hp) (g : D4.g R fr h) : den prog E (cAt C [true, true, true, true, true, true, true, true, true, true, true]) (retQ E [.tmp 2] R) fr h := by
  obtain ⟨a0, l0, c0, e0, g⟩ := gSlice_elim g
  obtain ⟨a6, l6, c6, e6, g⟩ := gSlice_elim g
  obtain ⟨x12, e12, g⟩ := gInt_elim g
  exact den_enter [(0, .slice a0 l0 c0), (6, .slice a6 l6 c6), (12, .int .i64 x12)] ⟨e0, e6, e12, trivial⟩ (by kernel_rfl) g
def D3.t (R : Rt) (a0 : Option Addr) (l0 : Nat) (c0 : Nat) (a6 : Option Addr) (l6 : Nat) (c6 : Nat) (x12 : Int) (h : Hp) : Prop :=
  cond (x12 == 0) (R (.bool true) h) (letK (IntKind.i64.wrap (x12 - 1)) fun n22 =>
  idxK a0 l0 n22 1 fun q23 =>
  ldK h q23 fun v24 =>
  gSlice v24 fun a_25 l_25 c_25 =>
  cond ((((l_25 : Nat) : Int)) == 0) (R (.bool true) h) (D4.t R a0 l0 c0 a6 l6 c6 x12 h))
def D3.g (R : Rt) (fr : Fr) (h : Hp) : Prop := gSlice (fr 0) fun a0 l0 c0 => gSlice (fr 6) fun a6 l6 c6 => gInt .i64 (fr 12) fun x12 => D3.t R a0 l0 c0 a6 l6 c6 x12 h
theorem D3.ok (R : Rt) (fr : Fr) (h : Hp) (g : D3.g R fr h) : den prog E (cAt C [true, true, true, true, true, true, true, true, true, true]) (retQ E [.tmp 2] R) fr h := by
  obtain ⟨a0, l0, c0, e0, g⟩ := gSlice_elim g
  obtain ⟨a6, l6, c6, e6, g⟩ := gSlice_elim g
  obtain ⟨x12, e12, g⟩ := gInt_elim g
  exact den_cut 1 (r := (cAt C [true, true, true, true, true, true, true, true, true, true, true])) (by kernel_rfl) (D4.ok R) (den_enter [(0, .slice a0 l0 c0), (6, .slice a6 l6 c6), (12, .int .i64 x12)] ⟨e0, e6, e12, trivial⟩ (by kernel_rfl) g)
def L6.g (N : Option Addr → Nat → Nat → Option Addr → Nat → Nat → Int → Option Addr → Nat → Nat → Option Addr → Nat → Nat → Option Addr → Nat → Nat → Int → Option Addr → Nat → Nat → Int → Hp → Prop) (fr : Fr) (h : Hp) : Prop := gSlice (fr 0) fun a0 l0 c0 => gSlice (fr 3) fun a3 l3 c3 => gInt .i64 (fr 4) fun x4 => gSlice (fr 5) fun a5 l5 c5 => gSlice (fr 6) fun a6 l6 c6 => gSlice (fr 7) fun a7 l7 c7 => gInt .i64 (fr 12) fun x12 => gSlice (fr 13) fun a13 l13 c13 => gInt .i64 (fr 60) fun x60 => N a0 l0 c0 a3 l3 c3 x4 a5 l5 c5 a6 l6 c6 a7 l7 c7 x12 a13 l13 c13 x60 h
def D8.t (R : Rt) (N6 : Option Addr → Nat → Nat → Option Addr → Nat → Nat → Int → Option Addr → Nat → Nat → Option Addr → Nat → Nat → Option Addr → Nat → Nat → Int → Option Addr → Nat → Nat → Int → Hp → Prop) (a0 : Option Addr) (l0 : Nat) (c0 : Nat) (a3 : Option Addr) (l3 : Nat) (c3 : Nat) (x4 : Int) (a5 : Option Addr) (l5 : Nat) (c5 : Nat) (a6 : Option Addr) (l6 : Nat) (c6 : Nat) (a7 : Option Addr) (l7 : Nat) (c7 : Nat) (x12 : Int) (a13 : Option Addr) (l13 : Nat) (c13 : Nat) (x60 : Int) (h : Hp) : Prop :=
  letK (IntKind.i64.wrap (x60 + 1)) fun n57 =>
  N6 a0 l0 c0 a3 l3 c3 x4 a5 l5 c5 a6 l6 c6 a7 l7 c7 x12 a13 l13 c13 n57 h
def D8.g (R : Rt) (N6 : Option Addr → Nat → Nat → Option Addr → Nat → Nat → Int → Option Addr → Nat → Nat → Option Addr → Nat → Nat → Option Addr → Nat → Nat → Int → Option Addr → Nat → Nat → Int → Hp → Prop) (fr : Fr) (h : Hp) : Prop := gSlice (fr 0) fun a0 l0 c0 => gSlice (fr 3) fun a3 l3 c3 => gInt .i64 (fr 4) fun x4 => gSlice (fr 5) fun a5 l5 c5 => gSlice (fr 6) fun a6 l6 c6 => gSlice (fr 7) fun a7 l7 c7 => gInt .i64 (fr 12) fun x12 => gSlice (fr 13) fun a13 l13 c13 => gInt .i64 (fr 60) fun x60 => D8.t R N6 a0 l0 c0 a3 l3 c3 x4 a5 l5 c5 a6 l6 c6 a7 l7 c7 x12 a13 l13 c13 x60 h
theorem D8.ok (R : Rt) (N6 : Option Addr → Nat → Nat → Option Addr → Nat → Nat → Int → Option Addr → Nat → Nat → Option Addr → Nat → Nat → Option Addr → Nat → Nat → Int → Option Addr → Nat → Nat → Int → Hp → Prop) (fr : Fr) (h : Hp) (g : D8.g R N6 fr h) : den prog E (cAt C [true, true, true, true, true, true, true, true, true, false, true, false, false, true, true, true]) (Ex.then (L6.g N6) (Ex.inBlock 2 (Ex.then (D3.g R) (retQ E [.tmp 2] R)))) fr h := by
  obtain ⟨a0, l0, c0, e0, g⟩ := gSlice_elim g
  obtain ⟨a3, l3, c3, e3, g⟩ := gSlice_elim g
  obtain ⟨x4, e4, g⟩ := gInt_elim g
  obtain ⟨a5, l5, c5, e5, g⟩ := gSlice_elim g
  obtain ⟨a6, l6, c6, e6, g⟩ := gSlice_elim g
  obtain ⟨a7, l7, c7, e7, g⟩ := gSlice_elim g
  obtain ⟨x12, e12, g⟩ := gInt_elim g
  obtain ⟨a13, l13, c13, e13, g⟩ := gSlice_elim g
  obtain ⟨x60, e60, g⟩ := gInt_elim g
  exact den_enter [(0, .slice a0 l0 c0), (3, .slice a3 l3 c3), (4, .int .i64 x4), (5, .slice a5 l5 c5), (6, .slice a6 l6 c6), (7, .slice a7 l7 c7), (12, .int .i64 x12), (13, .slice a13 l13 c13), (60, .int .i64 x60)] ⟨e0, e3, e4, e5, e6, e7, e12, e13, e60, trivial⟩ (by kernel_rfl) g
def D10.t (R : Rt) (N6 : Option Addr → Nat → Nat → Option Addr → Nat → Nat → Int → Option Addr → Nat → Nat → Option Addr → Nat → Nat → Option Addr → Nat → Nat → Int → Option Addr → Nat → Nat → Int → Hp → Prop) (a0 : Option Addr) (l0 : Nat) (c0 : Nat) (a3 : Option Addr) (l3 : Nat) (c3 : Nat) (x4 : Int) (a5 : Option Addr) (l5 : Nat) (c5 : Nat) (a6 : Option Addr) (l6 : Nat) (c6 : Nat) (a7 : Option Addr) (l7 : Nat) (c7 : Nat) (x12 : Int) (a13 : Option Addr) (l13 : Nat) (c13 : Nat) (x60 : Int) (h : Hp) : Prop :=
  idxK a13 l13 x12 1 fun q67 =>
  ldK h q67 fun v68 =>
  gSlice v68 fun a_69 l_69 c_69 =>
  HQC gnomonref01_Same.id #[.slice a_69 l_69 c_69, .slice a5 l5 c5] h fun v70 =>
  gBool v70 fun b_71 =>
  cond (!b_71) (R (.bool false) h) (letK (IntKind.i64.wrap (x12 + 1)) fun n72 =>
  idxK a13 l13 n72 1 fun q73 =>
  ldK h q73 fun v74 =>
  gSlice v74 fun a_75 l_75 c_75 =>
  HQC gnomonref01_Same.id #[.slice a_75 l_75 c_75, .slice a5 l5 c5] h fun v76 =>
  gBool v76 fun b_77 =>
  cond (!b_77) (R (.bool false) h) (D8.t R N6 a0 l0 c0 a3 l3 c3 x4 a5 l5 c5 a6 l6 c6 a7 l7 c7 x12 a13 l13 c13 x60 h))
def D10.g (R : Rt) (N6 : Option Addr → Nat → Nat → Option Addr → Nat → Nat → Int → Option Addr → Nat → Nat → Option Addr → Nat → Nat → Option Addr → Nat → Nat → Int → Option Addr → Nat → Nat → Int → Hp → Prop) (fr : Fr) (h : Hp) : Prop := gSlice (fr 0) fun a0 l0 c0 => gSlice (fr 3) fun a3 l3 c3 => gInt .i64 (fr 4) fun x4 => gSlice (fr 5) fun a5 l5 c5 => gSlice (fr 6) fun a6 l6 c6 => gSlice (fr 7) fun a7 l7 c7 => gInt .i64 (fr 12) fun x12 => gSlice (fr 13) fun a13 l13 c13 => gInt .i64 (fr 60) fun x60 => D10.t R N6 a0 l0 c0 a3 l3 c3 x4 a5 l5 c5 a6 l6 c6 a7 l7 c7 x12 a13 l13 c13 x60 h
theorem D10.ok (R : Rt) (N6 : Option Addr → Nat → Nat → Option Addr → Nat → Nat → Int → Option Addr → Nat → Nat → Option Addr → Nat → Nat → Option Addr → Nat → Nat → Int → Option Addr → Nat → Nat → Int → Hp → Prop) (fr : Fr) (h : Hp) (g : D10.g R N6 fr h) : den prog E (cAt C [true, true, true, true, true, true, true, true, true, false, true, false, false, true, true, false, false, true, true, true]) (Ex.inBlock 3 (Ex.then (D8.g R N6) (Ex.then (L6.g N6) (Ex.inBlock 2 (Ex.then (D3.g R) (retQ E [.tmp 2] R)))))) fr h := by
  obtain ⟨a0, l0, c0, e0, g⟩ := gSlice_elim g
  obtain ⟨a3, l3, c3, e3, g⟩ := gSlice_elim g
  obtain ⟨x4, e4, g⟩ := gInt_elim g
  obtain ⟨a5, l5, c5, e5, g⟩ := gSlice_elim g
  obtain ⟨a6, l6, c6, e6, g⟩ := gSlice_elim g
  obtain ⟨a7, l7, c7, e7, g⟩ := gSlice_elim g
  obtain ⟨x12, e12, g⟩ := gInt_elim g
  obtain ⟨a13, l13, c13, e13, g⟩ := gSlice_elim g
  obtain ⟨x60, e60, g⟩ := gInt_elim g
  exact den_enter [(0, .slice a0 l0 c0), (3, .slice a3 l3 c3), (4, .int .i64 x4), (5, .slice a5 l5 c5), (6, .slice a6 l6 c6), (7, .slice a7 l7 c7), (12, .int .i64 x12), (13, .slice a13 l13 c13), (60, .int .i64 x60)] ⟨e0, e3, e4, e5, e6, e7, e12, e13, e60, trivial⟩ (by kernel_rfl) g
def L12.g (N : Option Addr → Nat → Nat → Option Addr → Nat → Nat → Int → Option Addr → Nat → Nat → Option Addr → Nat → Nat → Option Addr → Nat → Nat → Int → Option Addr → Nat → Nat → Int → Option Addr → Nat → Nat → Int → Int → Hp → Prop) (fr : Fr) (h : Hp) : Prop := gSlice (fr 0) fun a0 l0 c0 => gSlice (fr 3) fun a3 l3 c3 => gInt .i64 (fr 4) fun x4 => gSlice (fr 5) fun a5 l5 c5 => gSlice (fr 6) fun a6 l6 c6 => gSlice (fr 7) fun a7 l7 c7 => gInt .i64 (fr 12) fun x12 => gSlice (fr 13) fun a13 l13 c13 => gInt .i64 (fr 60) fun x60 => gSlice (fr 82) fun a82 l82 c82 => gInt .i64 (fr 83) fun x83 => gInt .i64 (fr 84) fun x84 => N a0 l0 c0 a3 l3 c3 x4 a5 l5 c5 a6 l6 c6 a7 l7 c7 x12 a13 l13 c13 x60 a82 l82 c82 x83 x84 h
def D13.t (R : Rt) (N6 : Option Addr → Nat → Nat → Option Addr → Nat → Nat → Int → Option Addr → Nat → Nat → Option Addr → Nat → Nat → Option Addr → Nat → Nat → Int → Option Addr → Nat → Nat → Int → Hp → Prop) (N12 : Option Addr → Nat → Nat → Option Addr → Nat → Nat → Int → Option Addr → Nat → Nat → Option Addr → Nat → Nat → Option Addr → Nat → Nat → Int → Option Addr → Nat → Nat → Int → Option Addr → Nat → Nat → Int → Int → Hp → Prop) (a0 : Option Addr) (l0 : Nat) (c0 : Nat) (a3 : Option Addr) (l3 : Nat) (c3 : Nat) (x4 : Int) (a5 : Option Addr) (l5 : Nat) (c5 : Nat) (a6 : Option Addr) (l6 : Nat) (c6 : Nat) (a7 : Option Addr) (l7 : Nat) (c7 : Nat) (x12 : Int) (a13 : Option Addr) (l13 : Nat) (c13 : Nat) (x60 : Int) (a82 : Option Addr) (l82 : Nat) (c82 : Nat) (x83 : Int) (x84 : Int) (h : Hp) : Prop :=
  cond (decide (x84 < x83)) (idxK a82 l82 x84 1 fun q78 =>
  ldK h q78 fun v79 =>
  gSlice v79 fun a_80 l_80 c_80 =>
  idxK a6 l6 x84 1 fun q81 =>
  ldK h q81 fun v82 =>
  gSlice v82 fun a_83 l_83 c_83 =>
  HQC gnomonref01_Same.id #[.slice a_83 l_83 c_83, .slice a_80 l_80 c_80] h fun v84 =>
  gBool v84 fun b_85 =>
  cond (!b_85) (R (.bool false) h) (idxK a7 l7 x84 1 fun q86 =>
  ldK h q86 fun v87 =>
  gSlice v87 fun a_88 l_88 c_88 =>
  HQC gnomonref01_Kept.id #[.slice a_88 l_88 c_88, .slice a_80 l_80 c_80] h fun v89 =>
  gBool v89 fun b_90 =>
  cond (!b_90) (R (.bool false) h) (letK (IntKind.i64.wrap (x84 + 1)) fun n91 =>
  N12 a0 l0 c0 a3 l3 c3 x4 a5 l5 c5 a6 l6 c6 a7 l7 c7 x12 a13 l13 c13 x60 a82 l82 c82 x83 n91 h))) (D10.t R N6 a0 l0 c0 a3 l3 c3 x4 a5 l5 c5 a6 l6 c6 a7 l7 c7 x12 a13 l13 c13 x60 h)
def D13.g (R : Rt) (N6 : Option Addr → Nat → Nat → Option Addr → Nat → Nat → Int → Option Addr → Nat → Nat → Option Addr → Nat → Nat → Option Addr → Nat → Nat → Int → Option Addr → Nat → Nat → Int → Hp → Prop) (N12 : Option Addr → Nat → Nat → Option Addr → Nat → Nat → Int → Option Addr → Nat → Nat → Option Addr → Nat → Nat → Option Addr → Nat → Nat → Int → Option Addr → Nat → Nat → Int → Option Addr → Nat → Nat → Int → Int → Hp → Prop) (fr : Fr) (h : Hp) : Prop := gSlice (fr 0) fun a0 l0 c0 => gSlice (fr 3) fun a3 l3 c3 => gInt .i64 (fr 4) fun x4 => gSlice (fr 5) fun a5 l5 c5 => gSlice (fr 6) fun a6 l6 c6 => gSlice (fr 7) fun a7 l7 c7 => gInt .i64 (fr 12) fun x12 => gSlice (fr 13) fun a13 l13 c13 => gInt .i64 (fr 60) fun x60 => gSlice (fr 82) fun a82 l82 c82 => gInt .i64 (fr 83) fun x83 => gInt .i64 (fr 84) fun x84 => D13.t R N6 N12 a0 l0 c0 a3 l3 c3 x4 a5 l5 c5 a6 l6 c6 a7 l7 c7 x12 a13 l13 c13 x60 a82 l82 c82 x83 x84 h
theorem D13.ok (R : Rt) (N6 : Option Addr → Nat → Nat → Option Addr → Nat → Nat → Int → Option Addr → Nat → Nat → Option Addr → Nat → Nat → Option Addr → Nat → Nat → Int → Option Addr → Nat → Nat → Int → Hp → Prop) (N12 : Option Addr → Nat → Nat → Option Addr → Nat → Nat → Int → Option Addr → Nat → Nat → Option Addr → Nat → Nat → Option Addr → Nat → Nat → Int → Option Addr → Nat → Nat → Int → Option Addr → Nat → Nat → Int → Int → Hp → Prop) (fr : Fr) (h : Hp) (g : D13.g R N6 N12 fr h) : den prog E (cAt C [true, true, true, true, true, true, true, true, true, false, true, false, false, true, true, false, false, true, true, false, true, false, false]) (Ex.then (L12.g N12) (Ex.inBlock 4 (Ex.then (D10.g R N6) (Ex.inBlock 3 (Ex.then (D8.g R N6) (Ex.then (L6.g N6) (Ex.inBlock 2 (Ex.then (D3.g R) (retQ E [.tmp 2] R))))))))) fr h := by
  obtain ⟨a0, l0, c0, e0, g⟩ := gSlice_elim g
  obtain ⟨a3, l3, c3, e3, g⟩ := gSlice_elim g
  obtain ⟨x4, e4, g⟩ := gInt_elim g
  obtain ⟨a5, l5, c5, e5, g⟩ := gSlice_elim g
  obtain ⟨a6, l6, c6, e6, g⟩ := gSlice_elim g
  obtain ⟨a7, l7, c7, e7, g⟩ := gSlice_elim g
  obtain ⟨x12, e12, g⟩ := gInt_elim g
  obtain ⟨a13, l13, c13, e13, g⟩ := gSlice_elim g
  obtain ⟨x60, e60, g⟩ := gInt_elim g
  obtain ⟨a82, l82, c82, e82, g⟩ := gSlice_elim g
  obtain ⟨x83, e83, g⟩ := gInt_elim g
  obtain ⟨x84, e84, g⟩ := gInt_elim g
  exact den_enter [(0, .slice a0 l0 c0), (3, .slice a3 l3 c3), (4, .int .i64 x4), (5, .slice a5 l5 c5), (6, .slice a6 l6 c6), (7, .slice a7 l7 c7), (12, .int .i64 x12), (13, .slice a13 l13 c13), (60, .int .i64 x60), (82, .slice a82 l82 c82), (83, .int .i64 x83), (84, .int .i64 x84)] ⟨e0, e3, e4, e5, e6, e7, e12, e13, e60, e82, e83, e84, trivial⟩ (by kernel_rfl) g
def L12.t (R : Rt) (N6 : Option Addr → Nat → Nat → Option Addr → Nat → Nat → Int → Option Addr → Nat → Nat → Option Addr → Nat → Nat → Option Addr → Nat → Nat → Int → Option Addr → Nat → Nat → Int → Hp → Prop) : Nat → Option Addr → Nat → Nat → Option Addr → Nat → Nat → Int → Option Addr → Nat → Nat → Option Addr → Nat → Nat → Option Addr → Nat → Nat → Int → Option Addr → Nat → Nat → Int → Option Addr → Nat → Nat → Int → Int → Hp → Prop
  | 0 => fun _ _ _ _ _ _ _ _ _ _ _ _ _ _ _ _ _ _ _ _ _ _ _ _ _ _ _ => False
  | n + 1 => fun a0 l0 c0 a3 l3 c3 x4 a5 l5 c5 a6 l6 c6 a7 l7 c7 x12 a13 l13 c13 x60 a82 l82 c82 x83 x84 h => D13.t R N6 (L12.t R N6 n) a0 l0 c0 a3 l3 c3 x4 a5 l5 c5 a6 l6 c6 a7 l7 c7 x12 a13 l13 c13 x60 a82 l82 c82 x83 x84 h
theorem L12.ok (R : Rt) (N6 : Option Addr → Nat → Nat → Option Addr → Nat → Nat → Int → Option Addr → Nat → Nat → Option Addr → Nat → Nat → Option Addr → Nat → Nat → Int → Option Addr → Nat → Nat → Int → Hp → Prop) (fr : Fr) (h : Hp) (g : L12.g (fun a0 l0 c0 a3 l3 c3 x4 a5 l5 c5 a6 l6 c6 a7 l7 c7 x12 a13 l13 c13 x60 a82 l82 c82 x83 x84 h => ∃ n, L12.t R N6 n a0 l0 c0 a3 l3 c3 x4 a5 l5 c5 a6 l6 c6 a7 l7 c7 x12 a13 l13 c13 x60 a82 l82 c82 x83 x84 h) fr h) : den prog E (cAt C [true, true, true, true, true, true, true, true, true, false, true, false, false, true, true, false, false, true, true, false, true, false]) (Ex.inBlock 4 (Ex.then (D10.g R N6) (Ex.inBlock 3 (Ex.then (D8.g R N6) (Ex.then (L6.g N6) (Ex.inBlock 2 (Ex.then (D3.g R) (retQ E [.tmp 2] R)))))))) fr h := by
  obtain ⟨a0, l0, c0, e0, g⟩ := gSlice_elim g
  obtain ⟨a3, l3, c3, e3, g⟩ := gSlice_elim g
  obtain ⟨x4, e4, g⟩ := gInt_elim g
  obtain ⟨a5, l5, c5, e5, g⟩ := gSlice_elim g
  obtain ⟨a6, l6, c6, e6, g⟩ := gSlice_elim g
  obtain ⟨a7, l7, c7, e7, g⟩ := gSlice_elim g
  obtain ⟨x12, e12, g⟩ := gInt_elim g
  obtain ⟨a13, l13, c13, e13, g⟩ := gSlice_elim g
  obtain ⟨x60, e60, g⟩ := gInt_elim g
  obtain ⟨a82, l82, c82, e82, g⟩ := gSlice_elim g
  obtain ⟨x83, e83, g⟩ := gInt_elim g
  obtain ⟨x84, e84, g⟩ := gInt_elim g
  obtain ⟨n, g⟩ := g
  refine loop_ok (fun n => L12.g (L12.t R N6 n)) (b := (cAt C [true, true, true, true, true, true, true, true, true, false, true, false, false, true, true, false, false, true, true, false, true, false, false])) (by kernel_rfl) (fun fr h g => ?_) (fun n => D13.ok R N6 (L12.t R N6 n)) n fr h (gSlice_intro e0 (gSlice_intro e3 (gInt_intro e4 (gSlice_intro e5 (gSlice_intro e6 (gSlice_intro e7 (gInt_intro e12 (gSlice_intro e13 (gInt_intro e60 (gSlice_intro e82 (gInt_intro e83 (gInt_intro e84 (g)))))))))))))
  obtain ⟨a0, l0, c0, e0, g⟩ := gSlice_elim g
  obtain ⟨a3, l3, c3, e3, g⟩ := gSlice_elim g
  obtain ⟨x4, e4, g⟩ := gInt_elim g
  obtain ⟨a5, l5, c5, e5, g⟩ := gSlice_elim g
  obtain ⟨a6, l6, c6, e6, g⟩ := gSlice_elim g
  obtain ⟨a7, l7, c7, e7, g⟩ := gSlice_elim g
  obtain ⟨x12, e12, g⟩ := gInt_elim g
  obtain ⟨a13, l13, c13, e13, g⟩ := gSlice_elim g
  obtain ⟨x60, e60, g⟩ := gInt_elim g
  obtain ⟨a82, l82, c82, e82, g⟩ := gSlice_elim g
  obtain ⟨x83, e83, g⟩ := gInt_elim g
  obtain ⟨x84, e84, g⟩ := gInt_elim g
  exact g
theorem B14.ok (R : Rt) (N6 : Option Addr → Nat → Nat → Option Addr → Nat → Nat → Int → Option Addr → Nat → Nat → Option Addr → Nat → Nat → Option Addr → Nat → Nat → Int → Option Addr → Nat → Nat → Int → Hp → Prop) (fr : Fr) (h : Hp) (g : L12.g (fun a0 l0 c0 a3 l3 c3 x4 a5 l5 c5 a6 l6 c6 a7 l7 c7 x12 a13 l13 c13 x60 a82 l82 c82 x83 x84 h => ∃ n, L12.t R N6 n a0 l0 c0 a3 l3 c3 x4 a5 l5 c5 a6 l6 c6 a7 l7 c7 x12 a13 l13 c13 x60 a82 l82 c82 x83 x84 h) fr h) : den prog E (cAt C [true, true, true, true, true, true, true, true, true, false, true, false, false, true, true, false, false, true, true, false, true]) (Ex.then (D10.g R N6) (Ex.inBlock 3 (Ex.then (D8.g R N6) (Ex.then (L6.g N6) (Ex.inBlock 2 (Ex.then (D3.g R) (retQ E [.tmp 2] R))))))) fr h :=
  den_block (by kernel_rfl) (L12.ok R N6 fr h g)
def D11.t (R : Rt) (N6 : Option Addr → Nat → Nat → Option Addr → Nat → Nat → Int → Option Addr → Nat → Nat → Option Addr → Nat → Nat → Option Addr → Nat → Nat → Int → Option Addr → Nat → Nat → Int → Hp → Prop) (a0 : Option Addr) (l0 : Nat) (c0 : Nat) (a3 : Option Addr) (l3 : Nat) (c3 : Nat) (x4 : Int) (a5 : Option Addr) (l5 : Nat) (c5 : Nat) (a6 : Option Addr) (l6 : Nat) (c6 : Nat) (a7 : Option Addr) (l7 : Nat) (c7 : Nat) (x12 : Int) (a13 : Option Addr) (l13 : Nat) (c13 : Nat) (x60 : Int) (h : Hp) : Prop :=
  (∃ n, L12.t R N6 n a0 l0 c0 a3 l3 c3 x4 a5 l5 c5 a6 l6 c6 a7 l7 c7 x12 a13 l13 c13 x60 a0 l0 c0 (((l0 : Nat) : Int)) 0 h)
def D11.g (R : Rt) (N6 : Option Addr → Nat → Nat → Option Addr → Nat → Nat → Int → Option Addr → Nat → Nat → Option Addr → Nat → Nat → Option Addr → Nat → Nat → Int → Option Addr → Nat → Nat → Int → Hp → Prop) (fr : Fr) (h : Hp) : Prop := gSlice (fr 0) fun a0 l0 c0 => gSlice (fr 3) fun a3 l3 c3 => gInt .i64 (fr 4) fun x4 => gSlice (fr 5) fun a5 l5 c5 => gSlice (fr 6) fun a6 l6 c6 => gSlice (fr 7) fun a7 l7 c7 => gInt .i64 (fr 12) fun x12 => gSlice (fr 13) fun a13 l13 c13 => gInt .i64 (fr 60) fun x60 => D11.t R N6 a0 l0 c0 a3 l3 c3 x4 a5 l5 c5 a6 l6 c6 a7 l7 c7 x12 a13 l13 c13 x60 h
theorem D11.ok (R : Rt) (N6 : Option Addr → Nat → Nat → Option Addr → Nat → Nat → Int → Option Addr → Nat → Nat → Option Addr → Nat → Nat → Option Addr → Nat → Nat → Int → Option Addr → Nat → Nat → Int → Hp → Prop) (fr : Fr) (h : Hp) (g : D11.g R N6 fr h) : den prog E (cAt C [true, true, true, true, true, true, true, true, true, false, true, false, false, true, true, false, false, true, true, false]) (Ex.then (D10.g R N6) (Ex.inBlock 3 (Ex.then (D8.g R N6) (Ex.then (L6.g N6) (Ex.inBlock 2 (Ex.then (D3.g R) (retQ E [.tmp 2] R))))))) fr h := by
  obtain ⟨a0, l0, c0, e0, g⟩ := gSlice_elim g
  obtain ⟨a3, l3, c3, e3, g⟩ := gSlice_elim g
  obtain ⟨x4, e4, g⟩ := gInt_elim g
  obtain ⟨a5, l5, c5, e5, g⟩ := gSlice_elim g
  obtain ⟨a6, l6, c6, e6, g⟩ := gSlice_elim g
  obtain ⟨a7, l7, c7, e7, g⟩ := gSlice_elim g
  obtain ⟨x12, e12, g⟩ := gInt_elim g
  obtain ⟨a13, l13, c13, e13, g⟩ := gSlice_elim g
  obtain ⟨x60, e60, g⟩ := gInt_elim g
  exact den_cut 1 (r := (cAt C [true, true, true, true, true, true, true, true, true, false, true, false, false, true, true, false, false, true, true, false, true])) (by kernel_rfl) (B14.ok R N6) (den_enter [(0, .slice a0 l0 c0), (3, .slice a3 l3 c3), (4, .int .i64 x4), (5, .slice a5 l5 c5), (6, .slice a6 l6 c6), (7, .slice a7 l7 c7), (12, .int .i64 x12), (13, .slice a13 l13 c13), (60, .int .i64 x60)] ⟨e0, e3, e4, e5, e6, e7, e12, e13, e60, trivial⟩ (by kernel_rfl) g)
theorem W15.ok (R : Rt) (N6 : Option Addr → Nat → Nat → Option Addr → Nat → Nat → Int → Option Addr → Nat → Nat → Option Addr → Nat → Nat → Option Addr → Nat → Nat → Int → Option Addr → Nat → Nat → Int → Hp → Prop) (fr : Fr) (h : Hp) (g : D11.g R N6 fr h) : den prog E (cAt C [true, true, true, true, true, true, true, true, true, false, true, false, false, true, true, false, false, true, true]) (Ex.inBlock 3 (Ex.then (D8.g R N6) (Ex.then (L6.g N6) (Ex.inBlock 2 (Ex.then (D3.g R) (retQ E [.tmp 2] R)))))) fr h :=
  den_then (by kernel_rfl) (D10.ok R N6) (D11.ok R N6 fr h g)
def D9.t (R : Rt) (N6 : Option Addr → Nat → Nat → Option Addr → Nat → Nat → Int → Option Addr → Nat → Nat → Option Addr → Nat → Nat → Option Addr → Nat → Nat → Int → Option Addr → Nat → Nat → Int → Hp → Prop) (a0 : Option Addr) (l0 : Nat) (c0 : Nat) (a3 : Option Addr) (l3 : Nat) (c3 : Nat) (x4 : Int) (a5 : Option Addr) (l5 : Nat) (c5 : Nat) (a6 : Option Addr) (l6 : Nat) (c6 : Nat) (a7 : Option Addr) (l7 : Nat) (c7 : Nat) (x12 : Int) (a13 : Option Addr) (l13 : Nat) (c13 : Nat) (x60 : Int) (h : Hp) : Prop :=
  HC natmul_Product.id #[.slice a6 l6 c6] h fun v58 h59 =>
  gTup v58 fun y60 =>
  uncons y60 fun v61 y61 =>
  gSlice v61 fun a_62 l_62 c_62 =>
  uncons y61 fun v63 y63 =>
  gInt .i64 v63 fun x_64 =>
  unnil y63 <| cond (x_64 != x4) (R (.bool false) h59) (HQC gnomonref01_Same.id #[.slice a_62 l_62 c_62, .slice a3 l3 c3] h59 fun v65 =>
  gBool v65 fun b_66 =>
  cond (!b_66) (R (.bool false) h59) (cond ((((l6 : Nat) : Int)) != x12) (R (.bool false) h59) (D11.t R N6 a0 l0 c0 a3 l3 c3 x4 a5 l5 c5 a6 l6 c6 a7 l7 c7 x12 a13 l13 c13 x60 h59)))
def D9.g (R : Rt) (N6 : Option Addr → Nat → Nat → Option Addr → Nat → Nat → Int → Option Addr → Nat → Nat → Option Addr → Nat → Nat → Option Addr → Nat → Nat → Int → Option Addr → Nat → Nat → Int → Hp → Prop) (fr : Fr) (h : Hp) : Prop := gSlice (fr 0) fun a0 l0 c0 => gSlice (fr 3) fun a3 l3 c3 => gInt .i64 (fr 4) fun x4 => gSlice (fr 5) fun a5 l5 c5 => gSlice (fr 6) fun a6 l6 c6 => gSlice (fr 7) fun a7 l7 c7 => gInt .i64 (fr 12) fun x12 => gSlice (fr 13) fun a13 l13 c13 => gInt .i64 (fr 60) fun x60 => D9.t R N6 a0 l0 c0 a3 l3 c3 x4 a5 l5 c5 a6 l6 c6 a7 l7 c7 x12 a13 l13 c13 x60 h
theorem D9.ok (R : Rt) (N6 : Option Addr → Nat → Nat → Option Addr → Nat → Nat → Int → Option Addr → Nat → Nat → Option Addr → Nat → Nat → Option Addr → Nat → Nat → Int → Option Addr → Nat → Nat → Int → Hp → Prop) (fr : Fr) (h : Hp) (g : D9.g R N6 fr h) : den prog E (cAt C [true, true, true, true, true, true, true, true, true, false, true, false, false, true, true, false, false]) (Ex.inBlock 3 (Ex.then (D8.g R N6) (Ex.then (L6.g N6) (Ex.inBlock 2 (Ex.then (D3.g R) (retQ E [.tmp 2] R)))))) fr h := by
  obtain ⟨a0, l0, c0, e0, g⟩ := gSlice_elim g
  obtain ⟨a3, l3, c3, e3, g⟩ := gSlice_elim g
  obtain ⟨x4, e4, g⟩ := gInt_elim g
  obtain ⟨a5, l5, c5, e5, g⟩ := gSlice_elim g
  obtain ⟨a6, l6, c6, e6, g⟩ := gSlice_elim g
  obtain ⟨a7, l7, c7, e7, g⟩ := gSlice_elim g
  obtain ⟨x12, e12, g⟩ := gInt_elim g
  obtain ⟨a13, l13, c13, e13, g⟩ := gSlice_elim g
  obtain ⟨x60, e60, g⟩ := gInt_elim g
  exact den_cut 2 (r := (cAt C [true, true, true, true, true, true, true, true, true, false, true, false, false, true, true, false, false, true, true])) (by kernel_rfl) (W15.ok R N6) (den_enter [(0, .slice a0 l0 c0), (3, .slice a3 l3 c3), (4, .int .i64 x4), (5, .slice a5 l5 c5), (6, .slice a6 l6 c6), (7, .slice a7 l7 c7), (12, .int .i64 x12), (13, .slice a13 l13 c13), (60, .int .i64 x60)] ⟨e0, e3, e4, e5, e6, e7, e12, e13, e60, trivial⟩ (by kernel_rfl) g)
theorem B16.ok (R : Rt) (N6 : Option Addr → Nat → Nat → Option Addr → Nat → Nat → Int → Option Addr → Nat → Nat → Option Addr → Nat → Nat → Option Addr → Nat → Nat → Int → Option Addr → Nat → Nat → Int → Hp → Prop) (fr : Fr) (h : Hp) (g : D9.g R N6 fr h) : den prog E (cAt C [true, true, true, true, true, true, true, true, true, false, true, false, false, true, true, false]) (Ex.then (D8.g R N6) (Ex.then (L6.g N6) (Ex.inBlock 2 (Ex.then (D3.g R) (retQ E [.tmp 2] R))))) fr h :=
  den_block (by kernel_rfl) (D9.ok R N6 fr h g)
theorem W17.ok (R : Rt) (N6 : Option Addr → Nat → Nat → Option Addr → Nat → Nat → Int → Option Addr → Nat → Nat → Option Addr → Nat → Nat → Option Addr → Nat → Nat → Int → Option Addr → Nat → Nat → Int → Hp → Prop) (fr : Fr) (h : Hp) (g : D9.g R N6 fr h) : den prog E (cAt C [true, true, true, true, true, true, true, true, true, false, true, false, false, true, true]) (Ex.then (L6.g N6) (Ex.inBlock 2 (Ex.then (D3.g R) (retQ E [.tmp 2] R)))) fr h :=
  den_then (by kernel_rfl) (D8.ok R N6) (B16.ok R N6 fr h g)
def D7.t (R : Rt) (N6 : Option Addr → Nat → Nat → Option Addr → Nat → Nat → Int → Option Addr → Nat → Nat → Option Addr → Nat → Nat → Option Addr → Nat → Nat → Int → Option Addr → Nat → Nat → Int → Hp → Prop) (a0 : Option Addr) (l0 : Nat) (c0 : Nat) (a3 : Option Addr) (l3 : Nat) (c3 : Nat) (x4 : Int) (a5 : Option Addr) (l5 : Nat) (c5 : Nat) (a6 : Option Addr) (l6 : Nat) (c6 : Nat) (a7 : Option Addr) (l7 : Nat) (c7 : Nat) (x12 : Int) (a13 : Option Addr) (l13 : Nat) (c13 : Nat) (x60 : Int) (h : Hp) : Prop :=
  cond (decide (x60 < 2)) (D9.t R N6 a0 l0 c0 a3 l3 c3 x4 a5 l5 c5 a6 l6 c6 a7 l7 c7 x12 a13 l13 c13 x60 h) (D3.t R a0 l0 c0 a6 l6 c6 x12 h)
def D7.g (R : Rt) (N6 : Option Addr → Nat → Nat → Option Addr → Nat → Nat → Int → Option Addr → Nat → Nat → Option Addr → Nat → Nat → Option Addr → Nat → Nat → Int → Option Addr → Nat → Nat → Int → Hp → Prop) (fr : Fr) (h : Hp) : Prop := gSlice (fr 0) fun a0 l0 c0 => gSlice (fr 3) fun a3 l3 c3 => gInt .i64 (fr 4) fun x4 => gSlice (fr 5) fun a5 l5 c5 => gSlice (fr 6) fun a6 l6 c6 => gSlice (fr 7) fun a7 l7 c7 => gInt .i64 (fr 12) fun x12 => gSlice (fr 13) fun a13 l13 c13 => gInt .i64 (fr 60) fun x60 => D7.t R N6 a0 l0 c0 a3 l3 c3 x4 a5 l5 c5 a6 l6 c6 a7 l7 c7 x12 a13 l13 c13 x60 h
theorem D7.ok (R : Rt) (N6 : Option Addr → Nat → Nat → Option Addr → Nat → Nat → Int → Option Addr → Nat → Nat → Option Addr → Nat → Nat → Option Addr → Nat → Nat → Int → Option Addr → Nat → Nat → Int → Hp → Prop) (fr : Fr) (h : Hp) (g : D7.g R N6 fr h) : den prog E (cAt C [true, true, true, true, true, true, true, true, true, false, true, false, false]) (Ex.then (L6.g N6) (Ex.inBlock 2 (Ex.then (D3.g R) (retQ E [.tmp 2] R)))) fr h := by
  obtain ⟨a0, l0, c0, e0, g⟩ := gSlice_elim g
  obtain ⟨a3, l3, c3, e3, g⟩ := gSlice_elim g
  obtain ⟨x4, e4, g⟩ := gInt_elim g
  obtain ⟨a5, l5, c5, e5, g⟩ := gSlice_elim g
  obtain ⟨a6, l6, c6, e6, g⟩ := gSlice_elim g
  obtain ⟨a7, l7, c7, e7, g⟩ := gSlice_elim g
  obtain ⟨x12, e12, g⟩ := gInt_elim g
  obtain ⟨a13, l13, c13, e13, g⟩ := gSlice_elim g
  obtain ⟨x60, e60, g⟩ := gInt_elim g
  exact den_cut 2 (r := (cAt C [true, true, true, true, true, true, true, true, true, false, true, false, false, true, true])) (by kernel_rfl) (W17.ok R N6) (den_enter [(0, .slice a0 l0 c0), (3, .slice a3 l3 c3), (4, .int .i64 x4), (5, .slice a5 l5 c5), (6, .slice a6 l6 c6), (7, .slice a7 l7 c7), (12, .int .i64 x12), (13, .slice a13 l13 c13), (60, .int .i64 x60)] ⟨e0, e3, e4, e5, e6, e7, e12, e13, e60, trivial⟩ (by kernel_rfl) g)
def L6.t (R : Rt) : Nat → Option Addr → Nat → Nat → Option Addr → Nat → Nat → Int → Option Addr → Nat → Nat → Option Addr → Nat → Nat → Option Addr → Nat → Nat → Int → Option Addr → Nat → Nat → Int → Hp → Prop
  | 0 => fun _ _ _ _ _ _ _ _ _ _ _ _ _ _ _ _ _ _ _ _ _ _ => False
  | n + 1 => fun a0 l0 c0 a3 l3 c3 x4 a5 l5 c5 a6 l6 c6 a7 l7 c7 x12 a13 l13 c13 x60 h => D7.t R (L6.t R n) a0 l0 c0 a3 l3 c3 x4 a5 l5 c5 a6 l6 c6 a7 l7 c7 x12 a13 l13 c13 x60 h
theorem L6.ok (R : Rt) (fr : Fr) (h : Hp) (g : L6.g (fun a0 l0 c0 a3 l3 c3 x4 a5 l5 c5 a6 l6 c6 a7 l7 c7 x12 a13 l13 c13 x60 h => ∃ n, L6.t R n a0 l0 c0 a3 l3 c3 x4 a5 l5 c5 a6 l6 c6 a7 l7 c7 x12 a13 l13 c13 x60 h) fr h) : den prog E (cAt C [true, true, true, true, true, true, true, true, true, false, true, false]) (Ex.inBlock 2 (Ex.then (D3.g R) (retQ E [.tmp 2] R))) fr h := by
  obtain ⟨a0, l0, c0, e0, g⟩ := gSlice_elim g
  obtain ⟨a3, l3, c3, e3, g⟩ := gSlice_elim g
  obtain ⟨x4, e4, g⟩ := gInt_elim g
  obtain ⟨a5, l5, c5, e5, g⟩ := gSlice_elim g
  obtain ⟨a6, l6, c6, e6, g⟩ := gSlice_elim g
  obtain ⟨a7, l7, c7, e7, g⟩ := gSlice_elim g
  obtain ⟨x12, e12, g⟩ := gInt_elim g
  obtain ⟨a13, l13, c13, e13, g⟩ := gSlice_elim g
  obtain ⟨x60, e60, g⟩ := gInt_elim g
  obtain ⟨n, g⟩ := g
  refine loop_ok (fun n => L6.g (L6.t R n)) (b := (cAt C [true, true, true, true, true, true, true, true, true, false, true, false, false])) (by kernel_rfl) (fun fr h g => ?_) (fun n => D7.ok R (L6.t R n)) n fr h (gSlice_intro e0 (gSlice_intro e3 (gInt_intro e4 (gSlice_intro e5 (gSlice_intro e6 (gSlice_intro e7 (gInt_intro e12 (gSlice_intro e13 (gInt_intro e60 (g))))))))))
  obtain ⟨a0, l0, c0, e0, g⟩ := gSlice_elim g
  obtain ⟨a3, l3, c3, e3, g⟩ := gSlice_elim g
  obtain ⟨x4, e4, g⟩ := gInt_elim g
  obtain ⟨a5, l5, c5, e5, g⟩ := gSlice_elim g
  obtain ⟨a6, l6, c6, e6, g⟩ := gSlice_elim g
  obtain ⟨a7, l7, c7, e7, g⟩ := gSlice_elim g
  obtain ⟨x12, e12, g⟩ := gInt_elim g
  obtain ⟨a13, l13, c13, e13, g⟩ := gSlice_elim g
  obtain ⟨x60, e60, g⟩ := gInt_elim g
  exact g
theorem B18.ok (R : Rt) (fr : Fr) (h : Hp) (g : L6.g (fun a0 l0 c0 a3 l3 c3 x4 a5 l5 c5 a6 l6 c6 a7 l7 c7 x12 a13 l13 c13 x60 h => ∃ n, L6.t R n a0 l0 c0 a3 l3 c3 x4 a5 l5 c5 a6 l6 c6 a7 l7 c7 x12 a13 l13 c13 x60 h) fr h) : den prog E (cAt C [true, true, true, true, true, true, true, true, true, false, true]) (Ex.then (D3.g R) (retQ E [.tmp 2] R)) fr h :=
  den_block (by kernel_rfl) (L6.ok R fr h g)
def D5.t (R : Rt) (a0 : Option Addr) (l0 : Nat) (c0 : Nat) (a3 : Option Addr) (l3 : Nat) (c3 : Nat) (x4 : Int) (a5 : Option Addr) (l5 : Nat) (c5 : Nat) (a6 : Option Addr) (l6 : Nat) (c6 : Nat) (a7 : Option Addr) (l7 : Nat) (c7 : Nat) (x12 : Int) (a13 : Option Addr) (l13 : Nat) (c13 : Nat) (h : Hp) : Prop :=
  (∃ n, L6.t R n a0 l0 c0 a3 l3 c3 x4 a5 l5 c5 a6 l6 c6 a7 l7 c7 x12 a13 l13 c13 0 h)
def D5.g (R : Rt) (fr : Fr) (h : Hp) : Prop := gSlice (fr 0) fun a0 l0 c0 => gSlice (fr 3) fun a3 l3 c3 => gInt .i64 (fr 4) fun x4 => gSlice (fr 5) fun a5 l5 c5 => gSlice (fr 6) fun a6 l6 c6 => gSlice (fr 7) fun a7 l7 c7 => gInt .i64 (fr 12) fun x12 => gSlice (fr 13) fun a13 l13 c13 => D5.t R a0 l0 c0 a3 l3 c3 x4 a5 l5 c5 a6 l6 c6 a7 l7 c7 x12 a13 l13 c13 h
theorem D5.ok (R : Rt) (fr : Fr) (h : Hp) (g : D5.g R fr h) : den prog E (cAt C [true, true, true, true, true, true, true, true, true, false]) (Ex.then (D3.g R) (retQ E [.tmp 2] R)) fr h := by
  obtain ⟨a0, l0, c0, e0, g⟩ := gSlice_elim g
  obtain ⟨a3, l3, c3, e3, g⟩ := gSlice_elim g
  obtain ⟨x4, e4, g⟩ := gInt_elim g
  obtain ⟨a5, l5, c5, e5, g⟩ := gSlice_elim g
  obtain ⟨a6, l6, c6, e6, g⟩ := gSlice_elim g
  obtain ⟨a7, l7, c7, e7, g⟩ := gSlice_elim g
  obtain ⟨x12, e12, g⟩ := gInt_elim g
  obtain ⟨a13, l13, c13, e13, g⟩ := gSlice_elim g
  exact den_cut 1 (r := (cAt C [true, true, true, true, true, true, true, true, true, false, true])) (by kernel_rfl) (B18.ok R) (den_enter [(0, .slice a0 l0 c0), (3, .slice a3 l3 c3), (4, .int .i64 x4), (5, .slice a5 l5 c5), (6, .slice a6 l6 c6), (7, .slice a7 l7 c7), (12, .int .i64 x12), (13, .slice a13 l13 c13)] ⟨e0, e3, e4, e5, e6, e7, e12, e13, trivial⟩ (by kernel_rfl) g)
theorem W19.ok (R : Rt) (fr : Fr) (h : Hp) (g : D5.g R fr h) : den prog E (cAt C [true, true, true, true, true, true, true, true, true]) (retQ E [.tmp 2] R) fr h :=
  den_then (by kernel_rfl) (D3.ok R) (D5.ok R fr h g)
def D2.t (R : Rt) (a0 : Option Addr) (l0 : Nat) (c0 : Nat) (a3 : Option Addr) (l3 : Nat) (c3 : Nat) (x4 : Int) (a5 : Option Addr) (l5 : Nat) (c5 : Nat) (a6 : Option Addr) (l6 : Nat) (c6 : Nat) (a7 : Option Addr) (l7 : Nat) (c7 : Nat) (h : Hp) : Prop :=
  boxK h 24 [.slice a5 l5 c5, .slice a5 l5 c5] fun q19 h20 =>
  apK h20 24 T24 a6 l6 c6 (.slice (some q19) 2 2) fun a_21 l_21 c_21 h21 =>
  D5.t R a0 l0 c0 a3 l3 c3 x4 a5 l5 c5 a6 l6 c6 a7 l7 c7 (((l6 : Nat) : Int)) a_21 l_21 c_21 h21
def D2.g (R : Rt) (fr : Fr) (h : Hp) : Prop := gSlice (fr 0) fun a0 l0 c0 => gSlice (fr 3) fun a3 l3 c3 => gInt .i64 (fr 4) fun x4 => gSlice (fr 5) fun a5 l5 c5 => gSlice (fr 6) fun a6 l6 c6 => gSlice (fr 7) fun a7 l7 c7 => D2.t R a0 l0 c0 a3 l3 c3 x4 a5 l5 c5 a6 l6 c6 a7 l7 c7 h
theorem D2.ok (R : Rt) (fr : Fr) (h : Hp) (g : D2.g R fr h) : den prog E (cAt C [true, true, true, true, true, true, true]) (retQ E [.tmp 2] R) fr h := by
  obtain ⟨a0, l0, c0, e0, g⟩ := gSlice_elim g
  obtain ⟨a3, l3, c3, e3, g⟩ := gSlice_elim g
  obtain ⟨x4, e4, g⟩ := gInt_elim g
  obtain ⟨a5, l5, c5, e5, g⟩ := gSlice_elim g
  obtain ⟨a6, l6, c6, e6, g⟩ := gSlice_elim g
  obtain ⟨a7, l7, c7, e7, g⟩ := gSlice_elim g
  exact den_cut 2 (r := (cAt C [true, true, true, true, true, true, true, true, true])) (by kernel_rfl) (W19.ok R) (den_enter [(0, .slice a0 l0 c0), (3, .slice a3 l3 c3), (4, .int .i64 x4), (5, .slice a5 l5 c5), (6, .slice a6 l6 c6), (7, .slice a7 l7 c7)] ⟨e0, e3, e4, e5, e6, e7, trivial⟩ (by kernel_rfl) g)
def L21.g (N : Option Addr → Nat → Nat → Option Addr → Nat → Nat → Int → Option Addr → Nat → Nat → Option Addr → Nat → Nat → Option Addr → Nat → Nat → Option Addr → Nat → Nat → Int → Int → Hp → Prop) (fr : Fr) (h : Hp) : Prop := gSlice (fr 0) fun a0 l0 c0 => gSlice (fr 3) fun a3 l3 c3 => gInt .i64 (fr 4) fun x4 => gSlice (fr 5) fun a5 l5 c5 => gSlice (fr 6) fun a6 l6 c6 => gSlice (fr 7) fun a7 l7 c7 => gSlice (fr 33) fun a33 l33 c33 => gInt .i64 (fr 34) fun x34 => gInt .i64 (fr 35) fun x35 => N a0 l0 c0 a3 l3 c3 x4 a5 l5 c5 a6 l6 c6 a7 l7 c7 a33 l33 c33 x34 x35 h
def D22.t (R : Rt) (N21 : Option Addr → Nat → Nat → Option Addr → Nat → Nat → Int → Option Addr → Nat → Nat → Option Addr → Nat → Nat → Option Addr → Nat → Nat → Option Addr → Nat → Nat → Int → Int → Hp → Prop) (a0 : Option Addr) (l0 : Nat) (c0 : Nat) (a3 : Option Addr) (l3 : Nat) (c3 : Nat) (x4 : Int) (a5 : Option Addr) (l5 : Nat) (c5 : Nat) (a6 : Option Addr) (l6 : Nat) (c6 : Nat) (a7 : Option Addr) (l7 : Nat) (c7 : Nat) (a33 : Option Addr) (l33 : Nat) (c33 : Nat) (x34 : Int) (x35 : Int) (h : Hp) : Prop :=
  cond (decide (x35 < x34)) (idxK a33 l33 x35 1 fun q92 =>
  ldK h q92 fun v93 =>
  gSlice v93 fun a_94 l_94 c_94 =>
  HC gnomonref01_Spare.id #[.slice a_94 l_94 c_94] h fun v95 h96 =>
  gTup v95 fun y97 =>
  uncons y97 fun v98 y98 =>
  gSlice v98 fun a_99 l_99 c_99 =>
  uncons y98 fun v100 y100 =>
  gSlice v100 fun a_101 l_101 c_101 =>
  unnil y100 <| boxK h96 24 [.slice a_99 l_99 c_99] fun q102 h103 =>
  apK h103 24 T24 a6 l6 c6 (.slice (some q102) 1 1) fun a_104 l_104 c_104 h104 =>
  boxK h104 24 [.slice a_101 l_101 c_101] fun q105 h106 =>
  apK h106 24 T24 a7 l7 c7 (.slice (some q105) 1 1) fun a_107 l_107 c_107 h107 =>
  letK (IntKind.i64.wrap (x35 + 1)) fun n108 =>
  N21 a0 l0 c0 a3 l3 c3 x4 a5 l5 c5 a_104 l_104 c_104 a_107 l_107 c_107 a33 l33 c33 x34 n108 h107) (D2.t R a0 l0 c0 a3 l3 c3 x4 a5 l5 c5 a6 l6 c6 a7 l7 c7 h)
def D22.g (R : Rt) (N21 : Option Addr → Nat → Nat → Option Addr → Nat → Nat → Int → Option Addr → Nat → Nat → Option Addr → Nat → Nat → Option Addr → Nat → Nat → Option Addr → Nat → Nat → Int → Int → Hp → Prop) (fr : Fr) (h : Hp) : Prop := gSlice (fr 0) fun a0 l0 c0 => gSlice (fr 3) fun a3 l3 c3 => gInt .i64 (fr 4) fun x4 => gSlice (fr 5) fun a5 l5 c5 => gSlice (fr 6) fun a6 l6 c6 => gSlice (fr 7) fun a7 l7 c7 => gSlice (fr 33) fun a33 l33 c33 => gInt .i64 (fr 34) fun x34 => gInt .i64 (fr 35) fun x35 => D22.t R N21 a0 l0 c0 a3 l3 c3 x4 a5 l5 c5 a6 l6 c6 a7 l7 c7 a33 l33 c33 x34 x35 h
theorem D22.ok (R : Rt) (N21 : Option Addr → Nat → Nat → Option Addr → Nat → Nat → Int → Option Addr → Nat → Nat → Option Addr → Nat → Nat → Option Addr → Nat → Nat → Option Addr → Nat → Nat → Int → Int → Hp → Prop) (fr : Fr) (h : Hp) (g : D22.g R N21 fr h) : den prog E (cAt C [true, true, true, true, true, true, false, true, false, false]) (Ex.then (L21.g N21) (Ex.inBlock 0 (Ex.then (D2.g R) (retQ E [.tmp 2] R)))) fr h := by
  obtain ⟨a0, l0, c0, e0, g⟩ := gSlice_elim g
  obtain ⟨a3, l3, c3, e3, g⟩ := gSlice_elim g
  obtain ⟨x4, e4, g⟩ := gInt_elim g
  obtain ⟨a5, l5, c5, e5, g⟩ := gSlice_elim g
  obtain ⟨a6, l6, c6, e6, g⟩ := gSlice_elim g
  obtain ⟨a7, l7, c7, e7, g⟩ := gSlice_elim g
  obtain ⟨a33, l33, c33, e33, g⟩ := gSlice_elim g
  obtain ⟨x34, e34, g⟩ := gInt_elim g
  obtain ⟨x35, e35, g⟩ := gInt_elim g
  exact den_enter [(0, .slice a0 l0 c0), (3, .slice a3 l3 c3), (4, .int .i64 x4), (5, .slice a5 l5 c5), (6, .slice a6 l6 c6), (7, .slice a7 l7 c7), (33, .slice a33 l33 c33), (34, .int .i64 x34), (35, .int .i64 x35)] ⟨e0, e3, e4, e5, e6, e7, e33, e34, e35, trivial⟩ (by kernel_rfl) g
def L21.t (R : Rt) : Nat → Option Addr → Nat → Nat → Option Addr → Nat → Nat → Int → Option Addr → Nat → Nat → Option Addr → Nat → Nat → Option Addr → Nat → Nat → Option Addr → Nat → Nat → Int → Int → Hp → Prop
  | 0 => fun _ _ _ _ _ _ _ _ _ _ _ _ _ _ _ _ _ _ _ _ _ _ => False
  | n + 1 => fun a0 l0 c0 a3 l3 c3 x4 a5 l5 c5 a6 l6 c6 a7 l7 c7 a33 l33 c33 x34 x35 h => D22.t R (L21.t R n) a0 l0 c0 a3 l3 c3 x4 a5 l5 c5 a6 l6 c6 a7 l7 c7 a33 l33 c33 x34 x35 h
theorem L21.ok (R : Rt) (fr : Fr) (h : Hp) (g : L21.g (fun a0 l0 c0 a3 l3 c3 x4 a5 l5 c5 a6 l6 c6 a7 l7 c7 a33 l33 c33 x34 x35 h => ∃ n, L21.t R n a0 l0 c0 a3 l3 c3 x4 a5 l5 c5 a6 l6 c6 a7 l7 c7 a33 l33 c33 x34 x35 h) fr h) : den prog E (cAt C [true, true, true, true, true, true, false, true, false]) (Ex.inBlock 0 (Ex.then (D2.g R) (retQ E [.tmp 2] R))) fr h := by
  obtain ⟨a0, l0, c0, e0, g⟩ := gSlice_elim g
  obtain ⟨a3, l3, c3, e3, g⟩ := gSlice_elim g
  obtain ⟨x4, e4, g⟩ := gInt_elim g
  obtain ⟨a5, l5, c5, e5, g⟩ := gSlice_elim g
  obtain ⟨a6, l6, c6, e6, g⟩ := gSlice_elim g
  obtain ⟨a7, l7, c7, e7, g⟩ := gSlice_elim g
  obtain ⟨a33, l33, c33, e33, g⟩ := gSlice_elim g
  obtain ⟨x34, e34, g⟩ := gInt_elim g
  obtain ⟨x35, e35, g⟩ := gInt_elim g
  obtain ⟨n, g⟩ := g
  refine loop_ok (fun n => L21.g (L21.t R n)) (b := (cAt C [true, true, true, true, true, true, false, true, false, false])) (by kernel_rfl) (fun fr h g => ?_) (fun n => D22.ok R (L21.t R n)) n fr h (gSlice_intro e0 (gSlice_intro e3 (gInt_intro e4 (gSlice_intro e5 (gSlice_intro e6 (gSlice_intro e7 (gSlice_intro e33 (gInt_intro e34 (gInt_intro e35 (g))))))))))
  obtain ⟨a0, l0, c0, e0, g⟩ := gSlice_elim g
  obtain ⟨a3, l3, c3, e3, g⟩ := gSlice_elim g
  obtain ⟨x4, e4, g⟩ := gInt_elim g
  obtain ⟨a5, l5, c5, e5, g⟩ := gSlice_elim g
  obtain ⟨a6, l6, c6, e6, g⟩ := gSlice_elim g
  obtain ⟨a7, l7, c7, e7, g⟩ := gSlice_elim g
  obtain ⟨a33, l33, c33, e33, g⟩ := gSlice_elim g
  obtain ⟨x34, e34, g⟩ := gInt_elim g
  obtain ⟨x35, e35, g⟩ := gInt_elim g
  exact g
theorem B23.ok (R : Rt) (fr : Fr) (h : Hp) (g : L21.g (fun a0 l0 c0 a3 l3 c3 x4 a5 l5 c5 a6 l6 c6 a7 l7 c7 a33 l33 c33 x34 x35 h => ∃ n, L21.t R n a0 l0 c0 a3 l3 c3 x4 a5 l5 c5 a6 l6 c6 a7 l7 c7 a33 l33 c33 x34 x35 h) fr h) : den prog E (cAt C [true, true, true, true, true, true, false, true]) (Ex.then (D2.g R) (retQ E [.tmp 2] R)) fr h :=
  den_block (by kernel_rfl) (L21.ok R fr h g)
def D20.t (R : Rt) (a0 : Option Addr) (l0 : Nat) (c0 : Nat) (a3 : Option Addr) (l3 : Nat) (c3 : Nat) (x4 : Int) (a5 : Option Addr) (l5 : Nat) (c5 : Nat) (a6 : Option Addr) (l6 : Nat) (c6 : Nat) (a7 : Option Addr) (l7 : Nat) (c7 : Nat) (h : Hp) : Prop :=
  (∃ n, L21.t R n a0 l0 c0 a3 l3 c3 x4 a5 l5 c5 a6 l6 c6 a7 l7 c7 a0 l0 c0 (((l0 : Nat) : Int)) 0 h)
def D20.g (R : Rt) (fr : Fr) (h : Hp) : Prop := gSlice (fr 0) fun a0 l0 c0 => gSlice (fr 3) fun a3 l3 c3 => gInt .i64 (fr 4) fun x4 => gSlice (fr 5) fun a5 l5 c5 => gSlice (fr 6) fun a6 l6 c6 => gSlice (fr 7) fun a7 l7 c7 => D20.t R a0 l0 c0 a3 l3 c3 x4 a5 l5 c5 a6 l6 c6 a7 l7 c7 h
theorem D20.ok (R : Rt) (fr : Fr) (h : Hp) (g : D20.g R fr h) : den prog E (cAt C [true, true, true, true, true, true, false]) (Ex.then (D2.g R) (retQ E [.tmp 2] R)) fr h := by
  obtain ⟨a0, l0, c0, e0, g⟩ := gSlice_elim g
  obtain ⟨a3, l3, c3, e3, g⟩ := gSlice_elim g
  obtain ⟨x4, e4, g⟩ := gInt_elim g
  obtain ⟨a5, l5, c5, e5, g⟩ := gSlice_elim g
  obtain ⟨a6, l6, c6, e6, g⟩ := gSlice_elim g
  obtain ⟨a7, l7, c7, e7, g⟩ := gSlice_elim g
  exact den_cut 1 (r := (cAt C [true, true, true, true, true, true, false, true])) (by kernel_rfl) (B23.ok R) (den_enter [(0, .slice a0 l0 c0), (3, .slice a3 l3 c3), (4, .int .i64 x4), (5, .slice a5 l5 c5), (6, .slice a6 l6 c6), (7, .slice a7 l7 c7)] ⟨e0, e3, e4, e5, e6, e7, trivial⟩ (by kernel_rfl) g)
theorem W24.ok (R : Rt) (fr : Fr) (h : Hp) (g : D20.g R fr h) : den prog E (cAt C [true, true, true, true, true, true]) (retQ E [.tmp 2] R) fr h :=
  den_then (by kernel_rfl) (D2.ok R) (D20.ok R fr h g)
def D1.t (R : Rt) (a0 : Option Addr) (l0 : Nat) (c0 : Nat) (h : Hp) : Prop :=
  HC gnomonlaw02_awake.id #[] h fun v1 h2 =>
  gBool v1 fun b_3 =>
  cond (!b_3) (R (.bool false) h2) (HC gnomonlaw02_lists.id #[.slice a0 l0 c0] h2 fun v4 h5 =>
  gSlice v4 fun a_6 l_6 c_6 =>
  HC gnomonref02_DocProduct.id #[.slice a_6 l_6 c_6] h5 fun v7 h8 =>
  gTup v7 fun y9 =>
  uncons y9 fun v10 y10 =>
  gSlice v10 fun a_11 l_11 c_11 =>
  uncons y10 fun v12 y12 =>
  gInt .i64 v12 fun x_13 =>
  unnil y12 <| boxK h8 28 [.int .u64 41, .int .u64 42] fun q14 h15 =>
  letK (IntKind.i64.wrap ((((l0 : Nat) : Int)) + 2)) fun n16 =>
  mkK h15 24 T24 0 n16 fun q17 h18 =>
  D20.t R a0 l0 c0 a_11 l_11 c_11 x_13 (some q14) 2 2 (some q17) ((0 : Int).toNat) n16.toNat none 0 0 h18)
def D1.g (R : Rt) (fr : Fr) (h : Hp) : Prop := gSlice (fr 0) fun a0 l0 c0 => D1.t R a0 l0 c0 h
theorem D1.ok (R : Rt) (fr : Fr) (h : Hp) (g : D1.g R fr h) : den prog E C (retQ E [.tmp 2] R) fr h := by
  obtain ⟨a0, l0, c0, e0, g⟩ := gSlice_elim g
  exact den_cut 6 (r := (cAt C [true, true, true, true, true, true])) (by kernel_rfl) (W24.ok R) (den_enter [(0, .slice a0 l0 c0)] ⟨e0, trivial⟩ (by kernel_rfl) g)
def t (a0 : Option Addr) (l0 : Nat) (c0 : Nat) (h : Hp) (R : Rt) : Prop := D1.t R a0 l0 c0 h
theorem ok {a0 : Option Addr} {l0 : Nat} {c0 : Nat} {h : Hp} {R : Rt} (g : t a0 l0 c0 h R) : HC id #[.slice a0 l0 c0] h R :=
  calls_of_den' envOk (c := C) (rs := [.tmp 2]) Try.func3 (by kernel_rfl) (by kernel_rfl) (by kernel_rfl) (args := [.slice a0 l0 c0]) (by kernel_rfl) (D1.ok R _ h (gSlice_intro rfl (g)))
end gnomonlaw02_NatmulLists

namespace gnomonlaw02_NatmulRing
noncomputable def C : Code := bodyOf Try.f4
def D4.t (R : Rt) (a7 : Option Addr) (l7 : Nat) (c7 : Nat) (a9 : Option Addr) (l9 : Nat) (c9 : Nat) (a11 : Option Addr) (l11 : Nat) (c11 : Nat) (h : Hp) : Prop :=
  HC gnomonlaw02_groups.id #[.slice a7 l7 c7, .slice a9 l9 c9, .slice a11 l11 c11] h fun v59 h60 =>
  gBool v59 fun b_61 =>
  cond b_61 (HC gnomonlaw02_spreads.id #[.slice a7 l7 c7, .slice a9 l9 c9, .slice a11 l11 c11] h60 fun v62 h63 =>
  gBool v62 fun b_64 =>
  R (.bool b_64) h63) (R (.bool false) h60)
def D4.g (R : Rt) (fr : Fr) (h : Hp) : Prop := gSlice (fr 7) fun a7 l7 c7 => gSlice (fr 9) fun a9 l9 c9 => gSlice (fr 11) fun a11 l11 c11 => D4.t R a7 l7 c7 a9 l9 c9 a11 l11 c11 h
theorem D4.ok (R : Rt) (fr : Fr) (h : Hp) (g : D4.g R fr h) : den prog E (cAt C [true, true, true, true, true, true, true, true, true, true, true, true]) (retQ E [.tmp 6] R) fr h := by
  obtain ⟨a7, l7, c7, e7, g⟩ := gSlice_elim g
  obtain ⟨a9, l9, c9, e9, g⟩ := gSlice_elim g
  obtain ⟨a11, l11, c11, e11, g⟩ := gSlice_elim g
  exact den_enter [(7, .slice a7 l7 c7), (9, .slice a9 l9 c9), (11, .slice a11 l11 c11)] ⟨e7, e9, e11, trivial⟩ (by kernel_rfl) g
def D3.t (R : Rt) (a7 : Option Addr) (l7 : Nat) (c7 : Nat) (a9 : Option Addr) (l9 : Nat) (c9 : Nat) (a11 : Option Addr) (l11 : Nat) (c11 : Nat) (h : Hp) : Prop :=
  HC natmul_Mul.id #[.slice a7 l7 c7, .slice a9 l9 c9] h fun v43 h44 =>
  gTup v43 fun y45 =>
  uncons y45 fun v46 y46 =>
  gSlice v46 fun a_47 l_47 c_47 =>
  uncons y46 fun v48 y48 =>
  gInt .i64 v48 fun x_49 =>
  unnil y48 <| HC natmul_Mul.id #[.slice a9 l9 c9, .slice a7 l7 c7] h44 fun v50 h51 =>
  gTup v50 fun y52 =>
  uncons y52 fun v53 y53 =>
  gSlice v53 fun a_54 l_54 c_54 =>
  uncons y53 fun v55 y55 =>
  gInt .i64 v55 fun x_56 =>
  unnil y55 <| cond (x_49 != x_56) (R (.bool false) h51) (HQC gnomonref01_Same.id #[.slice a_47 l_47 c_47, .slice a_54 l_54 c_54] h51 fun v57 =>
  gBool v57 fun b_58 =>
  cond (!b_58) (R (.bool false) h51) (D4.t R a7 l7 c7 a9 l9 c9 a11 l11 c11 h51))
def D3.g (R : Rt) (fr : Fr) (h : Hp) : Prop := gSlice (fr 7) fun a7 l7 c7 => gSlice (fr 9) fun a9 l9 c9 => gSlice (fr 11) fun a11 l11 c11 => D3.t R a7 l7 c7 a9 l9 c9 a11 l11 c11 h
theorem D3.ok (R : Rt) (fr : Fr) (h : Hp) (g : D3.g R fr h) : den prog E (cAt C [true, true, true, true, true, true, true, true, true]) (retQ E [.tmp 6] R) fr h := by
  obtain ⟨a7, l7, c7, e7, g⟩ := gSlice_elim g
  obtain ⟨a9, l9, c9, e9, g⟩ := gSlice_elim g
  obtain ⟨a11, l11, c11, e11, g⟩ := gSlice_elim g
  exact den_cut 3 (r := (cAt C [true, true, true, true, true, true, true, true, true, true, true, true])) (by kernel_rfl) (D4.ok R) (den_enter [(7, .slice a7 l7 c7), (9, .slice a9 l9 c9), (11, .slice a11 l11 c11)] ⟨e7, e9, e11, trivial⟩ (by kernel_rfl) g)
def D2.t (R : Rt) (a7 : Option Addr) (l7 : Nat) (c7 : Nat) (a9 : Option Addr) (l9 : Nat) (c9 : Nat) (a11 : Option Addr) (l11 : Nat) (c11 : Nat) (h : Hp) : Prop :=
  boxK h 28 [.int .u64 1] fun q25 h26 =>
  HC natmul_Mul.id #[.slice a7 l7 c7, .slice (some q25) 1 1] h26 fun v27 h28 =>
  gTup v27 fun y29 =>
  uncons y29 fun v30 y30 =>
  gSlice v30 fun a_31 l_31 c_31 =>
  uncons y30 fun v32 y32 =>
  gInt .i64 v32 fun x_33 =>
  unnil y32 <| HC natmul_Mul.id #[.slice none 0 0, .slice a7 l7 c7] h28 fun v34 h35 =>
  gTup v34 fun y36 =>
  uncons y36 fun v37 y37 =>
  gSlice v37 fun a_38 l_38 c_38 =>
  uncons y37 fun v39 y39 =>
  gInt .i64 v39 fun x_40 =>
  unnil y39 <| cond (x_33 != 0) (R (.bool false) h35) (cond (x_40 != 0) (R (.bool false) h35) (HQC gnomonref01_Same.id #[.slice a_31 l_31 c_31, .slice a7 l7 c7] h35 fun v41 =>
  gBool v41 fun b_42 =>
  cond (!b_42) (R (.bool false) h35) (cond ((((l_38 : Nat) : Int)) != 0) (R (.bool false) h35) (D3.t R a7 l7 c7 a9 l9 c9 a11 l11 c11 h35))))
def D2.g (R : Rt) (fr : Fr) (h : Hp) : Prop := gSlice (fr 7) fun a7 l7 c7 => gSlice (fr 9) fun a9 l9 c9 => gSlice (fr 11) fun a11 l11 c11 => D2.t R a7 l7 c7 a9 l9 c9 a11 l11 c11 h
theorem D2.ok (R : Rt) (fr : Fr) (h : Hp) (g : D2.g R fr h) : den prog E (cAt C [true, true, true, true, true, true]) (retQ E [.tmp 6] R) fr h := by
  obtain ⟨a7, l7, c7, e7, g⟩ := gSlice_elim g
  obtain ⟨a9, l9, c9, e9, g⟩ := gSlice_elim g
  obtain ⟨a11, l11, c11, e11, g⟩ := gSlice_elim g
  exact den_cut 3 (r := (cAt C [true, true, true, true, true, true, true, true, true])) (by kernel_rfl) (D3.ok R) (den_enter [(7, .slice a7 l7 c7), (9, .slice a9 l9 c9), (11, .slice a11 l11 c11)] ⟨e7, e9, e11, trivial⟩ (by kernel_rfl) g)
def D1.t (R : Rt) (a0 : Option Addr) (l0 : Nat) (c0 : Nat) (a1 : Option Addr) (l1 : Nat) (c1 : Nat) (a2 : Option Addr) (l2 : Nat) (c2 : Nat) (h : Hp) : Prop :=
  HC gnomonlaw02_norm.id #[.slice a0 l0 c0] h fun v1 h2 =>
  gTup v1 fun y3 =>
  uncons y3 fun v4 y4 =>
  gSlice v4 fun a_5 l_5 c_5 =>
  uncons y4 fun v6 y6 =>
  gBool v6 fun b_7 =>
  unnil y6 <| HC gnomonlaw02_norm.id #[.slice a1 l1 c1] h2 fun v8 h9 =>
  gTup v8 fun y10 =>
  uncons y10 fun v11 y11 =>
  gSlice v11 fun a_12 l_12 c_12 =>
  uncons y11 fun v13 y13 =>
  gBool v13 fun b_14 =>
  unnil y13 <| HC gnomonlaw02_norm.id #[.slice a2 l2 c2] h9 fun v15 h16 =>
  gTup v15 fun y17 =>
  uncons y17 fun v18 y18 =>
  gSlice v18 fun a_19 l_19 c_19 =>
  uncons y18 fun v20 y20 =>
  gBool v20 fun b_21 =>
  unnil y20 <| HC gnomonlaw02_awake.id #[] h16 fun v22 h23 =>
  gBool v22 fun b_24 =>
  cond (!b_24) (R (.bool false) h23) (cond (!b_7) (R (.bool true) h23) (cond (!b_14) (R (.bool true) h23) (cond (!b_21) (R (.bool true) h23) (D2.t R a_5 l_5 c_5 a_12 l_12 c_12 a_19 l_19 c_19 h23))))
def D1.g (R : Rt) (fr : Fr) (h : Hp) : Prop := gSlice (fr 0) fun a0 l0 c0 => gSlice (fr 1) fun a1 l1 c1 => gSlice (fr 2) fun a2 l2 c2 => D1.t R a0 l0 c0 a1 l1 c1 a2 l2 c2 h
theorem D1.ok (R : Rt) (fr : Fr) (h : Hp) (g : D1.g R fr h) : den prog E C (retQ E [.tmp 6] R) fr h := by
  obtain ⟨a0, l0, c0, e0, g⟩ := gSlice_elim g
  obtain ⟨a1, l1, c1, e1, g⟩ := gSlice_elim g
  obtain ⟨a2, l2, c2, e2, g⟩ := gSlice_elim g
  exact den_cut 6 (r := (cAt C [true, true, true, true, true, true])) (by kernel_rfl) (D2.ok R) (den_enter [(0, .slice a0 l0 c0), (1, .slice a1 l1 c1), (2, .slice a2 l2 c2)] ⟨e0, e1, e2, trivial⟩ (by kernel_rfl) g)
def t (a0 : Option Addr) (l0 : Nat) (c0 : Nat) (a1 : Option Addr) (l1 : Nat) (c1 : Nat) (a2 : Option Addr) (l2 : Nat) (c2 : Nat) (h : Hp) (R : Rt) : Prop := D1.t R a0 l0 c0 a1 l1 c1 a2 l2 c2 h
theorem ok {a0 : Option Addr} {l0 : Nat} {c0 : Nat} {a1 : Option Addr} {l1 : Nat} {c1 : Nat} {a2 : Option Addr} {l2 : Nat} {c2 : Nat} {h : Hp} {R : Rt} (g : t a0 l0 c0 a1 l1 c1 a2 l2 c2 h R) : HC id #[.slice a0 l0 c0, .slice a1 l1 c1, .slice a2 l2 c2] h R :=
  calls_of_den' envOk (c := C) (rs := [.tmp 6]) Try.func4 (by kernel_rfl) (by kernel_rfl) (by kernel_rfl) (args := [.slice a0 l0 c0, .slice a1 l1 c1, .slice a2 l2 c2]) (by kernel_rfl) (D1.ok R _ h (gSlice_intro rfl (gSlice_intro rfl (gSlice_intro rfl (g)))))
end gnomonlaw02_NatmulRing

namespace gnomonlaw02_NatmulCasts
noncomputable def C : Code := bodyOf Try.f5
def D3.t (R : Rt) (a0 : Option Addr) (l0 : Nat) (c0 : Nat) (a3 : Option Addr) (l3 : Nat) (c3 : Nat) (x6 : Int) (x7 : Int) (h : Hp) : Prop :=
  HC nat_Bits.id #[.slice a3 l3 c3] h fun v16 h17 =>
  gInt .i64 v16 fun x_18 =>
  cond (decide (x_18 ≥ x7)) (HC nat_Bits.id #[.slice a3 l3 c3] h17 fun v19 h20 =>
  gInt .i64 v19 fun x_21 =>
  cond (decide (x_21 ≤ (if 1 > x6 then 1 else x6))) (HC gnomonlaw02_pairs.id #[.slice a0 l0 c0] h20 fun v22 h23 =>
  gBool v22 fun b_24 =>
  R (.bool b_24) h23) (R (.bool false) h20)) (R (.bool false) h17)
def D3.g (R : Rt) (fr : Fr) (h : Hp) : Prop := gSlice (fr 0) fun a0 l0 c0 => gSlice (fr 3) fun a3 l3 c3 => gInt .i64 (fr 6) fun x6 => gInt .i64 (fr 7) fun x7 => D3.t R a0 l0 c0 a3 l3 c3 x6 x7 h
theorem D3.ok (R : Rt) (fr : Fr) (h : Hp) (g : D3.g R fr h) : den prog E (cAt C [true, true, true, true, true, true, true, true]) (retQ E [.tmp 2] R) fr h := by
  obtain ⟨a0, l0, c0, e0, g⟩ := gSlice_elim g
  obtain ⟨a3, l3, c3, e3, g⟩ := gSlice_elim g
  obtain ⟨x6, e6, g⟩ := gInt_elim g
  obtain ⟨x7, e7, g⟩ := gInt_elim g
  exact den_enter [(0, .slice a0 l0 c0), (3, .slice a3 l3 c3), (6, .int .i64 x6), (7, .int .i64 x7)] ⟨e0, e3, e6, e7, trivial⟩ (by kernel_rfl) g
def L5.g (N : Option Addr → Nat → Nat → Option Addr → Nat → Nat → Int → Int → Option Addr → Nat → Nat → Int → Int → Hp → Prop) (fr : Fr) (h : Hp) : Prop := gSlice (fr 0) fun a0 l0 c0 => gSlice (fr 3) fun a3 l3 c3 => gInt .i64 (fr 6) fun x6 => gInt .i64 (fr 7) fun x7 => gSlice (fr 50) fun a50 l50 c50 => gInt .i64 (fr 51) fun x51 => gInt .i64 (fr 52) fun x52 => N a0 l0 c0 a3 l3 c3 x6 x7 a50 l50 c50 x51 x52 h
def D6.t (R : Rt) (N5 : Option Addr → Nat → Nat → Option Addr → Nat → Nat → Int → Int → Option Addr → Nat → Nat → Int → Int → Hp → Prop) (a0 : Option Addr) (l0 : Nat) (c0 : Nat) (a3 : Option Addr) (l3 : Nat) (c3 : Nat) (x6 : Int) (x7 : Int) (a50 : Option Addr) (l50 : Nat) (c50 : Nat) (x51 : Int) (x52 : Int) (h : Hp) : Prop :=
  cond (decide (x52 < x51)) (idxK a50 l50 x52 1 fun q25 =>
  ldK h q25 fun v26 =>
  gSlice v26 fun a_27 l_27 c_27 =>
  cond ((((l_27 : Nat) : Int)) == 0) (R (.bool ((((l3 : Nat) : Int)) == 0)) h) (letK (IntKind.i64.wrap (x52 + 1)) fun n28 =>
  N5 a0 l0 c0 a3 l3 c3 x6 x7 a50 l50 c50 x51 n28 h)) (D3.t R a0 l0 c0 a3 l3 c3 x6 x7 h)
def D6.g (R : Rt) (N5 : Option Addr → Nat → Nat → Option Addr → Nat → Nat → Int → Int → Option Addr → Nat → Nat → Int → Int → Hp → Prop) (fr : Fr) (h : Hp) : Prop := gSlice (fr 0) fun a0 l0 c0 => gSlice (fr 3) fun a3 l3 c3 => gInt .i64 (fr 6) fun x6 => gInt .i64 (fr 7) fun x7 => gSlice (fr 50) fun a50 l50 c50 => gInt .i64 (fr 51) fun x51 => gInt .i64 (fr 52) fun x52 => D6.t R N5 a0 l0 c0 a3 l3 c3 x6 x7 a50 l50 c50 x51 x52 h
theorem D6.ok (R : Rt) (N5 : Option Addr → Nat → Nat → Option Addr → Nat → Nat → Int → Int → Option Addr → Nat → Nat → Int → Int → Hp → Prop) (fr : Fr) (h : Hp) (g : D6.g R N5 fr h) : den prog E (cAt C [true, true, true, true, true, true, true, false, true, false, false]) (Ex.then (L5.g N5) (Ex.inBlock 2 (Ex.then (D3.g R) (retQ E [.tmp 2] R)))) fr h := by
  obtain ⟨a0, l0, c0, e0, g⟩ := gSlice_elim g
  obtain ⟨a3, l3, c3, e3, g⟩ := gSlice_elim g
  obtain ⟨x6, e6, g⟩ := gInt_elim g
  obtain ⟨x7, e7, g⟩ := gInt_elim g
  obtain ⟨a50, l50, c50, e50, g⟩ := gSlice_elim g
  obtain ⟨x51, e51, g⟩ := gInt_elim g
  obtain ⟨x52, e52, g⟩ := gInt_elim g
  exact den_enter [(0, .slice a0 l0 c0), (3, .slice a3 l3 c3), (6, .int .i64 x6), (7, .int .i64 x7), (50, .slice a50 l50 c50), (51, .int .i64 x51), (52, .int .i64 x52)] ⟨e0, e3, e6, e7, e50, e51, e52, trivial⟩ (by kernel_rfl) g
def L5.t (R : Rt) : Nat → Option Addr → Nat → Nat → Option Addr → Nat → Nat → Int → Int → Option Addr → Nat → Nat → Int → Int → Hp → Prop
  | 0 => fun _ _ _ _ _ _ _ _ _ _ _ _ _ _ => False
  | n + 1 => fun a0 l0 c0 a3 l3 c3 x6 x7 a50 l50 c50 x51 x52 h => D6.t R (L5.t R n) a0 l0 c0 a3 l3 c3 x6 x7 a50 l50 c50 x51 x52 h
theorem L5.ok (R : Rt) (fr : Fr) (h : Hp) (g : L5.g (fun a0 l0 c0 a3 l3 c3 x6 x7 a50 l50 c50 x51 x52 h => ∃ n, L5.t R n a0 l0 c0 a3 l3 c3 x6 x7 a50 l50 c50 x51 x52 h) fr h) : den prog E (cAt C [true, true, true, true, true, true, true, false, true, false]) (Ex.inBlock 2 (Ex.then (D3.g R) (retQ E [.tmp 2] R))) fr h := by
  obtain ⟨a0, l0, c0, e0, g⟩ := gSlice_elim g
  obtain ⟨a3, l3, c3, e3, g⟩ := gSlice_elim g
  obtain ⟨x6, e6, g⟩ := gInt_elim g
  obtain ⟨x7, e7, g⟩ := gInt_elim g
  obtain ⟨a50, l50, c50, e50, g⟩ := gSlice_elim g
  obtain ⟨x51, e51, g⟩ := gInt_elim g
  obtain ⟨x52, e52, g⟩ := gInt_elim g
  obtain ⟨n, g⟩ := g
  refine loop_ok (fun n => L5.g (L5.t R n)) (b := (cAt C [true, true, true, true, true, true, true, false, true, false, false])) (by kernel_rfl) (fun fr h g => ?_) (fun n => D6.ok R (L5.t R n)) n fr h (gSlice_intro e0 (gSlice_intro e3 (gInt_intro e6 (gInt_intro e7 (gSlice_intro e50 (gInt_intro e51 (gInt_intro e52 (g))))))))
  obtain ⟨a0, l0, c0, e0, g⟩ := gSlice_elim g
  obtain ⟨a3, l3, c3, e3, g⟩ := gSlice_elim g
  obtain ⟨x6, e6, g⟩ := gInt_elim g
  obtain ⟨x7, e7, g⟩ := gInt_elim g
  obtain ⟨a50, l50, c50, e50, g⟩ := gSlice_elim g
  obtain ⟨x51, e51, g⟩ := gInt_elim g
  obtain ⟨x52, e52, g⟩ := gInt_elim g
  exact g
theorem B7.ok (R : Rt) (fr : Fr) (h : Hp) (g : L5.g (fun a0 l0 c0 a3 l3 c3 x6 x7 a50 l50 c50 x51 x52 h => ∃ n, L5.t R n a0 l0 c0 a3 l3 c3 x6 x7 a50 l50 c50 x51 x52 h) fr h) : den prog E (cAt C [true, true, true, true, true, true, true, false, true]) (Ex.then (D3.g R) (retQ E [.tmp 2] R)) fr h :=
  den_block (by kernel_rfl) (L5.ok R fr h g)
def D4.t (R : Rt) (a0 : Option Addr) (l0 : Nat) (c0 : Nat) (a3 : Option Addr) (l3 : Nat) (c3 : Nat) (x6 : Int) (x7 : Int) (h : Hp) : Prop :=
  (∃ n, L5.t R n a0 l0 c0 a3 l3 c3 x6 x7 a0 l0 c0 (((l0 : Nat) : Int)) 0 h)
def D4.g (R : Rt) (fr : Fr) (h : Hp) : Prop := gSlice (fr 0) fun a0 l0 c0 => gSlice (fr 3) fun a3 l3 c3 => gInt .i64 (fr 6) fun x6 => gInt .i64 (fr 7) fun x7 => D4.t R a0 l0 c0 a3 l3 c3 x6 x7 h
theorem D4.ok (R : Rt) (fr : Fr) (h : Hp) (g : D4.g R fr h) : den prog E (cAt C [true, true, true, true, true, true, true, false]) (Ex.then (D3.g R) (retQ E [.tmp 2] R)) fr h := by
  obtain ⟨a0, l0, c0, e0, g⟩ := gSlice_elim g
  obtain ⟨a3, l3, c3, e3, g⟩ := gSlice_elim g
  obtain ⟨x6, e6, g⟩ := gInt_elim g
  obtain ⟨x7, e7, g⟩ := gInt_elim g
  exact den_cut 1 (r := (cAt C [true, true, true, true, true, true, true, false, true])) (by kernel_rfl) (B7.ok R) (den_enter [(0, .slice a0 l0 c0), (3, .slice a3 l3 c3), (6, .int .i64 x6), (7, .int .i64 x7)] ⟨e0, e3, e6, e7, trivial⟩ (by kernel_rfl) g)
theorem W8.ok (R : Rt) (fr : Fr) (h : Hp) (g : D4.g R fr h) : den prog E (cAt C [true, true, true, true, true, true, true]) (retQ E [.tmp 2] R) fr h :=
  den_then (by kernel_rfl) (D3.ok R) (D4.ok R fr h g)
def D2.t (R : Rt) (a0 : Option Addr) (l0 : Nat) (c0 : Nat) (a3 : Option Addr) (l3 : Nat) (c3 : Nat) (x5 : Int) (x6 : Int) (x7 : Int) (h : Hp) : Prop :=
  HQC gnomonlaw02_rest.id #[.slice a3 l3 c3] h fun v14 =>
  gInt .u64 v14 fun x_15 =>
  cond (x_15 != x5) (R (.bool false) h) (D4.t R a0 l0 c0 a3 l3 c3 x6 x7 h)
def D2.g (R : Rt) (fr : Fr) (h : Hp) : Prop := gSlice (fr 0) fun a0 l0 c0 => gSlice (fr 3) fun a3 l3 c3 => gInt .u64 (fr 5) fun x5 => gInt .i64 (fr 6) fun x6 => gInt .i64 (fr 7) fun x7 => D2.t R a0 l0 c0 a3 l3 c3 x5 x6 x7 h
theorem D2.ok (R : Rt) (fr : Fr) (h : Hp) (g : D2.g R fr h) : den prog E (cAt C [true, true, true, true, true, true]) (retQ E [.tmp 2] R) fr h := by
  obtain ⟨a0, l0, c0, e0, g⟩ := gSlice_elim g
  obtain ⟨a3, l3, c3, e3, g⟩ := gSlice_elim g
  obtain ⟨x5, e5, g⟩ := gInt_elim g
  obtain ⟨x6, e6, g⟩ := gInt_elim g
  obtain ⟨x7, e7, g⟩ := gInt_elim g
  exact den_cut 1 (r := (cAt C [true, true, true, true, true, true, true])) (by kernel_rfl) (W8.ok R) (den_enter [(0, .slice a0 l0 c0), (3, .slice a3 l3 c3), (5, .int .u64 x5), (6, .int .i64 x6), (7, .int .i64 x7)] ⟨e0, e3, e5, e6, e7, trivial⟩ (by kernel_rfl) g)
def L10.g (N : Option Addr → Nat → Nat → Option Addr → Nat → Nat → Int → Int → Int → Option Addr → Nat → Nat → Int → Int → Hp → Prop) (fr : Fr) (h : Hp) : Prop := gSlice (fr 0) fun a0 l0 c0 => gSlice (fr 3) fun a3 l3 c3 => gInt .u64 (fr 5) fun x5 => gInt .i64 (fr 6) fun x6 => gInt .i64 (fr 7) fun x7 => gSlice (fr 25) fun a25 l25 c25 => gInt .i64 (fr 26) fun x26 => gInt .i64 (fr 27) fun x27 => N a0 l0 c0 a3 l3 c3 x5 x6 x7 a25 l25 c25 x26 x27 h
def D11.t (R : Rt) (N10 : Option Addr → Nat → Nat → Option Addr → Nat → Nat → Int → Int → Int → Option Addr → Nat → Nat → Int → Int → Hp → Prop) (a0 : Option Addr) (l0 : Nat) (c0 : Nat) (a3 : Option Addr) (l3 : Nat) (c3 : Nat) (x5 : Int) (x6 : Int) (x7 : Int) (a25 : Option Addr) (l25 : Nat) (c25 : Nat) (x26 : Int) (x27 : Int) (h : Hp) : Prop :=
  cond (decide (x27 < x26)) (idxK a25 l25 x27 1 fun q29 =>
  ldK h q29 fun v30 =>
  gSlice v30 fun a_31 l_31 c_31 =>
  HQC gnomonlaw02_rest.id #[.slice a_31 l_31 c_31] h fun v32 =>
  gInt .u64 v32 fun x_33 =>
  letK (IntKind.u64.wrap (x5 * x_33)) fun n34 =>
  (4294967291 : Int) ≠ 0 ∧ letK (Int.tmod n34 4294967291) fun n35 =>
  HC nat_Bits.id #[.slice a_31 l_31 c_31] h fun v36 h37 =>
  gInt .i64 v36 fun x_38 =>
  letK (IntKind.i64.wrap (x_38 - 1)) fun n39 =>
  letK (IntKind.i64.wrap (x7 + n39)) fun n40 =>
  HC nat_Bits.id #[.slice a_31 l_31 c_31] h37 fun v41 h42 =>
  gInt .i64 v41 fun x_43 =>
  letK (IntKind.i64.wrap (x6 + x_43)) fun n44 =>
  letK (IntKind.i64.wrap (x27 + 1)) fun n45 =>
  N10 a0 l0 c0 a3 l3 c3 n35 n44 n40 a25 l25 c25 x26 n45 h42) (D2.t R a0 l0 c0 a3 l3 c3 x5 x6 x7 h)
def D11.g (R : Rt) (N10 : Option Addr → Nat → Nat → Option Addr → Nat → Nat → Int → Int → Int → Option Addr → Nat → Nat → Int → Int → Hp → Prop) (fr : Fr) (h : Hp) : Prop := gSlice (fr 0) fun a0 l0 c0 => gSlice (fr 3) fun a3 l3 c3 => gInt .u64 (fr 5) fun x5 => gInt .i64 (fr 6) fun x6 => gInt .i64 (fr 7) fun x7 => gSlice (fr 25) fun a25 l25 c25 => gInt .i64 (fr 26) fun x26 => gInt .i64 (fr 27) fun x27 => D11.t R N10 a0 l0 c0 a3 l3 c3 x5 x6 x7 a25 l25 c25 x26 x27 h
theorem D11.ok (R : Rt) (N10 : Option Addr → Nat → Nat → Option Addr → Nat → Nat → Int → Int → Int → Option Addr → Nat → Nat → Int → Int → Hp → Prop) (fr : Fr) (h : Hp) (g : D11.g R N10 fr h) : den prog E (cAt C [true, true, true, true, true, false, true, false, false]) (Ex.then (L10.g N10) (Ex.inBlock 0 (Ex.then (D2.g R) (retQ E [.tmp 2] R)))) fr h := by
  obtain ⟨a0, l0, c0, e0, g⟩ := gSlice_elim g
  obtain ⟨a3, l3, c3, e3, g⟩ := gSlice_elim g
  obtain ⟨x5, e5, g⟩ := gInt_elim g
  obtain ⟨x6, e6, g⟩ := gInt_elim g
  obtain ⟨x7, e7, g⟩ := gInt_elim g
  obtain ⟨a25, l25, c25, e25, g⟩ := gSlice_elim g
  obtain ⟨x26, e26, g⟩ := gInt_elim g
  obtain ⟨x27, e27, g⟩ := gInt_elim g
  exact den_enter [(0, .slice a0 l0 c0), (3, .slice a3 l3 c3), (5, .int .u64 x5), (6, .int .i64 x6), (7, .int .i64 x7), (25, .slice a25 l25 c25), (26, .int .i64 x26), (27, .int .i64 x27)] ⟨e0, e3, e5, e6, e7, e25, e26, e27, trivial⟩ (by kernel_rfl) g
def L10.t (R : Rt) : Nat → Option Addr → Nat → Nat → Option Addr → Nat → Nat → Int → Int → Int → Option Addr → Nat → Nat → Int → Int → Hp → Prop
  | 0 => fun _ _ _ _ _ _ _ _ _ _ _ _ _ _ _ => False
  | n + 1 => fun a0 l0 c0 a3 l3 c3 x5 x6 x7 a25 l25 c25 x26 x27 h => D11.t R (L10.t R n) a0 l0 c0 a3 l3 c3 x5 x6 x7 a25 l25 c25 x26 x27 h
theorem L10.ok (R : Rt) (fr : Fr) (h : Hp) (g : L10.g (fun a0 l0 c0 a3 l3 c3 x5 x6 x7 a25 l25 c25 x26 x27 h => ∃ n, L10.t R n a0 l0 c0 a3 l3 c3 x5 x6 x7 a25 l25 c25 x26 x27 h) fr h) : den prog E (cAt C [true, true, true, true, true, false, true, false]) (Ex.inBlock 0 (Ex.then (D2.g R) (retQ E [.tmp 2] R))) fr h := by
  obtain ⟨a0, l0, c0, e0, g⟩ := gSlice_elim g
  obtain ⟨a3, l3, c3, e3, g⟩ := gSlice_elim g
  obtain ⟨x5, e5, g⟩ := gInt_elim g
  obtain ⟨x6, e6, g⟩ := gInt_elim g
  obtain ⟨x7, e7, g⟩ := gInt_elim g
  obtain ⟨a25, l25, c25, e25, g⟩ := gSlice_elim g
  obtain ⟨x26, e26, g⟩ := gInt_elim g
  obtain ⟨x27, e27, g⟩ := gInt_elim g
  obtain ⟨n, g⟩ := g
  refine loop_ok (fun n => L10.g (L10.t R n)) (b := (cAt C [true, true, true, true, true, false, true, false, false])) (by kernel_rfl) (fun fr h g => ?_) (fun n => D11.ok R (L10.t R n)) n fr h (gSlice_intro e0 (gSlice_intro e3 (gInt_intro e5 (gInt_intro e6 (gInt_intro e7 (gSlice_intro e25 (gInt_intro e26 (gInt_intro e27 (g)))))))))
  obtain ⟨a0, l0, c0, e0, g⟩ := gSlice_elim g
  obtain ⟨a3, l3, c3, e3, g⟩ := gSlice_elim g
  obtain ⟨x5, e5, g⟩ := gInt_elim g
  obtain ⟨x6, e6, g⟩ := gInt_elim g
  obtain ⟨x7, e7, g⟩ := gInt_elim g
  obtain ⟨a25, l25, c25, e25, g⟩ := gSlice_elim g
  obtain ⟨x26, e26, g⟩ := gInt_elim g
  obtain ⟨x27, e27, g⟩ := gInt_elim g
  exact g
theorem B12.ok (R : Rt) (fr : Fr) (h : Hp) (g : L10.g (fun a0 l0 c0 a3 l3 c3 x5 x6 x7 a25 l25 c25 x26 x27 h => ∃ n, L10.t R n a0 l0 c0 a3 l3 c3 x5 x6 x7 a25 l25 c25 x26 x27 h) fr h) : den prog E (cAt C [true, true, true, true, true, false, true]) (Ex.then (D2.g R) (retQ E [.tmp 2] R)) fr h :=
  den_block (by kernel_rfl) (L10.ok R fr h g)
def D9.t (R : Rt) (a0 : Option Addr) (l0 : Nat) (c0 : Nat) (a3 : Option Addr) (l3 : Nat) (c3 : Nat) (x5 : Int) (x6 : Int) (x7 : Int) (h : Hp) : Prop :=
  (∃ n, L10.t R n a0 l0 c0 a3 l3 c3 x5 x6 x7 a0 l0 c0 (((l0 : Nat) : Int)) 0 h)
def D9.g (R : Rt) (fr : Fr) (h : Hp) : Prop := gSlice (fr 0) fun a0 l0 c0 => gSlice (fr 3) fun a3 l3 c3 => gInt .u64 (fr 5) fun x5 => gInt .i64 (fr 6) fun x6 => gInt .i64 (fr 7) fun x7 => D9.t R a0 l0 c0 a3 l3 c3 x5 x6 x7 h
theorem D9.ok (R : Rt) (fr : Fr) (h : Hp) (g : D9.g R fr h) : den prog E (cAt C [true, true, true, true, true, false]) (Ex.then (D2.g R) (retQ E [.tmp 2] R)) fr h := by
  obtain ⟨a0, l0, c0, e0, g⟩ := gSlice_elim g
  obtain ⟨a3, l3, c3, e3, g⟩ := gSlice_elim g
  obtain ⟨x5, e5, g⟩ := gInt_elim g
  obtain ⟨x6, e6, g⟩ := gInt_elim g
  obtain ⟨x7, e7, g⟩ := gInt_elim g
  exact den_cut 1 (r := (cAt C [true, true, true, true, true, false, true])) (by kernel_rfl) (B12.ok R) (den_enter [(0, .slice a0 l0 c0), (3, .slice a3 l3 c3), (5, .int .u64 x5), (6, .int .i64 x6), (7, .int .i64 x7)] ⟨e0, e3, e5, e6, e7, trivial⟩ (by kernel_rfl) g)
theorem W13.ok (R : Rt) (fr : Fr) (h : Hp) (g : D9.g R fr h) : den prog E (cAt C [true, true, true, true, true]) (retQ E [.tmp 2] R) fr h :=
  den_then (by kernel_rfl) (D2.ok R) (D9.ok R fr h g)
def D1.t (R : Rt) (a0 : Option Addr) (l0 : Nat) (c0 : Nat) (h : Hp) : Prop :=
  HC gnomonlaw02_awake.id #[] h fun v1 h2 =>
  gBool v1 fun b_3 =>
  cond (!b_3) (R (.bool false) h2) (HC gnomonlaw02_lists.id #[.slice a0 l0 c0] h2 fun v4 h5 =>
  gSlice v4 fun a_6 l_6 c_6 =>
  HC natmul_Product.id #[.slice a_6 l_6 c_6] h5 fun v7 h8 =>
  gTup v7 fun y9 =>
  uncons y9 fun v10 y10 =>
  gSlice v10 fun a_11 l_11 c_11 =>
  uncons y10 fun v12 y12 =>
  gInt .i64 v12 fun x_13 =>
  unnil y12 <| cond (x_13 != 0) (R (.bool ((((l_11 : Nat) : Int)) == 0)) h8) (D9.t R a0 l0 c0 a_11 l_11 c_11 1 0 1 h8))
def D1.g (R : Rt) (fr : Fr) (h : Hp) : Prop := gSlice (fr 0) fun a0 l0 c0 => D1.t R a0 l0 c0 h
theorem D1.ok (R : Rt) (fr : Fr) (h : Hp) (g : D1.g R fr h) : den prog E C (retQ E [.tmp 2] R) fr h := by
  obtain ⟨a0, l0, c0, e0, g⟩ := gSlice_elim g
  exact den_cut 5 (r := (cAt C [true, true, true, true, true])) (by kernel_rfl) (W13.ok R) (den_enter [(0, .slice a0 l0 c0)] ⟨e0, trivial⟩ (by kernel_rfl) g)
def t (a0 : Option Addr) (l0 : Nat) (c0 : Nat) (h : Hp) (R : Rt) : Prop := D1.t R a0 l0 c0 h
theorem ok {a0 : Option Addr} {l0 : Nat} {c0 : Nat} {h : Hp} {R : Rt} (g : t a0 l0 c0 h R) : HC id #[.slice a0 l0 c0] h R :=
  calls_of_den' envOk (c := C) (rs := [.tmp 2]) Try.func5 (by kernel_rfl) (by kernel_rfl) (by kernel_rfl) (args := [.slice a0 l0 c0]) (by kernel_rfl) (D1.ok R _ h (gSlice_intro rfl (g)))
end gnomonlaw02_NatmulCasts

namespace gnomonlaw02_NatmulPowers
noncomputable def C : Code := bodyOf Try.f6
def D6.t (R : Rt) (x1 : Int) (x2 : Int) (a7 : Option Addr) (l7 : Nat) (c7 : Nat) (a15 : Option Addr) (l15 : Nat) (c15 : Nat) (h : Hp) : Prop :=
  HC natmul_Pow.id #[.slice a15 l15 c15, .int .i64 x2] h fun v104 h105 =>
  gTup v104 fun y106 =>
  uncons y106 fun v107 y107 =>
  gSlice v107 fun a_108 l_108 c_108 =>
  uncons y107 fun v109 y109 =>
  gInt .i64 v109 fun x_110 =>
  unnil y109 <| letK (IntKind.i64.wrap (x1 * x2)) fun n111 =>
  HC natmul_Pow.id #[.slice a7 l7 c7, .int .i64 n111] h105 fun v112 h113 =>
  gTup v112 fun y114 =>
  uncons y114 fun v115 y115 =>
  gSlice v115 fun a_116 l_116 c_116 =>
  uncons y115 fun v117 y117 =>
  gInt .i64 v117 fun x_118 =>
  unnil y117 <| cond (x_110 == x_118) (HQC gnomonref01_Same.id #[.slice a_108 l_108 c_108, .slice a_116 l_116 c_116] h113 fun v119 =>
  gBool v119 fun b_120 =>
  R (.bool b_120) h113) (R (.bool false) h113)
def D6.g (R : Rt) (fr : Fr) (h : Hp) : Prop := gInt .i64 (fr 1) fun x1 => gInt .i64 (fr 2) fun x2 => gSlice (fr 7) fun a7 l7 c7 => gSlice (fr 15) fun a15 l15 c15 => D6.t R x1 x2 a7 l7 c7 a15 l15 c15 h
theorem D6.ok (R : Rt) (fr : Fr) (h : Hp) (g : D6.g R fr h) : den prog E (cAt C [true, true, true, true, true, true, true, true, true, true, true, true]) (retQ E [.tmp 6] R) fr h := by
  obtain ⟨x1, e1, g⟩ := gInt_elim g
  obtain ⟨x2, e2, g⟩ := gInt_elim g
  obtain ⟨a7, l7, c7, e7, g⟩ := gSlice_elim g
  obtain ⟨a15, l15, c15, e15, g⟩ := gSlice_elim g
  exact den_enter [(1, .int .i64 x1), (2, .int .i64 x2), (7, .slice a7 l7 c7), (15, .slice a15 l15 c15)] ⟨e1, e2, e7, e15, trivial⟩ (by kernel_rfl) g
def D5.t (R : Rt) (x1 : Int) (x2 : Int) (a7 : Option Addr) (l7 : Nat) (c7 : Nat) (a15 : Option Addr) (l15 : Nat) (c15 : Nat) (a17 : Option Addr) (l17 : Nat) (c17 : Nat) (a19 : Option Addr) (l19 : Nat) (c19 : Nat) (x20 : Int) (h : Hp) : Prop :=
  HC natmul_Mul.id #[.slice a15 l15 c15, .slice a17 l17 c17] h fun v95 h96 =>
  gTup v95 fun y97 =>
  uncons y97 fun v98 y98 =>
  gSlice v98 fun a_99 l_99 c_99 =>
  uncons y98 fun v100 y100 =>
  gInt .i64 v100 fun x_101 =>
  unnil y100 <| cond (x20 != x_101) (R (.bool false) h96) (HQC gnomonref01_Same.id #[.slice a19 l19 c19, .slice a_99 l_99 c_99] h96 fun v102 =>
  gBool v102 fun b_103 =>
  cond (!b_103) (R (.bool false) h96) (D6.t R x1 x2 a7 l7 c7 a15 l15 c15 h96))
def D5.g (R : Rt) (fr : Fr) (h : Hp) : Prop := gInt .i64 (fr 1) fun x1 => gInt .i64 (fr 2) fun x2 => gSlice (fr 7) fun a7 l7 c7 => gSlice (fr 15) fun a15 l15 c15 => gSlice (fr 17) fun a17 l17 c17 => gSlice (fr 19) fun a19 l19 c19 => gInt .i64 (fr 20) fun x20 => D5.t R x1 x2 a7 l7 c7 a15 l15 c15 a17 l17 c17 a19 l19 c19 x20 h
theorem D5.ok (R : Rt) (fr : Fr) (h : Hp) (g : D5.g R fr h) : den prog E (cAt C [true, true, true, true, true, true, true, true, true, true]) (retQ E [.tmp 6] R) fr h := by
  obtain ⟨x1, e1, g⟩ := gInt_elim g
  obtain ⟨x2, e2, g⟩ := gInt_elim g
  obtain ⟨a7, l7, c7, e7, g⟩ := gSlice_elim g
  obtain ⟨a15, l15, c15, e15, g⟩ := gSlice_elim g
  obtain ⟨a17, l17, c17, e17, g⟩ := gSlice_elim g
  obtain ⟨a19, l19, c19, e19, g⟩ := gSlice_elim g
  obtain ⟨x20, e20, g⟩ := gInt_elim g
  exact den_cut 2 (r := (cAt C [true, true, true, true, true, true, true, true, true, true, true, true])) (by kernel_rfl) (D6.ok R) (den_enter [(1, .int .i64 x1), (2, .int .i64 x2), (7, .slice a7 l7 c7), (15, .slice a15 l15 c15), (17, .slice a17 l17 c17), (19, .slice a19 l19 c19), (20, .int .i64 x20)] ⟨e1, e2, e7, e15, e17, e19, e20, trivial⟩ (by kernel_rfl) g)
def D4.t (R : Rt) (x1 : Int) (x2 : Int) (a7 : Option Addr) (l7 : Nat) (c7 : Nat) (h : Hp) : Prop :=
  HC natmul_Pow.id #[.slice a7 l7 c7, .int .i64 x1] h fun v73 h74 =>
  gTup v73 fun y75 =>
  uncons y75 fun v76 y76 =>
  gSlice v76 fun a_77 l_77 c_77 =>
  uncons y76 fun v78 y78 =>
  gInt .i64 v78 fun x_79 =>
  unnil y78 <| HC natmul_Pow.id #[.slice a7 l7 c7, .int .i64 x2] h74 fun v80 h81 =>
  gTup v80 fun y82 =>
  uncons y82 fun v83 y83 =>
  gSlice v83 fun a_84 l_84 c_84 =>
  uncons y83 fun v85 y85 =>
  gInt .i64 v85 fun x_86 =>
  unnil y85 <| letK (IntKind.i64.wrap (x1 + x2)) fun n87 =>
  HC natmul_Pow.id #[.slice a7 l7 c7, .int .i64 n87] h81 fun v88 h89 =>
  gTup v88 fun y90 =>
  uncons y90 fun v91 y91 =>
  gSlice v91 fun a_92 l_92 c_92 =>
  uncons y91 fun v93 y93 =>
  gInt .i64 v93 fun x_94 =>
  unnil y93 <| cond (x_79 != 0) (cond (x_94 == 5) (R (.bool ((((l_92 : Nat) : Int)) == 0)) h89) (R (.bool false) h89)) (cond (x_86 != 0) (cond (x_94 == 5) (R (.bool ((((l_92 : Nat) : Int)) == 0)) h89) (R (.bool false) h89)) (D5.t R x1 x2 a7 l7 c7 a_77 l_77 c_77 a_84 l_84 c_84 a_92 l_92 c_92 x_94 h89))
def D4.g (R : Rt) (fr : Fr) (h : Hp) : Prop := gInt .i64 (fr 1) fun x1 => gInt .i64 (fr 2) fun x2 => gSlice (fr 7) fun a7 l7 c7 => D4.t R x1 x2 a7 l7 c7 h
theorem D4.ok (R : Rt) (fr : Fr) (h : Hp) (g : D4.g R fr h) : den prog E (cAt C [true, true, true, true, true, true]) (retQ E [.tmp 6] R) fr h := by
  obtain ⟨x1, e1, g⟩ := gInt_elim g
  obtain ⟨x2, e2, g⟩ := gInt_elim g
  obtain ⟨a7, l7, c7, e7, g⟩ := gSlice_elim g
  exact den_cut 4 (r := (cAt C [true, true, true, true, true, true, true, true, true, true])) (by kernel_rfl) (D5.ok R) (den_enter [(1, .int .i64 x1), (2, .int .i64 x2), (7, .slice a7 l7 c7)] ⟨e1, e2, e7, trivial⟩ (by kernel_rfl) g)
def D3.t (R : Rt) (x1 : Int) (x2 : Int) (a7 : Option Addr) (l7 : Nat) (c7 : Nat) (h : Hp) : Prop :=
  cond (decide (x1 > 1048576)) (HC natmul_Pow.id #[.slice a7 l7 c7, .int .i64 (if x2 > x1 then x2 else x1)] h fun v45 h46 =>
  gTup v45 fun y47 =>
  uncons y47 fun v48 y48 =>
  gSlice v48 fun a_49 l_49 c_49 =>
  uncons y48 fun v50 y50 =>
  gInt .i64 v50 fun x_51 =>
  unnil y50 <| boxK h46 28 [.int .u64 1] fun q52 h53 =>
  HC nat_Cmp.id #[.slice a7 l7 c7, .slice (some q52) 1 1] h53 fun v54 h55 =>
  gInt .i64 v54 fun x_56 =>
  cond (decide (x_56 ≤ 0)) (cond (x_51 == 0) (HQC gnomonref01_Same.id #[.slice a_49 l_49 c_49, .slice a7 l7 c7] h55 fun v57 =>
  gBool v57 fun b_58 =>
  R (.bool b_58) h55) (R (.bool false) h55)) (cond (x_51 == 5) (R (.bool ((((l_49 : Nat) : Int)) == 0)) h55) (R (.bool false) h55))) (cond (decide (x2 > 1048576)) (HC natmul_Pow.id #[.slice a7 l7 c7, .int .i64 (if x2 > x1 then x2 else x1)] h fun v59 h60 =>
  gTup v59 fun y61 =>
  uncons y61 fun v62 y62 =>
  gSlice v62 fun a_63 l_63 c_63 =>
  uncons y62 fun v64 y64 =>
  gInt .i64 v64 fun x_65 =>
  unnil y64 <| boxK h60 28 [.int .u64 1] fun q66 h67 =>
  HC nat_Cmp.id #[.slice a7 l7 c7, .slice (some q66) 1 1] h67 fun v68 h69 =>
  gInt .i64 v68 fun x_70 =>
  cond (decide (x_70 ≤ 0)) (cond (x_65 == 0) (HQC gnomonref01_Same.id #[.slice a_63 l_63 c_63, .slice a7 l7 c7] h69 fun v71 =>
  gBool v71 fun b_72 =>
  R (.bool b_72) h69) (R (.bool false) h69)) (cond (x_65 == 5) (R (.bool ((((l_63 : Nat) : Int)) == 0)) h69) (R (.bool false) h69))) (D4.t R x1 x2 a7 l7 c7 h))
def D3.g (R : Rt) (fr : Fr) (h : Hp) : Prop := gInt .i64 (fr 1) fun x1 => gInt .i64 (fr 2) fun x2 => gSlice (fr 7) fun a7 l7 c7 => D3.t R x1 x2 a7 l7 c7 h
theorem D3.ok (R : Rt) (fr : Fr) (h : Hp) (g : D3.g R fr h) : den prog E (cAt C [true, true, true, true, true]) (retQ E [.tmp 6] R) fr h := by
  obtain ⟨x1, e1, g⟩ := gInt_elim g
  obtain ⟨x2, e2, g⟩ := gInt_elim g
  obtain ⟨a7, l7, c7, e7, g⟩ := gSlice_elim g
  exact den_cut 1 (r := (cAt C [true, true, true, true, true, true])) (by kernel_rfl) (D4.ok R) (den_enter [(1, .int .i64 x1), (2, .int .i64 x2), (7, .slice a7 l7 c7)] ⟨e1, e2, e7, trivial⟩ (by kernel_rfl) g)
def D2.t (R : Rt) (x1 : Int) (x2 : Int) (a7 : Option Addr) (l7 : Nat) (c7 : Nat) (b8 : Bool) (h : Hp) : Prop :=
  cond (!b8) (HC natmul_Pow.id #[.slice a7 l7 c7, .int .i64 (if (-1) < (if x2 < x1 then x2 else x1) then (-1) else (if x2 < x1 then x2 else x1))] h fun v24 h25 =>
  gTup v24 fun y26 =>
  uncons y26 fun v27 y27 =>
  gSlice v27 fun a_28 l_28 c_28 =>
  uncons y27 fun v29 y29 =>
  gInt .i64 v29 fun x_30 =>
  unnil y29 <| cond ((((l_28 : Nat) : Int)) == 0) (R (.bool (x_30 == 1)) h25) (R (.bool false) h25)) (cond (decide (x1 < 0)) (HC natmul_Pow.id #[.slice a7 l7 c7, .int .i64 (if (-1) < (if x2 < x1 then x2 else x1) then (-1) else (if x2 < x1 then x2 else x1))] h fun v31 h32 =>
  gTup v31 fun y33 =>
  uncons y33 fun v34 y34 =>
  gSlice v34 fun a_35 l_35 c_35 =>
  uncons y34 fun v36 y36 =>
  gInt .i64 v36 fun x_37 =>
  unnil y36 <| cond ((((l_35 : Nat) : Int)) == 0) (R (.bool (x_37 == 1)) h32) (R (.bool false) h32)) (cond (decide (x2 < 0)) (HC natmul_Pow.id #[.slice a7 l7 c7, .int .i64 (if (-1) < (if x2 < x1 then x2 else x1) then (-1) else (if x2 < x1 then x2 else x1))] h fun v38 h39 =>
  gTup v38 fun y40 =>
  uncons y40 fun v41 y41 =>
  gSlice v41 fun a_42 l_42 c_42 =>
  uncons y41 fun v43 y43 =>
  gInt .i64 v43 fun x_44 =>
  unnil y43 <| cond ((((l_42 : Nat) : Int)) == 0) (R (.bool (x_44 == 1)) h39) (R (.bool false) h39)) (D3.t R x1 x2 a7 l7 c7 h)))
def D2.g (R : Rt) (fr : Fr) (h : Hp) : Prop := gInt .i64 (fr 1) fun x1 => gInt .i64 (fr 2) fun x2 => gSlice (fr 7) fun a7 l7 c7 => gBool (fr 8) fun b8 => D2.t R x1 x2 a7 l7 c7 b8 h
theorem D2.ok (R : Rt) (fr : Fr) (h : Hp) (g : D2.g R fr h) : den prog E (cAt C [true, true, true, true]) (retQ E [.tmp 6] R) fr h := by
  obtain ⟨x1, e1, g⟩ := gInt_elim g
  obtain ⟨x2, e2, g⟩ := gInt_elim g
  obtain ⟨a7, l7, c7, e7, g⟩ := gSlice_elim g
  obtain ⟨b8, e8, g⟩ := gBool_elim g
  exact den_cut 1 (r := (cAt C [true, true, true, true, true])) (by kernel_rfl) (D3.ok R) (den_enter [(1, .int .i64 x1), (2, .int .i64 x2), (7, .slice a7 l7 c7), (8, .bool b8)] ⟨e1, e2, e7, e8, trivial⟩ (by kernel_rfl) g)
def D1.t (R : Rt) (a0 : Option Addr) (l0 : Nat) (c0 : Nat) (x1 : Int) (x2 : Int) (h : Hp) : Prop :=
  HC gnomonlaw02_norm.id #[.slice a0 l0 c0] h fun v1 h2 =>
  gTup v1 fun y3 =>
  uncons y3 fun v4 y4 =>
  gSlice v4 fun a_5 l_5 c_5 =>
  uncons y4 fun v6 y6 =>
  gBool v6 fun b_7 =>
  unnil y6 <| boxK h2 28 [.int .u64 10] fun q8 h9 =>
  HC natmul_Pow.id #[.slice (some q8) 1 1, .int .i64 20] h9 fun v10 h11 =>
  gTup v10 fun y12 =>
  uncons y12 fun v13 y13 =>
  gSlice v13 fun a_14 l_14 c_14 =>
  uncons y13 fun v15 y15 =>
  gInt .i64 v15 fun x_16 =>
  unnil y15 <| cond (x_16 != 0) (R (.bool false) h11) (boxK h11 28 [.int .u64 7766279631452241920, .int .u64 5] fun q17 h18 =>
  HQC gnomonref01_Same.id #[.slice a_14 l_14 c_14, .slice (some q17) 2 2] h18 fun v19 =>
  gBool v19 fun b_20 =>
  cond (!b_20) (R (.bool false) h18) (HC gnomonlaw02_awake.id #[] h18 fun v21 h22 =>
  gBool v21 fun b_23 =>
  cond (!b_23) (R (.bool false) h22) (D2.t R x1 x2 a_5 l_5 c_5 b_7 h22)))
def D1.g (R : Rt) (fr : Fr) (h : Hp) : Prop := gSlice (fr 0) fun a0 l0 c0 => gInt .i64 (fr 1) fun x1 => gInt .i64 (fr 2) fun x2 => D1.t R a0 l0 c0 x1 x2 h
theorem D1.ok (R : Rt) (fr : Fr) (h : Hp) (g : D1.g R fr h) : den prog E C (retQ E [.tmp 6] R) fr h := by
  obtain ⟨a0, l0, c0, e0, g⟩ := gSlice_elim g
  obtain ⟨x1, e1, g⟩ := gInt_elim g
  obtain ⟨x2, e2, g⟩ := gInt_elim g
  exact den_cut 4 (r := (cAt C [true, true, true, true])) (by kernel_rfl) (D2.ok R) (den_enter [(0, .slice a0 l0 c0), (1, .int .i64 x1), (2, .int .i64 x2)] ⟨e0, e1, e2, trivial⟩ (by kernel_rfl) g)
def t (a0 : Option Addr) (l0 : Nat) (c0 : Nat) (x1 : Int) (x2 : Int) (h : Hp) (R : Rt) : Prop := D1.t R a0 l0 c0 x1 x2 h
theorem ok {a0 : Option Addr} {l0 : Nat} {c0 : Nat} {x1 : Int} {x2 : Int} {h : Hp} {R : Rt} (g : t a0 l0 c0 x1 x2 h R) : HC id #[.slice a0 l0 c0, .int .i64 x1, .int .i64 x2] h R :=
  calls_of_den' envOk (c := C) (rs := [.tmp 6]) Try.func6 (by kernel_rfl) (by kernel_rfl) (by kernel_rfl) (args := [.slice a0 l0 c0, .int .i64 x1, .int .i64 x2]) (by kernel_rfl) (D1.ok R _ h (gSlice_intro rfl (gInt_intro rfl (gInt_intro rfl (g)))))
end gnomonlaw02_NatmulPowers

namespace gnomonlaw02_NatmulMuls
noncomputable def C : Code := bodyOf Try.f7
def D1.t (R : Rt) (a0 : Option Addr) (l0 : Nat) (c0 : Nat) (h : Hp) : Prop :=
  HC gnomonlaw02_awake.id #[] h fun v1 h2 =>
  gBool v1 fun b_3 =>
  cond b_3 (HC gnomonlaw02_all.id #[.slice a0 l0 c0, .int .i64 1, .int .i64 2] h2 fun v4 h5 =>
  gBool v4 fun b_6 =>
  R (.bool b_6) h5) (R (.bool false) h2)
def D1.g (R : Rt) (fr : Fr) (h : Hp) : Prop := gSlice (fr 0) fun a0 l0 c0 => D1.t R a0 l0 c0 h
theorem D1.ok (R : Rt) (fr : Fr) (h : Hp) (g : D1.g R fr h) : den prog E C (retQ E [.tmp 2] R) fr h := by
  obtain ⟨a0, l0, c0, e0, g⟩ := gSlice_elim g
  exact den_enter [(0, .slice a0 l0 c0)] ⟨e0, trivial⟩ (by kernel_rfl) g
def t (a0 : Option Addr) (l0 : Nat) (c0 : Nat) (h : Hp) (R : Rt) : Prop := D1.t R a0 l0 c0 h
theorem ok {a0 : Option Addr} {l0 : Nat} {c0 : Nat} {h : Hp} {R : Rt} (g : t a0 l0 c0 h R) : HC id #[.slice a0 l0 c0] h R :=
  calls_of_den' envOk (c := C) (rs := [.tmp 2]) Try.func7 (by kernel_rfl) (by kernel_rfl) (by kernel_rfl) (args := [.slice a0 l0 c0]) (by kernel_rfl) (D1.ok R _ h (gSlice_intro rfl (g)))
end gnomonlaw02_NatmulMuls

namespace gnomonlaw02_NatmulPows
noncomputable def C : Code := bodyOf Try.f8
def D1.t (R : Rt) (a0 : Option Addr) (l0 : Nat) (c0 : Nat) (h : Hp) : Prop :=
  boxK h 28 [.int .u64 3] fun q1 h2 =>
  HC natmul_Pow.id #[.slice (some q1) 1 1, .int .i64 4] h2 fun v3 h4 =>
  gTup v3 fun y5 =>
  uncons y5 fun v6 y6 =>
  gSlice v6 fun a_7 l_7 c_7 =>
  uncons y6 fun v8 y8 =>
  gInt .i64 v8 fun x_9 =>
  unnil y8 <| HC natmul_Pow.id #[.slice none 0 0, .int .i64 0] h4 fun v10 h11 =>
  gTup v10 fun y12 =>
  uncons y12 fun v13 y13 =>
  gSlice v13 fun a_14 l_14 c_14 =>
  uncons y13 fun v15 y15 =>
  gInt .i64 v15 fun x_16 =>
  unnil y15 <| boxK h11 28 [.int .u64 81] fun q17 h18 =>
  HC gnomonlaw02_told.id #[.slice a_7 l_7 c_7, .int .i64 x_9, .slice (some q17) 1 1, .int .i64 0] h18 fun v19 h20 =>
  gBool v19 fun b_21 =>
  cond b_21 (boxK h20 28 [.int .u64 1] fun q22 h23 =>
  HC gnomonlaw02_told.id #[.slice a_14 l_14 c_14, .int .i64 x_16, .slice (some q22) 1 1, .int .i64 0] h23 fun v24 h25 =>
  gBool v24 fun b_26 =>
  cond b_26 (HC gnomonlaw02_all.id #[.slice a0 l0 c0, .int .i64 3, .int .i64 3] h25 fun v27 h28 =>
  gBool v27 fun b_29 =>
  R (.bool b_29) h28) (R (.bool false) h25)) (R (.bool false) h20)
def D1.g (R : Rt) (fr : Fr) (h : Hp) : Prop := gSlice (fr 0) fun a0 l0 c0 => D1.t R a0 l0 c0 h
theorem D1.ok (R : Rt) (fr : Fr) (h : Hp) (g : D1.g R fr h) : den prog E C (retQ E [.tmp 2] R) fr h := by
  obtain ⟨a0, l0, c0, e0, g⟩ := gSlice_elim g
  exact den_enter [(0, .slice a0 l0 c0)] ⟨e0, trivial⟩ (by kernel_rfl) g
def t (a0 : Option Addr) (l0 : Nat) (c0 : Nat) (h : Hp) (R : Rt) : Prop := D1.t R a0 l0 c0 h
theorem ok {a0 : Option Addr} {l0 : Nat} {c0 : Nat} {h : Hp} {R : Rt} (g : t a0 l0 c0 h R) : HC id #[.slice a0 l0 c0] h R :=
  calls_of_den' envOk (c := C) (rs := [.tmp 2]) Try.func8 (by kernel_rfl) (by kernel_rfl) (by kernel_rfl) (args := [.slice a0 l0 c0]) (by kernel_rfl) (D1.ok R _ h (gSlice_intro rfl (g)))
end gnomonlaw02_NatmulPows

namespace gnomonlaw02_NatmulParted
noncomputable def C : Code := bodyOf Try.f9
def D1.t (R : Rt) (a0 : Option Addr) (l0 : Nat) (c0 : Nat) (h : Hp) : Prop :=
  boxK h 28 [.int .u64 1, .int .u64 2, .int .u64 3] fun q1 h2 =>
  boxK h2 28 [.int .u64 4, .int .u64 5] fun q3 h4 =>
  HC natmul_Parts.id #[.slice (some q1) 3 3, .slice (some q3) 2 2, .int .i64 1] h4 fun v5 h6 =>
  gTup v5 fun y7 =>
  uncons y7 fun v8 y8 =>
  gSlice v8 fun a_9 l_9 c_9 =>
  uncons y8 fun v10 y10 =>
  gSlice v10 fun a_11 l_11 c_11 =>
  uncons y10 fun v12 y12 =>
  gSlice v12 fun a_13 l_13 c_13 =>
  uncons y12 fun v14 y14 =>
  gInt .i64 v14 fun x_15 =>
  unnil y14 <| boxK h6 28 [.int .u64 4] fun q16 h17 =>
  HC gnomonlaw02_told.id #[.slice a_9 l_9 c_9, .int .i64 x_15, .slice (some q16) 1 1, .int .i64 0] h17 fun v18 h19 =>
  gBool v18 fun b_20 =>
  cond (!b_20) (R (.bool false) h19) (boxK h19 28 [.int .u64 13, .int .u64 12] fun q21 h22 =>
  HQC gnomonref01_Same.id #[.slice a_11 l_11 c_11, .slice (some q21) 2 2] h22 fun v23 =>
  gBool v23 fun b_24 =>
  cond (!b_24) (R (.bool false) h22) (boxK h22 28 [.int .u64 10, .int .u64 15] fun q25 h26 =>
  HQC gnomonref01_Same.id #[.slice a_13 l_13 c_13, .slice (some q25) 2 2] h26 fun v27 =>
  gBool v27 fun b_28 =>
  cond (!b_28) (R (.bool false) h26) (HC gnomonlaw02_all.id #[.slice a0 l0 c0, .int .i64 4, .int .i64 4] h26 fun v29 h30 =>
  gBool v29 fun b_31 =>
  R (.bool b_31) h30)))
def D1.g (R : Rt) (fr : Fr) (h : Hp) : Prop := gSlice (fr 0) fun a0 l0 c0 => D1.t R a0 l0 c0 h
theorem D1.ok (R : Rt) (fr : Fr) (h : Hp) (g : D1.g R fr h) : den prog E C (retQ E [.tmp 2] R) fr h := by
  obtain ⟨a0, l0, c0, e0, g⟩ := gSlice_elim g
  exact den_enter [(0, .slice a0 l0 c0)] ⟨e0, trivial⟩ (by kernel_rfl) g
def t (a0 : Option Addr) (l0 : Nat) (c0 : Nat) (h : Hp) (R : Rt) : Prop := D1.t R a0 l0 c0 h
theorem ok {a0 : Option Addr} {l0 : Nat} {c0 : Nat} {h : Hp} {R : Rt} (g : t a0 l0 c0 h R) : HC id #[.slice a0 l0 c0] h R :=
  calls_of_den' envOk (c := C) (rs := [.tmp 2]) Try.func9 (by kernel_rfl) (by kernel_rfl) (by kernel_rfl) (args := [.slice a0 l0 c0]) (by kernel_rfl) (D1.ok R _ h (gSlice_intro rfl (g)))
end gnomonlaw02_NatmulParted

namespace gnomonlaw02_NatmulProducts
noncomputable def C : Code := bodyOf Try.f10
def D1.t (R : Rt) (a0 : Option Addr) (l0 : Nat) (c0 : Nat) (h : Hp) : Prop :=
  boxK h 28 [.int .u64 2] fun q1 h2 =>
  boxK h2 28 [.int .u64 3] fun q3 h4 =>
  boxK h4 28 [.int .u64 7] fun q5 h6 =>
  boxK h6 24 [.slice (some q1) 1 1, .slice (some q3) 1 1, .slice (some q5) 1 1] fun q7 h8 =>
  HC natmul_Product.id #[.slice (some q7) 3 3] h8 fun v9 h10 =>
  gTup v9 fun y11 =>
  uncons y11 fun v12 y12 =>
  gSlice v12 fun a_13 l_13 c_13 =>
  uncons y12 fun v14 y14 =>
  gInt .i64 v14 fun x_15 =>
  unnil y14 <| HC natmul_Product.id #[.slice none 0 0] h10 fun v16 h17 =>
  gTup v16 fun y18 =>
  uncons y18 fun v19 y19 =>
  gSlice v19 fun a_20 l_20 c_20 =>
  uncons y19 fun v21 y21 =>
  gInt .i64 v21 fun x_22 =>
  unnil y21 <| boxK h17 28 [.int .u64 42] fun q23 h24 =>
  HC gnomonlaw02_told.id #[.slice a_13 l_13 c_13, .int .i64 x_15, .slice (some q23) 1 1, .int .i64 0] h24 fun v25 h26 =>
  gBool v25 fun b_27 =>
  cond b_27 (boxK h26 28 [.int .u64 1] fun q28 h29 =>
  HC gnomonlaw02_told.id #[.slice a_20 l_20 c_20, .int .i64 x_22, .slice (some q28) 1 1, .int .i64 0] h29 fun v30 h31 =>
  gBool v30 fun b_32 =>
  cond b_32 (HC gnomonlaw02_all.id #[.slice a0 l0 c0, .int .i64 5, .int .i64 5] h31 fun v33 h34 =>
  gBool v33 fun b_35 =>
  R (.bool b_35) h34) (R (.bool false) h31)) (R (.bool false) h26)
def D1.g (R : Rt) (fr : Fr) (h : Hp) : Prop := gSlice (fr 0) fun a0 l0 c0 => D1.t R a0 l0 c0 h
theorem D1.ok (R : Rt) (fr : Fr) (h : Hp) (g : D1.g R fr h) : den prog E C (retQ E [.tmp 2] R) fr h := by
  obtain ⟨a0, l0, c0, e0, g⟩ := gSlice_elim g
  exact den_enter [(0, .slice a0 l0 c0)] ⟨e0, trivial⟩ (by kernel_rfl) g
def t (a0 : Option Addr) (l0 : Nat) (c0 : Nat) (h : Hp) (R : Rt) : Prop := D1.t R a0 l0 c0 h
theorem ok {a0 : Option Addr} {l0 : Nat} {c0 : Nat} {h : Hp} {R : Rt} (g : t a0 l0 c0 h R) : HC id #[.slice a0 l0 c0] h R :=
  calls_of_den' envOk (c := C) (rs := [.tmp 2]) Try.func10 (by kernel_rfl) (by kernel_rfl) (by kernel_rfl) (args := [.slice a0 l0 c0]) (by kernel_rfl) (D1.ok R _ h (gSlice_intro rfl (g)))
end gnomonlaw02_NatmulProducts

namespace gnomonlaw02_NatmulKeeps
noncomputable def C : Code := bodyOf Try.f11
def D2.t (R : Rt)  (h : Hp) : Prop :=
  R (.bool true) h
def D2.g (R : Rt) (fr : Fr) (h : Hp) : Prop := D2.t R  h
theorem D2.ok (R : Rt) (fr : Fr) (h : Hp) (g : D2.g R fr h) : den prog E (cAt C [true, true, true, true]) (retQ E [.tmp 2] R) fr h := by
  exact den_enter [] trivial (by kernel_rfl) g
def L4.g (N : Addr → Option Addr → Nat → Nat → Int → Int → Hp → Prop) (fr : Fr) (h : Hp) : Prop := gPtrS (fr 3) fun q3 => gSlice (fr 19) fun a19 l19 c19 => gInt .i64 (fr 20) fun x20 => gInt .i64 (fr 21) fun x21 => N q3 a19 l19 c19 x20 x21 h
def D5.t (R : Rt) (N4 : Addr → Option Addr → Nat → Nat → Int → Int → Hp → Prop) (q3 : Addr) (a19 : Option Addr) (l19 : Nat) (c19 : Nat) (x20 : Int) (x21 : Int) (h : Hp) : Prop :=
  cond (decide (x21 < x20)) (idxK a19 l19 x21 5 fun q30 =>
  ldK h (q30.add 0) fun v31 =>
  gInt .i64 v31 fun x_32 =>
  ldK h (q30.add 1) fun v33 =>
  gSlice v33 fun a_34 l_34 c_34 =>
  ldK h (q30.add 2) fun v35 =>
  gSlice v35 fun a_36 l_36 c_36 =>
  ldK h (q30.add 3) fun v37 =>
  gInt .i64 v37 fun x_38 =>
  ldK h (q30.add 4) fun v39 =>
  gSlice v39 fun a_40 l_40 c_40 =>
  boxK h 52 T52.zs fun q41 h42 =>
  stK h42 (q41.add 0) (.int .i64 x_32) fun h43 =>
  stK h43 (q41.add 1) (.slice a_34 l_34 c_34) fun h44 =>
  stK h44 (q41.add 2) (.slice a_36 l_36 c_36) fun h45 =>
  stK h45 (q41.add 3) (.int .i64 x_38) fun h46 =>
  stK h46 (q41.add 4) (.slice a_40 l_40 c_40) fun h47 =>
  ldK h47 (q41.add 0) fun v48 =>
  gInt .i64 v48 fun x_49 =>
  cond (decide (x_49 < 1)) (letK (IntKind.i64.wrap (x21 + 1)) fun n50 =>
  N4 q3 a19 l19 c19 x20 n50 h47) (ldK h47 (q41.add 0) fun v51 =>
  gInt .i64 v51 fun x_52 =>
  cond (decide (x_52 > 5)) (letK (IntKind.i64.wrap (x21 + 1)) fun n53 =>
  N4 q3 a19 l19 c19 x20 n53 h47) (ldK h47 (q3.add 0) fun v54 =>
  gInt .i64 v54 fun x_55 =>
  ldK h47 (q3.add 1) fun v56 =>
  gSlice v56 fun a_57 l_57 c_57 =>
  ldK h47 (q3.add 2) fun v58 =>
  gSlice v58 fun a_59 l_59 c_59 =>
  ldK h47 (q3.add 3) fun v60 =>
  gInt .i64 v60 fun x_61 =>
  ldK h47 (q3.add 4) fun v62 =>
  gSlice v62 fun a_63 l_63 c_63 =>
  boxK h47 52 T52.zs fun q64 h65 =>
  stK h65 (q64.add 0) (.int .i64 x_55) fun h66 =>
  stK h66 (q64.add 1) (.slice a_57 l_57 c_57) fun h67 =>
  stK h67 (q64.add 2) (.slice a_59 l_59 c_59) fun h68 =>
  stK h68 (q64.add 3) (.int .i64 x_61) fun h69 =>
  stK h69 (q64.add 4) (.slice a_63 l_63 c_63) fun h70 =>
  ldK h70 (q41.add 0) fun v71 =>
  gInt .i64 v71 fun x_72 =>
  stK h70 (q64.add 0) (.int .i64 x_72) fun h73 =>
  ldK h73 (q41.add 0) fun v74 =>
  gInt .i64 v74 fun x_75 =>
  ldK h73 (q41.add 1) fun v76 =>
  gSlice v76 fun a_77 l_77 c_77 =>
  ldK h73 (q41.add 2) fun v78 =>
  gSlice v78 fun a_79 l_79 c_79 =>
  ldK h73 (q41.add 3) fun v80 =>
  gInt .i64 v80 fun x_81 =>
  ldK h73 (q41.add 4) fun v82 =>
  gSlice v82 fun a_83 l_83 c_83 =>
  ldK h73 (q3.add 0) fun v84 =>
  gInt .i64 v84 fun x_85 =>
  ldK h73 (q3.add 1) fun v86 =>
  gSlice v86 fun a_87 l_87 c_87 =>
  ldK h73 (q3.add 2) fun v88 =>
  gSlice v88 fun a_89 l_89 c_89 =>
  ldK h73 (q3.add 3) fun v90 =>
  gInt .i64 v90 fun x_91 =>
  ldK h73 (q3.add 4) fun v92 =>
  gSlice v92 fun a_93 l_93 c_93 =>
  HC gnomonlaw02_keeps.id #[.agg #[.int .i64 x_75, .slice a_77 l_77 c_77, .slice a_79 l_79 c_79, .int .i64 x_81, .slice a_83 l_83 c_83], .agg #[.int .i64 x_85, .slice a_87 l_87 c_87, .slice a_89 l_89 c_89, .int .i64 x_91, .slice a_93 l_93 c_93]] h73 fun v94 h95 =>
  gBool v94 fun b_96 =>
  cond (!b_96) (R (.bool false) h95) (ldK h95 (q41.add 0) fun v97 =>
  gInt .i64 v97 fun x_98 =>
  ldK h95 (q41.add 1) fun v99 =>
  gSlice v99 fun a_100 l_100 c_100 =>
  ldK h95 (q41.add 2) fun v101 =>
  gSlice v101 fun a_102 l_102 c_102 =>
  ldK h95 (q41.add 3) fun v103 =>
  gInt .i64 v103 fun x_104 =>
  ldK h95 (q41.add 4) fun v105 =>
  gSlice v105 fun a_106 l_106 c_106 =>
  ldK h95 (q64.add 0) fun v107 =>
  gInt .i64 v107 fun x_108 =>
  ldK h95 (q64.add 1) fun v109 =>
  gSlice v109 fun a_110 l_110 c_110 =>
  ldK h95 (q64.add 2) fun v111 =>
  gSlice v111 fun a_112 l_112 c_112 =>
  ldK h95 (q64.add 3) fun v113 =>
  gInt .i64 v113 fun x_114 =>
  ldK h95 (q64.add 4) fun v115 =>
  gSlice v115 fun a_116 l_116 c_116 =>
  HC gnomonlaw02_keeps.id #[.agg #[.int .i64 x_98, .slice a_100 l_100 c_100, .slice a_102 l_102 c_102, .int .i64 x_104, .slice a_106 l_106 c_106], .agg #[.int .i64 x_108, .slice a_110 l_110 c_110, .slice a_112 l_112 c_112, .int .i64 x_114, .slice a_116 l_116 c_116]] h95 fun v117 h118 =>
  gBool v117 fun b_119 =>
  cond (!b_119) (R (.bool false) h118) (ldK h118 (q41.add 0) fun v120 =>
  gInt .i64 v120 fun x_121 =>
  ldK h118 (q41.add 1) fun v122 =>
  gSlice v122 fun a_123 l_123 c_123 =>
  ldK h118 (q41.add 2) fun v124 =>
  gSlice v124 fun a_125 l_125 c_125 =>
  ldK h118 (q41.add 3) fun v126 =>
  gInt .i64 v126 fun x_127 =>
  ldK h118 (q41.add 4) fun v128 =>
  gSlice v128 fun a_129 l_129 c_129 =>
  stK h118 (q3.add 0) (.int .i64 x_121) fun h130 =>
  stK h130 (q3.add 1) (.slice a_123 l_123 c_123) fun h131 =>
  stK h131 (q3.add 2) (.slice a_125 l_125 c_125) fun h132 =>
  stK h132 (q3.add 3) (.int .i64 x_127) fun h133 =>
  stK h133 (q3.add 4) (.slice a_129 l_129 c_129) fun h134 =>
  letK (IntKind.i64.wrap (x21 + 1)) fun n135 =>
  N4 q3 a19 l19 c19 x20 n135 h134))))) (D2.t R h)
def D5.g (R : Rt) (N4 : Addr → Option Addr → Nat → Nat → Int → Int → Hp → Prop) (fr : Fr) (h : Hp) : Prop := gPtrS (fr 3) fun q3 => gSlice (fr 19) fun a19 l19 c19 => gInt .i64 (fr 20) fun x20 => gInt .i64 (fr 21) fun x21 => D5.t R N4 q3 a19 l19 c19 x20 x21 h
theorem D5.ok (R : Rt) (N4 : Addr → Option Addr → Nat → Nat → Int → Int → Hp → Prop) (fr : Fr) (h : Hp) (g : D5.g R N4 fr h) : den prog E (cAt C [true, true, true, false, true, false, false]) (Ex.then (L4.g N4) (Ex.inBlock 0 (Ex.then (D2.g R) (retQ E [.tmp 2] R)))) fr h := by
  obtain ⟨q3, e3, g⟩ := gPtrS_elim g
  obtain ⟨a19, l19, c19, e19, g⟩ := gSlice_elim g
  obtain ⟨x20, e20, g⟩ := gInt_elim g
  obtain ⟨x21, e21, g⟩ := gInt_elim g
  exact den_enter [(3, .pointer (some q3)), (19, .slice a19 l19 c19), (20, .int .i64 x20), (21, .int .i64 x21)] ⟨e3, e19, e20, e21, trivial⟩ (by kernel_rfl) g
def L4.t (R : Rt) : Nat → Addr → Option Addr → Nat → Nat → Int → Int → Hp → Prop
  | 0 => fun _ _ _ _ _ _ _ => False
  | n + 1 => fun q3 a19 l19 c19 x20 x21 h => D5.t R (L4.t R n) q3 a19 l19 c19 x20 x21 h
theorem L4.ok (R : Rt) (fr : Fr) (h : Hp) (g : L4.g (fun q3 a19 l19 c19 x20 x21 h => ∃ n, L4.t R n q3 a19 l19 c19 x20 x21 h) fr h) : den prog E (cAt C [true, true, true, false, true, false]) (Ex.inBlock 0 (Ex.then (D2.g R) (retQ E [.tmp 2] R))) fr h := by
  obtain ⟨q3, e3, g⟩ := gPtrS_elim g
  obtain ⟨a19, l19, c19, e19, g⟩ := gSlice_elim g
  obtain ⟨x20, e20, g⟩ := gInt_elim g
  obtain ⟨x21, e21, g⟩ := gInt_elim g
  obtain ⟨n, g⟩ := g
  refine loop_ok (fun n => L4.g (L4.t R n)) (b := (cAt C [true, true, true, false, true, false, false])) (by kernel_rfl) (fun fr h g => ?_) (fun n => D5.ok R (L4.t R n)) n fr h (gPtrS_intro e3 (gSlice_intro e19 (gInt_intro e20 (gInt_intro e21 (g)))))
  obtain ⟨q3, e3, g⟩ := gPtrS_elim g
  obtain ⟨a19, l19, c19, e19, g⟩ := gSlice_elim g
  obtain ⟨x20, e20, g⟩ := gInt_elim g
  obtain ⟨x21, e21, g⟩ := gInt_elim g
  exact g
theorem B6.ok (R : Rt) (fr : Fr) (h : Hp) (g : L4.g (fun q3 a19 l19 c19 x20 x21 h => ∃ n, L4.t R n q3 a19 l19 c19 x20 x21 h) fr h) : den prog E (cAt C [true, true, true, false, true]) (Ex.then (D2.g R) (retQ E [.tmp 2] R)) fr h :=
  den_block (by kernel_rfl) (L4.ok R fr h g)
def D3.t (R : Rt) (a0 : Option Addr) (l0 : Nat) (c0 : Nat) (q3 : Addr) (h : Hp) : Prop :=
  (∃ n, L4.t R n q3 a0 l0 c0 (((l0 : Nat) : Int)) 0 h)
def D3.g (R : Rt) (fr : Fr) (h : Hp) : Prop := gSlice (fr 0) fun a0 l0 c0 => gPtrS (fr 3) fun q3 => D3.t R a0 l0 c0 q3 h
theorem D3.ok (R : Rt) (fr : Fr) (h : Hp) (g : D3.g R fr h) : den prog E (cAt C [true, true, true, false]) (Ex.then (D2.g R) (retQ E [.tmp 2] R)) fr h := by
  obtain ⟨a0, l0, c0, e0, g⟩ := gSlice_elim g
  obtain ⟨q3, e3, g⟩ := gPtrS_elim g
  exact den_cut 1 (r := (cAt C [true, true, true, false, true])) (by kernel_rfl) (B6.ok R) (den_enter [(0, .slice a0 l0 c0), (3, .pointer (some q3))] ⟨e0, e3, trivial⟩ (by kernel_rfl) g)
theorem W7.ok (R : Rt) (fr : Fr) (h : Hp) (g : D3.g R fr h) : den prog E (cAt C [true, true, true]) (retQ E [.tmp 2] R) fr h :=
  den_then (by kernel_rfl) (D2.ok R) (D3.ok R fr h g)
def D1.t (R : Rt) (a0 : Option Addr) (l0 : Nat) (c0 : Nat) (h : Hp) : Prop :=
  boxK h 28 [.int .u64 18446744073709551615, .int .u64 3] fun q1 h2 =>
  boxK h2 28 [.int .u64 7] fun q3 h4 =>
  boxK h4 52 T52.zs fun q5 h6 =>
  stK h6 (q5.add 0) (.int .i64 1) fun h7 =>
  stK h7 (q5.add 1) (.slice (some q1) 2 2) fun h8 =>
  stK h8 (q5.add 2) (.slice (some q3) 1 1) fun h9 =>
  stK h9 (q5.add 3) (.int .i64 0) fun h10 =>
  stK h10 (q5.add 4) (.slice none 0 0) fun h11 =>
  HC gnomonlaw02_awake.id #[] h11 fun v12 h13 =>
  gBool v12 fun b_14 =>
  cond (!b_14) (R (.bool false) h13) (ldK h13 (q5.add 0) fun v15 =>
  gInt .i64 v15 fun x_16 =>
  ldK h13 (q5.add 1) fun v17 =>
  gSlice v17 fun a_18 l_18 c_18 =>
  ldK h13 (q5.add 2) fun v19 =>
  gSlice v19 fun a_20 l_20 c_20 =>
  ldK h13 (q5.add 3) fun v21 =>
  gInt .i64 v21 fun x_22 =>
  ldK h13 (q5.add 4) fun v23 =>
  gSlice v23 fun a_24 l_24 c_24 =>
  boxK h13 28 [.int .u64 9, .int .u64 9] fun q25 h26 =>
  HC gnomonlaw02_keeps.id #[.agg #[.int .i64 x_16, .slice a_18 l_18 c_18, .slice a_20 l_20 c_20, .int .i64 x_22, .slice a_24 l_24 c_24], .agg #[.int .i64 2, .slice (some q25) 2 2, .slice none 0 0, .int .i64 0, .slice none 0 0]] h26 fun v27 h28 =>
  gBool v27 fun b_29 =>
  cond (!b_29) (R (.bool false) h28) (D3.t R a0 l0 c0 q5 h28))
def D1.g (R : Rt) (fr : Fr) (h : Hp) : Prop := gSlice (fr 0) fun a0 l0 c0 => D1.t R a0 l0 c0 h
theorem D1.ok (R : Rt) (fr : Fr) (h : Hp) (g : D1.g R fr h) : den prog E C (retQ E [.tmp 2] R) fr h := by
  obtain ⟨a0, l0, c0, e0, g⟩ := gSlice_elim g
  exact den_cut 3 (r := (cAt C [true, true, true])) (by kernel_rfl) (W7.ok R) (den_enter [(0, .slice a0 l0 c0)] ⟨e0, trivial⟩ (by kernel_rfl) g)
def t (a0 : Option Addr) (l0 : Nat) (c0 : Nat) (h : Hp) (R : Rt) : Prop := D1.t R a0 l0 c0 h
theorem ok {a0 : Option Addr} {l0 : Nat} {c0 : Nat} {h : Hp} {R : Rt} (g : t a0 l0 c0 h R) : HC id #[.slice a0 l0 c0] h R :=
  calls_of_den' envOk (c := C) (rs := [.tmp 2]) Try.func11 (by kernel_rfl) (by kernel_rfl) (by kernel_rfl) (args := [.slice a0 l0 c0]) (by kernel_rfl) (D1.ok R _ h (gSlice_intro rfl (g)))
end gnomonlaw02_NatmulKeeps

namespace gnomonlaw02_NatmulJoins
noncomputable def C : Code := bodyOf Try.f12
def D6.t (R : Rt) (x2 : Int) (a7 : Option Addr) (l7 : Nat) (c7 : Nat) (a9 : Option Addr) (l9 : Nat) (c9 : Nat) (a11 : Option Addr) (l11 : Nat) (c11 : Nat) (a12 : Option Addr) (l12 : Nat) (c12 : Nat) (a13 : Option Addr) (l13 : Nat) (c13 : Nat) (h : Hp) : Prop :=
  HC gnomonlaw02_crossed.id #[.slice a7 l7 c7, .slice a9 l9 c9, .int .i64 x2, .slice a11 l11 c11, .slice a12 l12 c12, .slice a13 l13 c13] h fun v99 h100 =>
  gBool v99 fun b_101 =>
  R (.bool b_101) h100
def D6.g (R : Rt) (fr : Fr) (h : Hp) : Prop := gInt .i64 (fr 2) fun x2 => gSlice (fr 7) fun a7 l7 c7 => gSlice (fr 9) fun a9 l9 c9 => gSlice (fr 11) fun a11 l11 c11 => gSlice (fr 12) fun a12 l12 c12 => gSlice (fr 13) fun a13 l13 c13 => D6.t R x2 a7 l7 c7 a9 l9 c9 a11 l11 c11 a12 l12 c12 a13 l13 c13 h
theorem D6.ok (R : Rt) (fr : Fr) (h : Hp) (g : D6.g R fr h) : den prog E (cAt C [true, true, true, true, true, true, true, true, true, true, true, true, true, true, true]) (retQ E [.tmp 6] R) fr h := by
  obtain ⟨x2, e2, g⟩ := gInt_elim g
  obtain ⟨a7, l7, c7, e7, g⟩ := gSlice_elim g
  obtain ⟨a9, l9, c9, e9, g⟩ := gSlice_elim g
  obtain ⟨a11, l11, c11, e11, g⟩ := gSlice_elim g
  obtain ⟨a12, l12, c12, e12, g⟩ := gSlice_elim g
  obtain ⟨a13, l13, c13, e13, g⟩ := gSlice_elim g
  exact den_enter [(2, .int .i64 x2), (7, .slice a7 l7 c7), (9, .slice a9 l9 c9), (11, .slice a11 l11 c11), (12, .slice a12 l12 c12), (13, .slice a13 l13 c13)] ⟨e2, e7, e9, e11, e12, e13, trivial⟩ (by kernel_rfl) g
def D5.t (R : Rt) (x2 : Int) (a7 : Option Addr) (l7 : Nat) (c7 : Nat) (a9 : Option Addr) (l9 : Nat) (c9 : Nat) (a11 : Option Addr) (l11 : Nat) (c11 : Nat) (a12 : Option Addr) (l12 : Nat) (c12 : Nat) (a13 : Option Addr) (l13 : Nat) (c13 : Nat) (a15 : Option Addr) (l15 : Nat) (c15 : Nat) (h : Hp) : Prop :=
  letK (IntKind.i64.wrap (64 * x2)) fun n67 =>
  HC nat_Shl.id #[.slice a12 l12 c12, .int .i64 n67] h fun v68 h69 =>
  gTup v68 fun y70 =>
  uncons y70 fun v71 y71 =>
  gSlice v71 fun a_72 l_72 c_72 =>
  uncons y71 fun v73 y73 =>
  gInt .i64 v73 fun x_74 =>
  unnil y73 <| letK (IntKind.i64.wrap (64 * x2)) fun n75 =>
  HC nat_Shl.id #[.slice a13 l13 c13, .int .i64 n75] h69 fun v76 h77 =>
  gTup v76 fun y78 =>
  uncons y78 fun v79 y79 =>
  gSlice v79 fun a_80 l_80 c_80 =>
  uncons y79 fun v81 y81 =>
  gInt .i64 v81 fun x_82 =>
  unnil y81 <| letK (IntKind.i64.wrap (64 * x2)) fun n83 =>
  HC nat_Shl.id #[.slice a_80 l_80 c_80, .int .i64 n83] h77 fun v84 h85 =>
  gTup v84 fun y86 =>
  uncons y86 fun v87 y87 =>
  gSlice v87 fun a_88 l_88 c_88 =>
  uncons y87 fun v89 y89 =>
  gInt .i64 v89 fun x_90 =>
  unnil y89 <| cond (x_74 != 0) (R (.bool false) h85) (cond (x_82 != 0) (R (.bool false) h85) (cond (x_90 != 0) (R (.bool false) h85) (HC gnomonlaw02_plus.id #[.slice a11 l11 c11, .slice a_72 l_72 c_72] h85 fun v91 h92 =>
  gSlice v91 fun a_93 l_93 c_93 =>
  HC gnomonlaw02_plus.id #[.slice a_93 l_93 c_93, .slice a_88 l_88 c_88] h92 fun v94 h95 =>
  gSlice v94 fun a_96 l_96 c_96 =>
  HQC gnomonref01_Same.id #[.slice a_96 l_96 c_96, .slice a15 l15 c15] h95 fun v97 =>
  gBool v97 fun b_98 =>
  cond (!b_98) (R (.bool false) h95) (D6.t R x2 a7 l7 c7 a9 l9 c9 a11 l11 c11 a12 l12 c12 a13 l13 c13 h95))))
def D5.g (R : Rt) (fr : Fr) (h : Hp) : Prop := gInt .i64 (fr 2) fun x2 => gSlice (fr 7) fun a7 l7 c7 => gSlice (fr 9) fun a9 l9 c9 => gSlice (fr 11) fun a11 l11 c11 => gSlice (fr 12) fun a12 l12 c12 => gSlice (fr 13) fun a13 l13 c13 => gSlice (fr 15) fun a15 l15 c15 => D5.t R x2 a7 l7 c7 a9 l9 c9 a11 l11 c11 a12 l12 c12 a13 l13 c13 a15 l15 c15 h
theorem D5.ok (R : Rt) (fr : Fr) (h : Hp) (g : D5.g R fr h) : den prog E (cAt C [true, true, true, true, true, true, true, true, true, true, true]) (retQ E [.tmp 6] R) fr h := by
  obtain ⟨x2, e2, g⟩ := gInt_elim g
  obtain ⟨a7, l7, c7, e7, g⟩ := gSlice_elim g
  obtain ⟨a9, l9, c9, e9, g⟩ := gSlice_elim g
  obtain ⟨a11, l11, c11, e11, g⟩ := gSlice_elim g
  obtain ⟨a12, l12, c12, e12, g⟩ := gSlice_elim g
  obtain ⟨a13, l13, c13, e13, g⟩ := gSlice_elim g
  obtain ⟨a15, l15, c15, e15, g⟩ := gSlice_elim g
  exact den_cut 4 (r := (cAt C [true, true, true, true, true, true, true, true, true, true, true, true, true, true, true])) (by kernel_rfl) (D6.ok R) (den_enter [(2, .int .i64 x2), (7, .slice a7 l7 c7), (9, .slice a9 l9 c9), (11, .slice a11 l11 c11), (12, .slice a12 l12 c12), (13, .slice a13 l13 c13), (15, .slice a15 l15 c15)] ⟨e2, e7, e9, e11, e12, e13, e15, trivial⟩ (by kernel_rfl) g)
def D4.t (R : Rt) (x2 : Int) (a7 : Option Addr) (l7 : Nat) (c7 : Nat) (a9 : Option Addr) (l9 : Nat) (c9 : Nat) (a11 : Option Addr) (l11 : Nat) (c11 : Nat) (a12 : Option Addr) (l12 : Nat) (c12 : Nat) (a13 : Option Addr) (l13 : Nat) (c13 : Nat) (x14 : Int) (h : Hp) : Prop :=
  HC natmul_Mul.id #[.slice a7 l7 c7, .slice a9 l9 c9] h fun v56 h57 =>
  gTup v56 fun y58 =>
  uncons y58 fun v59 y59 =>
  gSlice v59 fun a_60 l_60 c_60 =>
  uncons y59 fun v61 y61 =>
  gInt .i64 v61 fun x_62 =>
  unnil y61 <| cond (x_62 != 0) (cond (x14 == 0) (R (.bool true) h57) (R (.bool (x14 == 5)) h57)) (cond (x14 != 0) (R (.bool false) h57) (HC nat_Bits.id #[.slice a11 l11 c11] h57 fun v63 h64 =>
  gInt .i64 v63 fun x_65 =>
  letK (IntKind.i64.wrap (128 * x2)) fun n66 =>
  cond (decide (x_65 > n66)) (R (.bool false) h64) (D5.t R x2 a7 l7 c7 a9 l9 c9 a11 l11 c11 a12 l12 c12 a13 l13 c13 a_60 l_60 c_60 h64)))
def D4.g (R : Rt) (fr : Fr) (h : Hp) : Prop := gInt .i64 (fr 2) fun x2 => gSlice (fr 7) fun a7 l7 c7 => gSlice (fr 9) fun a9 l9 c9 => gSlice (fr 11) fun a11 l11 c11 => gSlice (fr 12) fun a12 l12 c12 => gSlice (fr 13) fun a13 l13 c13 => gInt .i64 (fr 14) fun x14 => D4.t R x2 a7 l7 c7 a9 l9 c9 a11 l11 c11 a12 l12 c12 a13 l13 c13 x14 h
theorem D4.ok (R : Rt) (fr : Fr) (h : Hp) (g : D4.g R fr h) : den prog E (cAt C [true, true, true, true, true, true, true, true]) (retQ E [.tmp 6] R) fr h := by
  obtain ⟨x2, e2, g⟩ := gInt_elim g
  obtain ⟨a7, l7, c7, e7, g⟩ := gSlice_elim g
  obtain ⟨a9, l9, c9, e9, g⟩ := gSlice_elim g
  obtain ⟨a11, l11, c11, e11, g⟩ := gSlice_elim g
  obtain ⟨a12, l12, c12, e12, g⟩ := gSlice_elim g
  obtain ⟨a13, l13, c13, e13, g⟩ := gSlice_elim g
  obtain ⟨x14, e14, g⟩ := gInt_elim g
  exact den_cut 3 (r := (cAt C [true, true, true, true, true, true, true, true, true, true, true])) (by kernel_rfl) (D5.ok R) (den_enter [(2, .int .i64 x2), (7, .slice a7 l7 c7), (9, .slice a9 l9 c9), (11, .slice a11 l11 c11), (12, .slice a12 l12 c12), (13, .slice a13 l13 c13), (14, .int .i64 x14)] ⟨e2, e7, e9, e11, e12, e13, e14, trivial⟩ (by kernel_rfl) g)
def D3.t (R : Rt) (x2 : Int) (a7 : Option Addr) (l7 : Nat) (c7 : Nat) (a9 : Option Addr) (l9 : Nat) (c9 : Nat) (h : Hp) : Prop :=
  HC natmul_Parts.id #[.slice a7 l7 c7, .slice a9 l9 c9, .int .i64 x2] h fun v45 h46 =>
  gTup v45 fun y47 =>
  uncons y47 fun v48 y48 =>
  gSlice v48 fun a_49 l_49 c_49 =>
  uncons y48 fun v50 y50 =>
  gSlice v50 fun a_51 l_51 c_51 =>
  uncons y50 fun v52 y52 =>
  gSlice v52 fun a_53 l_53 c_53 =>
  uncons y52 fun v54 y54 =>
  gInt .i64 v54 fun x_55 =>
  unnil y54 <| cond (decide (x2 < 1)) (cond (x_55 == 1) (cond ((((l_49 : Nat) : Int)) == 0) (cond ((((l_51 : Nat) : Int)) == 0) (R (.bool ((((l_53 : Nat) : Int)) == 0)) h46) (R (.bool false) h46)) (R (.bool false) h46)) (R (.bool false) h46)) (cond (decide (x2 > 8192)) (cond (x_55 == 1) (cond ((((l_49 : Nat) : Int)) == 0) (cond ((((l_51 : Nat) : Int)) == 0) (R (.bool ((((l_53 : Nat) : Int)) == 0)) h46) (R (.bool false) h46)) (R (.bool false) h46)) (R (.bool false) h46)) (D4.t R x2 a7 l7 c7 a9 l9 c9 a_49 l_49 c_49 a_51 l_51 c_51 a_53 l_53 c_53 x_55 h46))
def D3.g (R : Rt) (fr : Fr) (h : Hp) : Prop := gInt .i64 (fr 2) fun x2 => gSlice (fr 7) fun a7 l7 c7 => gSlice (fr 9) fun a9 l9 c9 => D3.t R x2 a7 l7 c7 a9 l9 c9 h
theorem D3.ok (R : Rt) (fr : Fr) (h : Hp) (g : D3.g R fr h) : den prog E (cAt C [true, true, true, true, true, true]) (retQ E [.tmp 6] R) fr h := by
  obtain ⟨x2, e2, g⟩ := gInt_elim g
  obtain ⟨a7, l7, c7, e7, g⟩ := gSlice_elim g
  obtain ⟨a9, l9, c9, e9, g⟩ := gSlice_elim g
  exact den_cut 2 (r := (cAt C [true, true, true, true, true, true, true, true])) (by kernel_rfl) (D4.ok R) (den_enter [(2, .int .i64 x2), (7, .slice a7 l7 c7), (9, .slice a9 l9 c9)] ⟨e2, e7, e9, trivial⟩ (by kernel_rfl) g)
def D2.t (R : Rt) (x2 : Int) (a7 : Option Addr) (l7 : Nat) (c7 : Nat) (b8 : Bool) (a9 : Option Addr) (l9 : Nat) (c9 : Nat) (b10 : Bool) (h : Hp) : Prop :=
  cond (!b8) (R (.bool true) h) (cond (!b10) (R (.bool true) h) (D3.t R x2 a7 l7 c7 a9 l9 c9 h))
def D2.g (R : Rt) (fr : Fr) (h : Hp) : Prop := gInt .i64 (fr 2) fun x2 => gSlice (fr 7) fun a7 l7 c7 => gBool (fr 8) fun b8 => gSlice (fr 9) fun a9 l9 c9 => gBool (fr 10) fun b10 => D2.t R x2 a7 l7 c7 b8 a9 l9 c9 b10 h
theorem D2.ok (R : Rt) (fr : Fr) (h : Hp) (g : D2.g R fr h) : den prog E (cAt C [true, true, true, true, true]) (retQ E [.tmp 6] R) fr h := by
  obtain ⟨x2, e2, g⟩ := gInt_elim g
  obtain ⟨a7, l7, c7, e7, g⟩ := gSlice_elim g
  obtain ⟨b8, e8, g⟩ := gBool_elim g
  obtain ⟨a9, l9, c9, e9, g⟩ := gSlice_elim g
  obtain ⟨b10, e10, g⟩ := gBool_elim g
  exact den_cut 1 (r := (cAt C [true, true, true, true, true, true])) (by kernel_rfl) (D3.ok R) (den_enter [(2, .int .i64 x2), (7, .slice a7 l7 c7), (8, .bool b8), (9, .slice a9 l9 c9), (10, .bool b10)] ⟨e2, e7, e8, e9, e10, trivial⟩ (by kernel_rfl) g)
def D1.t (R : Rt) (a0 : Option Addr) (l0 : Nat) (c0 : Nat) (a1 : Option Addr) (l1 : Nat) (c1 : Nat) (x2 : Int) (h : Hp) : Prop :=
  HC gnomonlaw02_norm.id #[.slice a0 l0 c0] h fun v1 h2 =>
  gTup v1 fun y3 =>
  uncons y3 fun v4 y4 =>
  gSlice v4 fun a_5 l_5 c_5 =>
  uncons y4 fun v6 y6 =>
  gBool v6 fun b_7 =>
  unnil y6 <| HC gnomonlaw02_norm.id #[.slice a1 l1 c1] h2 fun v8 h9 =>
  gTup v8 fun y10 =>
  uncons y10 fun v11 y11 =>
  gSlice v11 fun a_12 l_12 c_12 =>
  uncons y11 fun v13 y13 =>
  gBool v13 fun b_14 =>
  unnil y13 <| boxK h9 28 [.int .u64 1, .int .u64 2, .int .u64 3] fun q15 h16 =>
  boxK h16 28 [.int .u64 4, .int .u64 5] fun q17 h18 =>
  HC natmul_Parts.id #[.slice (some q15) 3 3, .slice (some q17) 2 2, .int .i64 1] h18 fun v19 h20 =>
  gTup v19 fun y21 =>
  uncons y21 fun v22 y22 =>
  gSlice v22 fun a_23 l_23 c_23 =>
  uncons y22 fun v24 y24 =>
  gSlice v24 fun a_25 l_25 c_25 =>
  uncons y24 fun v26 y26 =>
  gSlice v26 fun a_27 l_27 c_27 =>
  uncons y26 fun v28 y28 =>
  gInt .i64 v28 fun x_29 =>
  unnil y28 <| cond (x_29 != 0) (R (.bool false) h20) (boxK h20 28 [.int .u64 4] fun q30 h31 =>
  HQC gnomonref01_Same.id #[.slice a_23 l_23 c_23, .slice (some q30) 1 1] h31 fun v32 =>
  gBool v32 fun b_33 =>
  cond (!b_33) (R (.bool false) h31) (boxK h31 28 [.int .u64 13, .int .u64 12] fun q34 h35 =>
  HQC gnomonref01_Same.id #[.slice a_25 l_25 c_25, .slice (some q34) 2 2] h35 fun v36 =>
  gBool v36 fun b_37 =>
  cond (!b_37) (R (.bool false) h35) (boxK h35 28 [.int .u64 10, .int .u64 15] fun q38 h39 =>
  HQC gnomonref01_Same.id #[.slice a_27 l_27 c_27, .slice (some q38) 2 2] h39 fun v40 =>
  gBool v40 fun b_41 =>
  cond (!b_41) (R (.bool false) h39) (HC gnomonlaw02_awake.id #[] h39 fun v42 h43 =>
  gBool v42 fun b_44 =>
  cond (!b_44) (R (.bool false) h43) (D2.t R x2 a_5 l_5 c_5 b_7 a_12 l_12 c_12 b_14 h43)))))
def D1.g (R : Rt) (fr : Fr) (h : Hp) : Prop := gSlice (fr 0) fun a0 l0 c0 => gSlice (fr 1) fun a1 l1 c1 => gInt .i64 (fr 2) fun x2 => D1.t R a0 l0 c0 a1 l1 c1 x2 h
theorem D1.ok (R : Rt) (fr : Fr) (h : Hp) (g : D1.g R fr h) : den prog E C (retQ E [.tmp 6] R) fr h := by
  obtain ⟨a0, l0, c0, e0, g⟩ := gSlice_elim g
  obtain ⟨a1, l1, c1, e1, g⟩ := gSlice_elim g
  obtain ⟨x2, e2, g⟩ := gInt_elim g
  exact den_cut 5 (r := (cAt C [true, true, true, true, true])) (by kernel_rfl) (D2.ok R) (den_enter [(0, .slice a0 l0 c0), (1, .slice a1 l1 c1), (2, .int .i64 x2)] ⟨e0, e1, e2, trivial⟩ (by kernel_rfl) g)
def t (a0 : Option Addr) (l0 : Nat) (c0 : Nat) (a1 : Option Addr) (l1 : Nat) (c1 : Nat) (x2 : Int) (h : Hp) (R : Rt) : Prop := D1.t R a0 l0 c0 a1 l1 c1 x2 h
theorem ok {a0 : Option Addr} {l0 : Nat} {c0 : Nat} {a1 : Option Addr} {l1 : Nat} {c1 : Nat} {x2 : Int} {h : Hp} {R : Rt} (g : t a0 l0 c0 a1 l1 c1 x2 h R) : HC id #[.slice a0 l0 c0, .slice a1 l1 c1, .int .i64 x2] h R :=
  calls_of_den' envOk (c := C) (rs := [.tmp 6]) Try.func12 (by kernel_rfl) (by kernel_rfl) (by kernel_rfl) (args := [.slice a0 l0 c0, .slice a1 l1 c1, .int .i64 x2]) (by kernel_rfl) (D1.ok R _ h (gSlice_intro rfl (gSlice_intro rfl (gInt_intro rfl (g)))))
end gnomonlaw02_NatmulJoins

namespace gnomonlaw02_awake
noncomputable def C : Code := bodyOf Try.f13
def D1.t (R : Rt)  (h : Hp) : Prop :=
  boxK h 28 [.int .u64 18446744073709551615] fun q1 h2 =>
  boxK h2 28 [.int .u64 18446744073709551615] fun q3 h4 =>
  HC natmul_Mul.id #[.slice (some q1) 1 1, .slice (some q3) 1 1] h4 fun v5 h6 =>
  gTup v5 fun y7 =>
  uncons y7 fun v8 y8 =>
  gSlice v8 fun a_9 l_9 c_9 =>
  uncons y8 fun v10 y10 =>
  gInt .i64 v10 fun x_11 =>
  unnil y10 <| boxK h6 28 [.int .u64 0, .int .u64 1] fun q12 h13 =>
  HC natmul_Sqr.id #[.slice (some q12) 2 2] h13 fun v14 h15 =>
  gTup v14 fun y16 =>
  uncons y16 fun v17 y17 =>
  gSlice v17 fun a_18 l_18 c_18 =>
  uncons y17 fun v19 y19 =>
  gInt .i64 v19 fun x_20 =>
  unnil y19 <| boxK h15 28 [.int .u64 1, .int .u64 18446744073709551614] fun q21 h22 =>
  HC gnomonlaw02_told.id #[.slice a_9 l_9 c_9, .int .i64 x_11, .slice (some q21) 2 2, .int .i64 0] h22 fun v23 h24 =>
  gBool v23 fun b_25 =>
  cond b_25 (boxK h24 28 [.int .u64 0, .int .u64 0, .int .u64 1] fun q26 h27 =>
  HC gnomonlaw02_told.id #[.slice a_18 l_18 c_18, .int .i64 x_20, .slice (some q26) 3 3, .int .i64 0] h27 fun v28 h29 =>
  gBool v28 fun b_30 =>
  R (.bool b_30) h29) (R (.bool false) h24)
def D1.g (R : Rt) (fr : Fr) (h : Hp) : Prop := D1.t R  h
theorem D1.ok (R : Rt) (fr : Fr) (h : Hp) (g : D1.g R fr h) : den prog E C (retQ E [.tmp 0] R) fr h := by
  exact den_enter [] trivial (by kernel_rfl) g
def t  (h : Hp) (R : Rt) : Prop := D1.t R h
theorem ok  {h : Hp} {R : Rt} (g : t  h R) : HC id #[] h R :=
  calls_of_den' envOk (c := C) (rs := [.tmp 0]) Try.func13 (by kernel_rfl) (by kernel_rfl) (by kernel_rfl) (args := []) (by kernel_rfl) (D1.ok R _ h (g))
end gnomonlaw02_awake

namespace gnomonref02_DocProduct
noncomputable def C : Code := bodyOf Try.f14
def D4.t (R : Rt) (a7 : Option Addr) (l7 : Nat) (c7 : Nat) (h : Hp) : Prop :=
  HC gnomonref01_Told.id #[.slice a7 l7 c7] h fun v7 h8 =>
  gTup v7 fun y9 =>
  uncons y9 fun v10 y10 =>
  gSlice v10 fun a_11 l_11 c_11 =>
  uncons y10 fun v12 y12 =>
  gInt .i64 v12 fun x_13 =>
  unnil y12 <| R (.tuple #[.slice a_11 l_11 c_11, .int .i64 x_13]) h8
def D4.g (R : Rt) (fr : Fr) (h : Hp) : Prop := gSlice (fr 7) fun a7 l7 c7 => D4.t R a7 l7 c7 h
theorem D4.ok (R : Rt) (fr : Fr) (h : Hp) (g : D4.g R fr h) : den prog E (cAt C [true, true, true, true, true, true, true]) (retQ E [.tmp 2, .tmp 3] R) fr h := by
  obtain ⟨a7, l7, c7, e7, g⟩ := gSlice_elim g
  exact den_enter [(7, .slice a7 l7 c7)] ⟨e7, trivial⟩ (by kernel_rfl) g
def L6.g (N : Option Addr → Nat → Nat → Option Addr → Nat → Nat → Int → Hp → Prop) (fr : Fr) (h : Hp) : Prop := gSlice (fr 0) fun a0 l0 c0 => gSlice (fr 7) fun a7 l7 c7 => gInt .i64 (fr 8) fun x8 => N a0 l0 c0 a7 l7 c7 x8 h
def D7.t (R : Rt) (N6 : Option Addr → Nat → Nat → Option Addr → Nat → Nat → Int → Hp → Prop) (a0 : Option Addr) (l0 : Nat) (c0 : Nat) (a7 : Option Addr) (l7 : Nat) (c7 : Nat) (x8 : Int) (h : Hp) : Prop :=
  cond (decide (x8 < (((l0 : Nat) : Int)))) (idxK a0 l0 x8 1 fun q14 =>
  ldK h q14 fun v15 =>
  gSlice v15 fun a_16 l_16 c_16 =>
  HC gnomonref01_From.id #[.slice a_16 l_16 c_16] h fun v17 h18 =>
  gSlice v17 fun a_19 l_19 c_19 =>
  HC gnomonref01_Word.id #[.int .u64 1] h18 fun v20 h21 =>
  gSlice v20 fun a_22 l_22 c_22 =>
  HC gnomonref01_Cmp.id #[.slice a_19 l_19 c_19, .slice a_22 l_22 c_22] h21 fun v23 h24 =>
  gInt .i64 v23 fun x_25 =>
  cond (x_25 != 0) (HC gnomonref01_Mul.id #[.slice a7 l7 c7, .slice a_19 l_19 c_19] h24 fun v26 h27 =>
  gSlice v26 fun a_28 l_28 c_28 =>
  letK (IntKind.i64.wrap (x8 + 1)) fun n29 =>
  N6 a0 l0 c0 a_28 l_28 c_28 n29 h27) (letK (IntKind.i64.wrap (x8 + 1)) fun n30 =>
  N6 a0 l0 c0 a7 l7 c7 n30 h24)) (D4.t R a7 l7 c7 h)
def D7.g (R : Rt) (N6 : Option Addr → Nat → Nat → Option Addr → Nat → Nat → Int → Hp → Prop) (fr : Fr) (h : Hp) : Prop := gSlice (fr 0) fun a0 l0 c0 => gSlice (fr 7) fun a7 l7 c7 => gInt .i64 (fr 8) fun x8 => D7.t R N6 a0 l0 c0 a7 l7 c7 x8 h
theorem D7.ok (R : Rt) (N6 : Option Addr → Nat → Nat → Option Addr → Nat → Nat → Int → Hp → Prop) (fr : Fr) (h : Hp) (g : D7.g R N6 fr h) : den prog E (cAt C [true, true, true, true, true, true, false, true, false, false]) (Ex.then (L6.g N6) (Ex.inBlock 4 (Ex.then (D4.g R) (retQ E [.tmp 2, .tmp 3] R)))) fr h := by
  obtain ⟨a0, l0, c0, e0, g⟩ := gSlice_elim g
  obtain ⟨a7, l7, c7, e7, g⟩ := gSlice_elim g
  obtain ⟨x8, e8, g⟩ := gInt_elim g
  exact den_enter [(0, .slice a0 l0 c0), (7, .slice a7 l7 c7), (8, .int .i64 x8)] ⟨e0, e7, e8, trivial⟩ (by kernel_rfl) g
def L6.t (R : Rt) : Nat → Option Addr → Nat → Nat → Option Addr → Nat → Nat → Int → Hp → Prop
  | 0 => fun _ _ _ _ _ _ _ _ => False
  | n + 1 => fun a0 l0 c0 a7 l7 c7 x8 h => D7.t R (L6.t R n) a0 l0 c0 a7 l7 c7 x8 h
theorem L6.ok (R : Rt) (fr : Fr) (h : Hp) (g : L6.g (fun a0 l0 c0 a7 l7 c7 x8 h => ∃ n, L6.t R n a0 l0 c0 a7 l7 c7 x8 h) fr h) : den prog E (cAt C [true, true, true, true, true, true, false, true, false]) (Ex.inBlock 4 (Ex.then (D4.g R) (retQ E [.tmp 2, .tmp 3] R))) fr h := by
  obtain ⟨a0, l0, c0, e0, g⟩ := gSlice_elim g
  obtain ⟨a7, l7, c7, e7, g⟩ := gSlice_elim g
  obtain ⟨x8, e8, g⟩ := gInt_elim g
  obtain ⟨n, g⟩ := g
  refine loop_ok (fun n => L6.g (L6.t R n)) (b := (cAt C [true, true, true, true, true, true, false, true, false, false])) (by kernel_rfl) (fun fr h g => ?_) (fun n => D7.ok R (L6.t R n)) n fr h (gSlice_intro e0 (gSlice_intro e7 (gInt_intro e8 (g))))
  obtain ⟨a0, l0, c0, e0, g⟩ := gSlice_elim g
  obtain ⟨a7, l7, c7, e7, g⟩ := gSlice_elim g
  obtain ⟨x8, e8, g⟩ := gInt_elim g
  exact g
theorem B8.ok (R : Rt) (fr : Fr) (h : Hp) (g : L6.g (fun a0 l0 c0 a7 l7 c7 x8 h => ∃ n, L6.t R n a0 l0 c0 a7 l7 c7 x8 h) fr h) : den prog E (cAt C [true, true, true, true, true, true, false, true]) (Ex.then (D4.g R) (retQ E [.tmp 2, .tmp 3] R)) fr h :=
  den_block (by kernel_rfl) (L6.ok R fr h g)
def D5.t (R : Rt) (a0 : Option Addr) (l0 : Nat) (c0 : Nat) (a7 : Option Addr) (l7 : Nat) (c7 : Nat) (h : Hp) : Prop :=
  (∃ n, L6.t R n a0 l0 c0 a7 l7 c7 0 h)
def D5.g (R : Rt) (fr : Fr) (h : Hp) : Prop := gSlice (fr 0) fun a0 l0 c0 => gSlice (fr 7) fun a7 l7 c7 => D5.t R a0 l0 c0 a7 l7 c7 h
theorem D5.ok (R : Rt) (fr : Fr) (h : Hp) (g : D5.g R fr h) : den prog E (cAt C [true, true, true, true, true, true, false]) (Ex.then (D4.g R) (retQ E [.tmp 2, .tmp 3] R)) fr h := by
  obtain ⟨a0, l0, c0, e0, g⟩ := gSlice_elim g
  obtain ⟨a7, l7, c7, e7, g⟩ := gSlice_elim g
  exact den_cut 1 (r := (cAt C [true, true, true, true, true, true, false, true])) (by kernel_rfl) (B8.ok R) (den_enter [(0, .slice a0 l0 c0), (7, .slice a7 l7 c7)] ⟨e0, e7, trivial⟩ (by kernel_rfl) g)
theorem W9.ok (R : Rt) (fr : Fr) (h : Hp) (g : D5.g R fr h) : den prog E (cAt C [true, true, true, true, true, true]) (retQ E [.tmp 2, .tmp 3] R) fr h :=
  den_then (by kernel_rfl) (D4.ok R) (D5.ok R fr h g)
def D3.t (R : Rt) (a0 : Option Addr) (l0 : Nat) (c0 : Nat) (x5 : Int) (h : Hp) : Prop :=
  HC gnomonref02_least.id #[.int .i64 x5] h fun v1 h2 =>
  gInt .i64 v1 fun x_3 =>
  cond (decide (x_3 > 8192)) (R (.tuple #[.slice none 0 0, .int .i64 5]) h2) (HC gnomonref01_Word.id #[.int .u64 1] h2 fun v4 h5 =>
  gSlice v4 fun a_6 l_6 c_6 =>
  D5.t R a0 l0 c0 a_6 l_6 c_6 h5)
def D3.g (R : Rt) (fr : Fr) (h : Hp) : Prop := gSlice (fr 0) fun a0 l0 c0 => gInt .i64 (fr 5) fun x5 => D3.t R a0 l0 c0 x5 h
theorem D3.ok (R : Rt) (fr : Fr) (h : Hp) (g : D3.g R fr h) : den prog E (cAt C [true, true, true, true]) (retQ E [.tmp 2, .tmp 3] R) fr h := by
  obtain ⟨a0, l0, c0, e0, g⟩ := gSlice_elim g
  obtain ⟨x5, e5, g⟩ := gInt_elim g
  exact den_cut 2 (r := (cAt C [true, true, true, true, true, true])) (by kernel_rfl) (W9.ok R) (den_enter [(0, .slice a0 l0 c0), (5, .int .i64 x5)] ⟨e0, e5, trivial⟩ (by kernel_rfl) g)
def L11.g (N : Option Addr → Nat → Nat → Int → Int → Hp → Prop) (fr : Fr) (h : Hp) : Prop := gSlice (fr 0) fun a0 l0 c0 => gInt .i64 (fr 5) fun x5 => gInt .i64 (fr 6) fun x6 => N a0 l0 c0 x5 x6 h
def D12.t (R : Rt) (N11 : Option Addr → Nat → Nat → Int → Int → Hp → Prop) (a0 : Option Addr) (l0 : Nat) (c0 : Nat) (x5 : Int) (x6 : Int) (h : Hp) : Prop :=
  cond (decide (x6 < (((l0 : Nat) : Int)))) (idxK a0 l0 x6 1 fun q31 =>
  ldK h q31 fun v32 =>
  gSlice v32 fun a_33 l_33 c_33 =>
  cond ((((l_33 : Nat) : Int)) == 0) (R (.tuple #[.slice none 0 0, .int .i64 0]) h) (cond (decide (x5 ≤ 524288)) (idxK a0 l0 x6 1 fun q34 =>
  ldK h q34 fun v35 =>
  gSlice v35 fun a_36 l_36 c_36 =>
  HC gnomonref01_From.id #[.slice a_36 l_36 c_36] h fun v37 h38 =>
  gSlice v37 fun a_39 l_39 c_39 =>
  HC gnomonref01_Bits.id #[.slice a_39 l_39 c_39] h38 fun v40 h41 =>
  gInt .i64 v40 fun x_42 =>
  letK (IntKind.i64.wrap (x_42 - 1)) fun n43 =>
  letK (IntKind.i64.wrap (x5 + n43)) fun n44 =>
  letK (IntKind.i64.wrap (x6 + 1)) fun n45 =>
  N11 a0 l0 c0 n44 n45 h41) (letK (IntKind.i64.wrap (x6 + 1)) fun n46 =>
  N11 a0 l0 c0 x5 n46 h))) (D3.t R a0 l0 c0 x5 h)
def D12.g (R : Rt) (N11 : Option Addr → Nat → Nat → Int → Int → Hp → Prop) (fr : Fr) (h : Hp) : Prop := gSlice (fr 0) fun a0 l0 c0 => gInt .i64 (fr 5) fun x5 => gInt .i64 (fr 6) fun x6 => D12.t R N11 a0 l0 c0 x5 x6 h
theorem D12.ok (R : Rt) (N11 : Option Addr → Nat → Nat → Int → Int → Hp → Prop) (fr : Fr) (h : Hp) (g : D12.g R N11 fr h) : den prog E (cAt C [true, true, true, false, true, false, false]) (Ex.then (L11.g N11) (Ex.inBlock 2 (Ex.then (D3.g R) (retQ E [.tmp 2, .tmp 3] R)))) fr h := by
  obtain ⟨a0, l0, c0, e0, g⟩ := gSlice_elim g
  obtain ⟨x5, e5, g⟩ := gInt_elim g
  obtain ⟨x6, e6, g⟩ := gInt_elim g
  exact den_enter [(0, .slice a0 l0 c0), (5, .int .i64 x5), (6, .int .i64 x6)] ⟨e0, e5, e6, trivial⟩ (by kernel_rfl) g
def L11.t (R : Rt) : Nat → Option Addr → Nat → Nat → Int → Int → Hp → Prop
  | 0 => fun _ _ _ _ _ _ => False
  | n + 1 => fun a0 l0 c0 x5 x6 h => D12.t R (L11.t R n) a0 l0 c0 x5 x6 h
theorem L11.ok (R : Rt) (fr : Fr) (h : Hp) (g : L11.g (fun a0 l0 c0 x5 x6 h => ∃ n, L11.t R n a0 l0 c0 x5 x6 h) fr h) : den prog E (cAt C [true, true, true, false, true, false]) (Ex.inBlock 2 (Ex.then (D3.g R) (retQ E [.tmp 2, .tmp 3] R))) fr h := by
  obtain ⟨a0, l0, c0, e0, g⟩ := gSlice_elim g
  obtain ⟨x5, e5, g⟩ := gInt_elim g
  obtain ⟨x6, e6, g⟩ := gInt_elim g
  obtain ⟨n, g⟩ := g
  refine loop_ok (fun n => L11.g (L11.t R n)) (b := (cAt C [true, true, true, false, true, false, false])) (by kernel_rfl) (fun fr h g => ?_) (fun n => D12.ok R (L11.t R n)) n fr h (gSlice_intro e0 (gInt_intro e5 (gInt_intro e6 (g))))
  obtain ⟨a0, l0, c0, e0, g⟩ := gSlice_elim g
  obtain ⟨x5, e5, g⟩ := gInt_elim g
  obtain ⟨x6, e6, g⟩ := gInt_elim g
  exact g
theorem B13.ok (R : Rt) (fr : Fr) (h : Hp) (g : L11.g (fun a0 l0 c0 x5 x6 h => ∃ n, L11.t R n a0 l0 c0 x5 x6 h) fr h) : den prog E (cAt C [true, true, true, false, true]) (Ex.then (D3.g R) (retQ E [.tmp 2, .tmp 3] R)) fr h :=
  den_block (by kernel_rfl) (L11.ok R fr h g)
def D10.t (R : Rt) (a0 : Option Addr) (l0 : Nat) (c0 : Nat) (x5 : Int) (h : Hp) : Prop :=
  (∃ n, L11.t R n a0 l0 c0 x5 0 h)
def D10.g (R : Rt) (fr : Fr) (h : Hp) : Prop := gSlice (fr 0) fun a0 l0 c0 => gInt .i64 (fr 5) fun x5 => D10.t R a0 l0 c0 x5 h
theorem D10.ok (R : Rt) (fr : Fr) (h : Hp) (g : D10.g R fr h) : den prog E (cAt C [true, true, true, false]) (Ex.then (D3.g R) (retQ E [.tmp 2, .tmp 3] R)) fr h := by
  obtain ⟨a0, l0, c0, e0, g⟩ := gSlice_elim g
  obtain ⟨x5, e5, g⟩ := gInt_elim g
  exact den_cut 1 (r := (cAt C [true, true, true, false, true])) (by kernel_rfl) (B13.ok R) (den_enter [(0, .slice a0 l0 c0), (5, .int .i64 x5)] ⟨e0, e5, trivial⟩ (by kernel_rfl) g)
theorem W14.ok (R : Rt) (fr : Fr) (h : Hp) (g : D10.g R fr h) : den prog E (cAt C [true, true, true]) (retQ E [.tmp 2, .tmp 3] R) fr h :=
  den_then (by kernel_rfl) (D3.ok R) (D10.ok R fr h g)
def D2.t (R : Rt) (a0 : Option Addr) (l0 : Nat) (c0 : Nat) (h : Hp) : Prop :=
  D10.t R a0 l0 c0 1 h
def D2.g (R : Rt) (fr : Fr) (h : Hp) : Prop := gSlice (fr 0) fun a0 l0 c0 => D2.t R a0 l0 c0 h
theorem D2.ok (R : Rt) (fr : Fr) (h : Hp) (g : D2.g R fr h) : den prog E (cAt C [true, true]) (retQ E [.tmp 2, .tmp 3] R) fr h := by
  obtain ⟨a0, l0, c0, e0, g⟩ := gSlice_elim g
  exact den_cut 1 (r := (cAt C [true, true, true])) (by kernel_rfl) (W14.ok R) (den_enter [(0, .slice a0 l0 c0)] ⟨e0, trivial⟩ (by kernel_rfl) g)
def L16.g (N : Option Addr → Nat → Nat → Int → Hp → Prop) (fr : Fr) (h : Hp) : Prop := gSlice (fr 0) fun a0 l0 c0 => gInt .i64 (fr 4) fun x4 => N a0 l0 c0 x4 h
def D17.t (R : Rt) (N16 : Option Addr → Nat → Nat → Int → Hp → Prop) (a0 : Option Addr) (l0 : Nat) (c0 : Nat) (x4 : Int) (h : Hp) : Prop :=
  cond (decide (x4 < (((l0 : Nat) : Int)))) (idxK a0 l0 x4 1 fun q47 =>
  ldK h q47 fun v48 =>
  gSlice v48 fun a_49 l_49 c_49 =>
  HC gnomonref01_DocForm.id #[.slice a_49 l_49 c_49] h fun v50 h51 =>
  gBool v50 fun b_52 =>
  cond (!b_52) (R (.tuple #[.slice none 0 0, .int .i64 2]) h51) (letK (IntKind.i64.wrap (x4 + 1)) fun n53 =>
  N16 a0 l0 c0 n53 h51)) (D2.t R a0 l0 c0 h)
def D17.g (R : Rt) (N16 : Option Addr → Nat → Nat → Int → Hp → Prop) (fr : Fr) (h : Hp) : Prop := gSlice (fr 0) fun a0 l0 c0 => gInt .i64 (fr 4) fun x4 => D17.t R N16 a0 l0 c0 x4 h
theorem D17.ok (R : Rt) (N16 : Option Addr → Nat → Nat → Int → Hp → Prop) (fr : Fr) (h : Hp) (g : D17.g R N16 fr h) : den prog E (cAt C [true, false, true, false, false]) (Ex.then (L16.g N16) (Ex.inBlock 0 (Ex.then (D2.g R) (retQ E [.tmp 2, .tmp 3] R)))) fr h := by
  obtain ⟨a0, l0, c0, e0, g⟩ := gSlice_elim g
  obtain ⟨x4, e4, g⟩ := gInt_elim g
  exact den_enter [(0, .slice a0 l0 c0), (4, .int .i64 x4)] ⟨e0, e4, trivial⟩ (by kernel_rfl) g
def L16.t (R : Rt) : Nat → Option Addr → Nat → Nat → Int → Hp → Prop
  | 0 => fun _ _ _ _ _ => False
  | n + 1 => fun a0 l0 c0 x4 h => D17.t R (L16.t R n) a0 l0 c0 x4 h
theorem L16.ok (R : Rt) (fr : Fr) (h : Hp) (g : L16.g (fun a0 l0 c0 x4 h => ∃ n, L16.t R n a0 l0 c0 x4 h) fr h) : den prog E (cAt C [true, false, true, false]) (Ex.inBlock 0 (Ex.then (D2.g R) (retQ E [.tmp 2, .tmp 3] R))) fr h := by
  obtain ⟨a0, l0, c0, e0, g⟩ := gSlice_elim g
  obtain ⟨x4, e4, g⟩ := gInt_elim g
  obtain ⟨n, g⟩ := g
  refine loop_ok (fun n => L16.g (L16.t R n)) (b := (cAt C [true, false, true, false, false])) (by kernel_rfl) (fun fr h g => ?_) (fun n => D17.ok R (L16.t R n)) n fr h (gSlice_intro e0 (gInt_intro e4 (g)))
  obtain ⟨a0, l0, c0, e0, g⟩ := gSlice_elim g
  obtain ⟨x4, e4, g⟩ := gInt_elim g
  exact g
theorem B18.ok (R : Rt) (fr : Fr) (h : Hp) (g : L16.g (fun a0 l0 c0 x4 h => ∃ n, L16.t R n a0 l0 c0 x4 h) fr h) : den prog E (cAt C [true, false, true]) (Ex.then (D2.g R) (retQ E [.tmp 2, .tmp 3] R)) fr h :=
  den_block (by kernel_rfl) (L16.ok R fr h g)
def D15.t (R : Rt) (a0 : Option Addr) (l0 : Nat) (c0 : Nat) (h : Hp) : Prop :=
  (∃ n, L16.t R n a0 l0 c0 0 h)
def D15.g (R : Rt) (fr : Fr) (h : Hp) : Prop := gSlice (fr 0) fun a0 l0 c0 => D15.t R a0 l0 c0 h
theorem D15.ok (R : Rt) (fr : Fr) (h : Hp) (g : D15.g R fr h) : den prog E (cAt C [true, false]) (Ex.then (D2.g R) (retQ E [.tmp 2, .tmp 3] R)) fr h := by
  obtain ⟨a0, l0, c0, e0, g⟩ := gSlice_elim g
  exact den_cut 1 (r := (cAt C [true, false, true])) (by kernel_rfl) (B18.ok R) (den_enter [(0, .slice a0 l0 c0)] ⟨e0, trivial⟩ (by kernel_rfl) g)
theorem W19.ok (R : Rt) (fr : Fr) (h : Hp) (g : D15.g R fr h) : den prog E (cAt C [true]) (retQ E [.tmp 2, .tmp 3] R) fr h :=
  den_then (by kernel_rfl) (D2.ok R) (D15.ok R fr h g)
def D1.t (R : Rt) (a0 : Option Addr) (l0 : Nat) (c0 : Nat) (h : Hp) : Prop :=
  D15.t R a0 l0 c0 h
def D1.g (R : Rt) (fr : Fr) (h : Hp) : Prop := gSlice (fr 0) fun a0 l0 c0 => D1.t R a0 l0 c0 h
theorem D1.ok (R : Rt) (fr : Fr) (h : Hp) (g : D1.g R fr h) : den prog E C (retQ E [.tmp 2, .tmp 3] R) fr h := by
  obtain ⟨a0, l0, c0, e0, g⟩ := gSlice_elim g
  exact den_cut 1 (r := (cAt C [true])) (by kernel_rfl) (W19.ok R) (den_enter [(0, .slice a0 l0 c0)] ⟨e0, trivial⟩ (by kernel_rfl) g)
def t (a0 : Option Addr) (l0 : Nat) (c0 : Nat) (h : Hp) (R : Rt) : Prop := D1.t R a0 l0 c0 h
theorem ok {a0 : Option Addr} {l0 : Nat} {c0 : Nat} {h : Hp} {R : Rt} (g : t a0 l0 c0 h R) : HC id #[.slice a0 l0 c0] h R :=
  calls_of_den' envOk (c := C) (rs := [.tmp 2, .tmp 3]) Try.func14 (by kernel_rfl) (by kernel_rfl) (by kernel_rfl) (args := [.slice a0 l0 c0]) (by kernel_rfl) (D1.ok R _ h (gSlice_intro rfl (g)))
end gnomonref02_DocProduct

namespace gnomonlaw02_lists
noncomputable def C : Code := bodyOf Try.f15
def D2.t (R : Rt) (a3 : Option Addr) (l3 : Nat) (c3 : Nat) (h : Hp) : Prop :=
  R (.slice a3 l3 c3) h
def D2.g (R : Rt) (fr : Fr) (h : Hp) : Prop := gSlice (fr 3) fun a3 l3 c3 => D2.t R a3 l3 c3 h
theorem D2.ok (R : Rt) (fr : Fr) (h : Hp) (g : D2.g R fr h) : den prog E (cAt C [true, true, true]) (retQ E [.tmp 2] R) fr h := by
  obtain ⟨a3, l3, c3, e3, g⟩ := gSlice_elim g
  exact den_enter [(3, .slice a3 l3 c3)] ⟨e3, trivial⟩ (by kernel_rfl) g
def L4.g (N : Option Addr → Nat → Nat → Option Addr → Nat → Nat → Int → Int → Hp → Prop) (fr : Fr) (h : Hp) : Prop := gSlice (fr 3) fun a3 l3 c3 => gSlice (fr 9) fun a9 l9 c9 => gInt .i64 (fr 10) fun x10 => gInt .i64 (fr 11) fun x11 => N a3 l3 c3 a9 l9 c9 x10 x11 h
def D5.t (R : Rt) (N4 : Option Addr → Nat → Nat → Option Addr → Nat → Nat → Int → Int → Hp → Prop) (a3 : Option Addr) (l3 : Nat) (c3 : Nat) (a9 : Option Addr) (l9 : Nat) (c9 : Nat) (x10 : Int) (x11 : Int) (h : Hp) : Prop :=
  cond (decide (x11 < x10)) (idxK a9 l9 x11 1 fun q3 =>
  ldK h q3 fun v4 =>
  gSlice v4 fun a_5 l_5 c_5 =>
  HC gnomonref01_Twin.id #[.slice a_5 l_5 c_5] h fun v6 h7 =>
  gSlice v6 fun a_8 l_8 c_8 =>
  boxK h7 24 [.slice a_8 l_8 c_8] fun q9 h10 =>
  apK h10 24 T24 a3 l3 c3 (.slice (some q9) 1 1) fun a_11 l_11 c_11 h11 =>
  letK (IntKind.i64.wrap (x11 + 1)) fun n12 =>
  N4 a_11 l_11 c_11 a9 l9 c9 x10 n12 h11) (D2.t R a3 l3 c3 h)
def D5.g (R : Rt) (N4 : Option Addr → Nat → Nat → Option Addr → Nat → Nat → Int → Int → Hp → Prop) (fr : Fr) (h : Hp) : Prop := gSlice (fr 3) fun a3 l3 c3 => gSlice (fr 9) fun a9 l9 c9 => gInt .i64 (fr 10) fun x10 => gInt .i64 (fr 11) fun x11 => D5.t R N4 a3 l3 c3 a9 l9 c9 x10 x11 h
theorem D5.ok (R : Rt) (N4 : Option Addr → Nat → Nat → Option Addr → Nat → Nat → Int → Int → Hp → Prop) (fr : Fr) (h : Hp) (g : D5.g R N4 fr h) : den prog E (cAt C [true, true, false, true, false, false]) (Ex.then (L4.g N4) (Ex.inBlock 0 (Ex.then (D2.g R) (retQ E [.tmp 2] R)))) fr h := by
  obtain ⟨a3, l3, c3, e3, g⟩ := gSlice_elim g
  obtain ⟨a9, l9, c9, e9, g⟩ := gSlice_elim g
  obtain ⟨x10, e10, g⟩ := gInt_elim g
  obtain ⟨x11, e11, g⟩ := gInt_elim g
  exact den_enter [(3, .slice a3 l3 c3), (9, .slice a9 l9 c9), (10, .int .i64 x10), (11, .int .i64 x11)] ⟨e3, e9, e10, e11, trivial⟩ (by kernel_rfl) g
def L4.t (R : Rt) : Nat → Option Addr → Nat → Nat → Option Addr → Nat → Nat → Int → Int → Hp → Prop
  | 0 => fun _ _ _ _ _ _ _ _ _ => False
  | n + 1 => fun a3 l3 c3 a9 l9 c9 x10 x11 h => D5.t R (L4.t R n) a3 l3 c3 a9 l9 c9 x10 x11 h
theorem L4.ok (R : Rt) (fr : Fr) (h : Hp) (g : L4.g (fun a3 l3 c3 a9 l9 c9 x10 x11 h => ∃ n, L4.t R n a3 l3 c3 a9 l9 c9 x10 x11 h) fr h) : den prog E (cAt C [true, true, false, true, false]) (Ex.inBlock 0 (Ex.then (D2.g R) (retQ E [.tmp 2] R))) fr h := by
  obtain ⟨a3, l3, c3, e3, g⟩ := gSlice_elim g
  obtain ⟨a9, l9, c9, e9, g⟩ := gSlice_elim g
  obtain ⟨x10, e10, g⟩ := gInt_elim g
  obtain ⟨x11, e11, g⟩ := gInt_elim g
  obtain ⟨n, g⟩ := g
  refine loop_ok (fun n => L4.g (L4.t R n)) (b := (cAt C [true, true, false, true, false, false])) (by kernel_rfl) (fun fr h g => ?_) (fun n => D5.ok R (L4.t R n)) n fr h (gSlice_intro e3 (gSlice_intro e9 (gInt_intro e10 (gInt_intro e11 (g)))))
  obtain ⟨a3, l3, c3, e3, g⟩ := gSlice_elim g
  obtain ⟨a9, l9, c9, e9, g⟩ := gSlice_elim g
  obtain ⟨x10, e10, g⟩ := gInt_elim g
  obtain ⟨x11, e11, g⟩ := gInt_elim g
  exact g
theorem B6.ok (R : Rt) (fr : Fr) (h : Hp) (g : L4.g (fun a3 l3 c3 a9 l9 c9 x10 x11 h => ∃ n, L4.t R n a3 l3 c3 a9 l9 c9 x10 x11 h) fr h) : den prog E (cAt C [true, true, false, true]) (Ex.then (D2.g R) (retQ E [.tmp 2] R)) fr h :=
  den_block (by kernel_rfl) (L4.ok R fr h g)
def D3.t (R : Rt) (a0 : Option Addr) (l0 : Nat) (c0 : Nat) (a3 : Option Addr) (l3 : Nat) (c3 : Nat) (h : Hp) : Prop :=
  (∃ n, L4.t R n a3 l3 c3 a0 l0 c0 (((l0 : Nat) : Int)) 0 h)
def D3.g (R : Rt) (fr : Fr) (h : Hp) : Prop := gSlice (fr 0) fun a0 l0 c0 => gSlice (fr 3) fun a3 l3 c3 => D3.t R a0 l0 c0 a3 l3 c3 h
theorem D3.ok (R : Rt) (fr : Fr) (h : Hp) (g : D3.g R fr h) : den prog E (cAt C [true, true, false]) (Ex.then (D2.g R) (retQ E [.tmp 2] R)) fr h := by
  obtain ⟨a0, l0, c0, e0, g⟩ := gSlice_elim g
  obtain ⟨a3, l3, c3, e3, g⟩ := gSlice_elim g
  exact den_cut 1 (r := (cAt C [true, true, false, true])) (by kernel_rfl) (B6.ok R) (den_enter [(0, .slice a0 l0 c0), (3, .slice a3 l3 c3)] ⟨e0, e3, trivial⟩ (by kernel_rfl) g)
theorem W7.ok (R : Rt) (fr : Fr) (h : Hp) (g : D3.g R fr h) : den prog E (cAt C [true, true]) (retQ E [.tmp 2] R) fr h :=
  den_then (by kernel_rfl) (D2.ok R) (D3.ok R fr h g)
def D1.t (R : Rt) (a0 : Option Addr) (l0 : Nat) (c0 : Nat) (h : Hp) : Prop :=
  mkK h 24 T24 0 (((l0 : Nat) : Int)) fun q1 h2 =>
  D3.t R a0 l0 c0 (some q1) ((0 : Int).toNat) ((((l0 : Nat) : Int)).toNat) h2
def D1.g (R : Rt) (fr : Fr) (h : Hp) : Prop := gSlice (fr 0) fun a0 l0 c0 => D1.t R a0 l0 c0 h
theorem D1.ok (R : Rt) (fr : Fr) (h : Hp) (g : D1.g R fr h) : den prog E C (retQ E [.tmp 2] R) fr h := by
  obtain ⟨a0, l0, c0, e0, g⟩ := gSlice_elim g
  exact den_cut 2 (r := (cAt C [true, true])) (by kernel_rfl) (W7.ok R) (den_enter [(0, .slice a0 l0 c0)] ⟨e0, trivial⟩ (by kernel_rfl) g)
def t (a0 : Option Addr) (l0 : Nat) (c0 : Nat) (h : Hp) (R : Rt) : Prop := D1.t R a0 l0 c0 h
theorem ok {a0 : Option Addr} {l0 : Nat} {c0 : Nat} {h : Hp} {R : Rt} (g : t a0 l0 c0 h R) : HC id #[.slice a0 l0 c0] h R :=
  calls_of_den' envOk (c := C) (rs := [.tmp 2]) Try.func15 (by kernel_rfl) (by kernel_rfl) (by kernel_rfl) (args := [.slice a0 l0 c0]) (by kernel_rfl) (D1.ok R _ h (gSlice_intro rfl (g)))
end gnomonlaw02_lists

namespace gnomonref01_Spare
noncomputable def C : Code := bodyOf Try.f16
def D2.t (R : Rt) (a0 : Option Addr) (l0 : Nat) (c0 : Nat) (a4 : Option Addr) (l4 : Nat) (c4 : Nat) (h : Hp) : Prop :=
  slK 1 a4 l4 c4 none (some (.int .i64 (((l0 : Nat) : Int)))) none fun a_5 l_5 c_5 =>
  R (.tuple #[.slice a_5 l_5 c_5, .slice a4 l4 c4]) h
def D2.g (R : Rt) (fr : Fr) (h : Hp) : Prop := gSlice (fr 0) fun a0 l0 c0 => gSlice (fr 4) fun a4 l4 c4 => D2.t R a0 l0 c0 a4 l4 c4 h
theorem D2.ok (R : Rt) (fr : Fr) (h : Hp) (g : D2.g R fr h) : den prog E (cAt C [true, true, true, true]) (retQ E [.tmp 2, .tmp 3] R) fr h := by
  obtain ⟨a0, l0, c0, e0, g⟩ := gSlice_elim g
  obtain ⟨a4, l4, c4, e4, g⟩ := gSlice_elim g
  exact den_enter [(0, .slice a0 l0 c0), (4, .slice a4 l4 c4)] ⟨e0, e4, trivial⟩ (by kernel_rfl) g
def L4.g (N : Option Addr → Nat → Nat → Option Addr → Nat → Nat → Int → Hp → Prop) (fr : Fr) (h : Hp) : Prop := gSlice (fr 0) fun a0 l0 c0 => gSlice (fr 4) fun a4 l4 c4 => gInt .i64 (fr 5) fun x5 => N a0 l0 c0 a4 l4 c4 x5 h
def D5.t (R : Rt) (N4 : Option Addr → Nat → Nat → Option Addr → Nat → Nat → Int → Hp → Prop) (a0 : Option Addr) (l0 : Nat) (c0 : Nat) (a4 : Option Addr) (l4 : Nat) (c4 : Nat) (x5 : Int) (h : Hp) : Prop :=
  cond (decide (x5 < (((l4 : Nat) : Int)))) (HQC gnomonref01_mark.id #[.int .i64 (-1), .int .i64 x5] h fun v6 =>
  gInt .u64 v6 fun x_7 =>
  idxK a4 l4 x5 1 fun q8 =>
  stK h q8 (.int .u64 x_7) fun h9 =>
  letK (IntKind.i64.wrap (x5 + 1)) fun n10 =>
  N4 a0 l0 c0 a4 l4 c4 n10 h9) (D2.t R a0 l0 c0 a4 l4 c4 h)
def D5.g (R : Rt) (N4 : Option Addr → Nat → Nat → Option Addr → Nat → Nat → Int → Hp → Prop) (fr : Fr) (h : Hp) : Prop := gSlice (fr 0) fun a0 l0 c0 => gSlice (fr 4) fun a4 l4 c4 => gInt .i64 (fr 5) fun x5 => D5.t R N4 a0 l0 c0 a4 l4 c4 x5 h
theorem D5.ok (R : Rt) (N4 : Option Addr → Nat → Nat → Option Addr → Nat → Nat → Int → Hp → Prop) (fr : Fr) (h : Hp) (g : D5.g R N4 fr h) : den prog E (cAt C [true, true, true, false, true, false, false]) (Ex.then (L4.g N4) (Ex.inBlock 0 (Ex.then (D2.g R) (retQ E [.tmp 2, .tmp 3] R)))) fr h := by
  obtain ⟨a0, l0, c0, e0, g⟩ := gSlice_elim g
  obtain ⟨a4, l4, c4, e4, g⟩ := gSlice_elim g
  obtain ⟨x5, e5, g⟩ := gInt_elim g
  exact den_enter [(0, .slice a0 l0 c0), (4, .slice a4 l4 c4), (5, .int .i64 x5)] ⟨e0, e4, e5, trivial⟩ (by kernel_rfl) g
def L4.t (R : Rt) : Nat → Option Addr → Nat → Nat → Option Addr → Nat → Nat → Int → Hp → Prop
  | 0 => fun _ _ _ _ _ _ _ _ => False
  | n + 1 => fun a0 l0 c0 a4 l4 c4 x5 h => D5.t R (L4.t R n) a0 l0 c0 a4 l4 c4 x5 h
theorem L4.ok (R : Rt) (fr : Fr) (h : Hp) (g : L4.g (fun a0 l0 c0 a4 l4 c4 x5 h => ∃ n, L4.t R n a0 l0 c0 a4 l4 c4 x5 h) fr h) : den prog E (cAt C [true, true, true, false, true, false]) (Ex.inBlock 0 (Ex.then (D2.g R) (retQ E [.tmp 2, .tmp 3] R))) fr h := by
  obtain ⟨a0, l0, c0, e0, g⟩ := gSlice_elim g
  obtain ⟨a4, l4, c4, e4, g⟩ := gSlice_elim g
  obtain ⟨x5, e5, g⟩ := gInt_elim g
  obtain ⟨n, g⟩ := g
  refine loop_ok (fun n => L4.g (L4.t R n)) (b := (cAt C [true, true, true, false, true, false, false])) (by kernel_rfl) (fun fr h g => ?_) (fun n => D5.ok R (L4.t R n)) n fr h (gSlice_intro e0 (gSlice_intro e4 (gInt_intro e5 (g))))
  obtain ⟨a0, l0, c0, e0, g⟩ := gSlice_elim g
  obtain ⟨a4, l4, c4, e4, g⟩ := gSlice_elim g
  obtain ⟨x5, e5, g⟩ := gInt_elim g
  exact g
theorem B6.ok (R : Rt) (fr : Fr) (h : Hp) (g : L4.g (fun a0 l0 c0 a4 l4 c4 x5 h => ∃ n, L4.t R n a0 l0 c0 a4 l4 c4 x5 h) fr h) : den prog E (cAt C [true, true, true, false, true]) (Ex.then (D2.g R) (retQ E [.tmp 2, .tmp 3] R)) fr h :=
  den_block (by kernel_rfl) (L4.ok R fr h g)
def D3.t (R : Rt) (a0 : Option Addr) (l0 : Nat) (c0 : Nat) (a4 : Option Addr) (l4 : Nat) (c4 : Nat) (h : Hp) : Prop :=
  (∃ n, L4.t R n a0 l0 c0 a4 l4 c4 (((l0 : Nat) : Int)) h)
def D3.g (R : Rt) (fr : Fr) (h : Hp) : Prop := gSlice (fr 0) fun a0 l0 c0 => gSlice (fr 4) fun a4 l4 c4 => D3.t R a0 l0 c0 a4 l4 c4 h
theorem D3.ok (R : Rt) (fr : Fr) (h : Hp) (g : D3.g R fr h) : den prog E (cAt C [true, true, true, false]) (Ex.then (D2.g R) (retQ E [.tmp 2, .tmp 3] R)) fr h := by
  obtain ⟨a0, l0, c0, e0, g⟩ := gSlice_elim g
  obtain ⟨a4, l4, c4, e4, g⟩ := gSlice_elim g
  exact den_cut 1 (r := (cAt C [true, true, true, false, true])) (by kernel_rfl) (B6.ok R) (den_enter [(0, .slice a0 l0 c0), (4, .slice a4 l4 c4)] ⟨e0, e4, trivial⟩ (by kernel_rfl) g)
theorem W7.ok (R : Rt) (fr : Fr) (h : Hp) (g : D3.g R fr h) : den prog E (cAt C [true, true, true]) (retQ E [.tmp 2, .tmp 3] R) fr h :=
  den_then (by kernel_rfl) (D2.ok R) (D3.ok R fr h g)
def D1.t (R : Rt) (a0 : Option Addr) (l0 : Nat) (c0 : Nat) (h : Hp) : Prop :=
  letK (IntKind.i64.wrap ((((l0 : Nat) : Int)) + 80)) fun n1 =>
  mkK h 28 T28 n1 n1 fun q2 h3 =>
  cpK h3 1 (some q2) n1.toNat (.slice a0 l0 c0) fun n4 h4 =>
  D3.t R a0 l0 c0 (some q2) n1.toNat n1.toNat h4
def D1.g (R : Rt) (fr : Fr) (h : Hp) : Prop := gSlice (fr 0) fun a0 l0 c0 => D1.t R a0 l0 c0 h
theorem D1.ok (R : Rt) (fr : Fr) (h : Hp) (g : D1.g R fr h) : den prog E C (retQ E [.tmp 2, .tmp 3] R) fr h := by
  obtain ⟨a0, l0, c0, e0, g⟩ := gSlice_elim g
  exact den_cut 3 (r := (cAt C [true, true, true])) (by kernel_rfl) (W7.ok R) (den_enter [(0, .slice a0 l0 c0)] ⟨e0, trivial⟩ (by kernel_rfl) g)
def t (a0 : Option Addr) (l0 : Nat) (c0 : Nat) (h : Hp) (R : Rt) : Prop := D1.t R a0 l0 c0 h
theorem ok {a0 : Option Addr} {l0 : Nat} {c0 : Nat} {h : Hp} {R : Rt} (g : t a0 l0 c0 h R) : HC id #[.slice a0 l0 c0] h R :=
  calls_of_den' envOk (c := C) (rs := [.tmp 2, .tmp 3]) Try.func16 (by kernel_rfl) (by kernel_rfl) (by kernel_rfl) (args := [.slice a0 l0 c0]) (by kernel_rfl) (D1.ok R _ h (gSlice_intro rfl (g)))
end gnomonref01_Spare

namespace natmul_Product
noncomputable def C : Code := bodyOf Try.f17
def D3.t (R : Rt) (a7 : Option Addr) (l7 : Nat) (c7 : Nat) (h : Hp) : Prop :=
  R (.tuple #[.slice a7 l7 c7, .int .i64 0]) h
def D3.g (R : Rt) (fr : Fr) (h : Hp) : Prop := gSlice (fr 7) fun a7 l7 c7 => D3.t R a7 l7 c7 h
theorem D3.ok (R : Rt) (fr : Fr) (h : Hp) (g : D3.g R fr h) : den prog E (cAt C [true, true, true, true, true, true]) (retQ E [.tmp 2, .tmp 3] R) fr h := by
  obtain ⟨a7, l7, c7, e7, g⟩ := gSlice_elim g
  exact den_enter [(7, .slice a7 l7 c7)] ⟨e7, trivial⟩ (by kernel_rfl) g
def L5.g (N : Option Addr → Nat → Nat → Option Addr → Nat → Nat → Int → Int → Hp → Prop) (fr : Fr) (h : Hp) : Prop := gSlice (fr 7) fun a7 l7 c7 => gSlice (fr 28) fun a28 l28 c28 => gInt .i64 (fr 29) fun x29 => gInt .i64 (fr 30) fun x30 => N a7 l7 c7 a28 l28 c28 x29 x30 h
def D6.t (R : Rt) (N5 : Option Addr → Nat → Nat → Option Addr → Nat → Nat → Int → Int → Hp → Prop) (a7 : Option Addr) (l7 : Nat) (c7 : Nat) (a28 : Option Addr) (l28 : Nat) (c28 : Nat) (x29 : Int) (x30 : Int) (h : Hp) : Prop :=
  cond (decide (x30 < x29)) (idxK a28 l28 x30 1 fun q3 =>
  ldK h q3 fun v4 =>
  gSlice v4 fun a_5 l_5 c_5 =>
  HC natmul_product.id #[.slice a7 l7 c7, .slice a_5 l_5 c_5] h fun v6 h7 =>
  gSlice v6 fun a_8 l_8 c_8 =>
  cond (decide ((((l_8 : Nat) : Int)) > 8192)) (R (.tuple #[.slice none 0 0, .int .i64 5]) h7) (letK (IntKind.i64.wrap (x30 + 1)) fun n9 =>
  N5 a_8 l_8 c_8 a28 l28 c28 x29 n9 h7)) (D3.t R a7 l7 c7 h)
def D6.g (R : Rt) (N5 : Option Addr → Nat → Nat → Option Addr → Nat → Nat → Int → Int → Hp → Prop) (fr : Fr) (h : Hp) : Prop := gSlice (fr 7) fun a7 l7 c7 => gSlice (fr 28) fun a28 l28 c28 => gInt .i64 (fr 29) fun x29 => gInt .i64 (fr 30) fun x30 => D6.t R N5 a7 l7 c7 a28 l28 c28 x29 x30 h
theorem D6.ok (R : Rt) (N5 : Option Addr → Nat → Nat → Option Addr → Nat → Nat → Int → Int → Hp → Prop) (fr : Fr) (h : Hp) (g : D6.g R N5 fr h) : den prog E (cAt C [true, true, true, true, true, false, true, false, false]) (Ex.then (L5.g N5) (Ex.inBlock 2 (Ex.then (D3.g R) (retQ E [.tmp 2, .tmp 3] R)))) fr h := by
  obtain ⟨a7, l7, c7, e7, g⟩ := gSlice_elim g
  obtain ⟨a28, l28, c28, e28, g⟩ := gSlice_elim g
  obtain ⟨x29, e29, g⟩ := gInt_elim g
  obtain ⟨x30, e30, g⟩ := gInt_elim g
  exact den_enter [(7, .slice a7 l7 c7), (28, .slice a28 l28 c28), (29, .int .i64 x29), (30, .int .i64 x30)] ⟨e7, e28, e29, e30, trivial⟩ (by kernel_rfl) g
def L5.t (R : Rt) : Nat → Option Addr → Nat → Nat → Option Addr → Nat → Nat → Int → Int → Hp → Prop
  | 0 => fun _ _ _ _ _ _ _ _ _ => False
  | n + 1 => fun a7 l7 c7 a28 l28 c28 x29 x30 h => D6.t R (L5.t R n) a7 l7 c7 a28 l28 c28 x29 x30 h
theorem L5.ok (R : Rt) (fr : Fr) (h : Hp) (g : L5.g (fun a7 l7 c7 a28 l28 c28 x29 x30 h => ∃ n, L5.t R n a7 l7 c7 a28 l28 c28 x29 x30 h) fr h) : den prog E (cAt C [true, true, true, true, true, false, true, false]) (Ex.inBlock 2 (Ex.then (D3.g R) (retQ E [.tmp 2, .tmp 3] R))) fr h := by
  obtain ⟨a7, l7, c7, e7, g⟩ := gSlice_elim g
  obtain ⟨a28, l28, c28, e28, g⟩ := gSlice_elim g
  obtain ⟨x29, e29, g⟩ := gInt_elim g
  obtain ⟨x30, e30, g⟩ := gInt_elim g
  obtain ⟨n, g⟩ := g
  refine loop_ok (fun n => L5.g (L5.t R n)) (b := (cAt C [true, true, true, true, true, false, true, false, false])) (by kernel_rfl) (fun fr h g => ?_) (fun n => D6.ok R (L5.t R n)) n fr h (gSlice_intro e7 (gSlice_intro e28 (gInt_intro e29 (gInt_intro e30 (g)))))
  obtain ⟨a7, l7, c7, e7, g⟩ := gSlice_elim g
  obtain ⟨a28, l28, c28, e28, g⟩ := gSlice_elim g
  obtain ⟨x29, e29, g⟩ := gInt_elim g
  obtain ⟨x30, e30, g⟩ := gInt_elim g
  exact g
theorem B7.ok (R : Rt) (fr : Fr) (h : Hp) (g : L5.g (fun a7 l7 c7 a28 l28 c28 x29 x30 h => ∃ n, L5.t R n a7 l7 c7 a28 l28 c28 x29 x30 h) fr h) : den prog E (cAt C [true, true, true, true, true, false, true]) (Ex.then (D3.g R) (retQ E [.tmp 2, .tmp 3] R)) fr h :=
  den_block (by kernel_rfl) (L5.ok R fr h g)
def D4.t (R : Rt) (a0 : Option Addr) (l0 : Nat) (c0 : Nat) (a7 : Option Addr) (l7 : Nat) (c7 : Nat) (h : Hp) : Prop :=
  (∃ n, L5.t R n a7 l7 c7 a0 l0 c0 (((l0 : Nat) : Int)) 0 h)
def D4.g (R : Rt) (fr : Fr) (h : Hp) : Prop := gSlice (fr 0) fun a0 l0 c0 => gSlice (fr 7) fun a7 l7 c7 => D4.t R a0 l0 c0 a7 l7 c7 h
theorem D4.ok (R : Rt) (fr : Fr) (h : Hp) (g : D4.g R fr h) : den prog E (cAt C [true, true, true, true, true, false]) (Ex.then (D3.g R) (retQ E [.tmp 2, .tmp 3] R)) fr h := by
  obtain ⟨a0, l0, c0, e0, g⟩ := gSlice_elim g
  obtain ⟨a7, l7, c7, e7, g⟩ := gSlice_elim g
  exact den_cut 1 (r := (cAt C [true, true, true, true, true, false, true])) (by kernel_rfl) (B7.ok R) (den_enter [(0, .slice a0 l0 c0), (7, .slice a7 l7 c7)] ⟨e0, e7, trivial⟩ (by kernel_rfl) g)
theorem W8.ok (R : Rt) (fr : Fr) (h : Hp) (g : D4.g R fr h) : den prog E (cAt C [true, true, true, true, true]) (retQ E [.tmp 2, .tmp 3] R) fr h :=
  den_then (by kernel_rfl) (D3.ok R) (D4.ok R fr h g)
def D2.t (R : Rt) (a0 : Option Addr) (l0 : Nat) (c0 : Nat) (b4 : Bool) (h : Hp) : Prop :=
  cond b4 (R (.tuple #[.slice none 0 0, .int .i64 0]) h) (boxK h 28 [.int .u64 1] fun q1 h2 =>
  D4.t R a0 l0 c0 (some q1) 1 1 h2)
def D2.g (R : Rt) (fr : Fr) (h : Hp) : Prop := gSlice (fr 0) fun a0 l0 c0 => gBool (fr 4) fun b4 => D2.t R a0 l0 c0 b4 h
theorem D2.ok (R : Rt) (fr : Fr) (h : Hp) (g : D2.g R fr h) : den prog E (cAt C [true, true, true]) (retQ E [.tmp 2, .tmp 3] R) fr h := by
  obtain ⟨a0, l0, c0, e0, g⟩ := gSlice_elim g
  obtain ⟨b4, e4, g⟩ := gBool_elim g
  exact den_cut 2 (r := (cAt C [true, true, true, true, true])) (by kernel_rfl) (W8.ok R) (den_enter [(0, .slice a0 l0 c0), (4, .bool b4)] ⟨e0, e4, trivial⟩ (by kernel_rfl) g)
def L10.g (N : Option Addr → Nat → Nat → Bool → Option Addr → Nat → Nat → Int → Int → Hp → Prop) (fr : Fr) (h : Hp) : Prop := gSlice (fr 0) fun a0 l0 c0 => gBool (fr 4) fun b4 => gSlice (fr 10) fun a10 l10 c10 => gInt .i64 (fr 11) fun x11 => gInt .i64 (fr 12) fun x12 => N a0 l0 c0 b4 a10 l10 c10 x11 x12 h
def D11.t (R : Rt) (N10 : Option Addr → Nat → Nat → Bool → Option Addr → Nat → Nat → Int → Int → Hp → Prop) (a0 : Option Addr) (l0 : Nat) (c0 : Nat) (b4 : Bool) (a10 : Option Addr) (l10 : Nat) (c10 : Nat) (x11 : Int) (x12 : Int) (h : Hp) : Prop :=
  cond (decide (x12 < x11)) (idxK a10 l10 x12 1 fun q10 =>
  ldK h q10 fun v11 =>
  gSlice v11 fun a_12 l_12 c_12 =>
  HC nat_Form.id #[.slice a_12 l_12 c_12] h fun v13 h14 =>
  gBool v13 fun b_15 =>
  cond (!b_15) (R (.tuple #[.slice none 0 0, .int .i64 2]) h14) (cond b4 (letK (IntKind.i64.wrap (x12 + 1)) fun n16 =>
  N10 a0 l0 c0 true a10 l10 c10 x11 n16 h14) (letK (IntKind.i64.wrap (x12 + 1)) fun n17 =>
  N10 a0 l0 c0 ((((l_12 : Nat) : Int)) == 0) a10 l10 c10 x11 n17 h14))) (D2.t R a0 l0 c0 b4 h)
def D11.g (R : Rt) (N10 : Option Addr → Nat → Nat → Bool → Option Addr → Nat → Nat → Int → Int → Hp → Prop) (fr : Fr) (h : Hp) : Prop := gSlice (fr 0) fun a0 l0 c0 => gBool (fr 4) fun b4 => gSlice (fr 10) fun a10 l10 c10 => gInt .i64 (fr 11) fun x11 => gInt .i64 (fr 12) fun x12 => D11.t R N10 a0 l0 c0 b4 a10 l10 c10 x11 x12 h
theorem D11.ok (R : Rt) (N10 : Option Addr → Nat → Nat → Bool → Option Addr → Nat → Nat → Int → Int → Hp → Prop) (fr : Fr) (h : Hp) (g : D11.g R N10 fr h) : den prog E (cAt C [true, true, false, true, false, false]) (Ex.then (L10.g N10) (Ex.inBlock 0 (Ex.then (D2.g R) (retQ E [.tmp 2, .tmp 3] R)))) fr h := by
  obtain ⟨a0, l0, c0, e0, g⟩ := gSlice_elim g
  obtain ⟨b4, e4, g⟩ := gBool_elim g
  obtain ⟨a10, l10, c10, e10, g⟩ := gSlice_elim g
  obtain ⟨x11, e11, g⟩ := gInt_elim g
  obtain ⟨x12, e12, g⟩ := gInt_elim g
  exact den_enter [(0, .slice a0 l0 c0), (4, .bool b4), (10, .slice a10 l10 c10), (11, .int .i64 x11), (12, .int .i64 x12)] ⟨e0, e4, e10, e11, e12, trivial⟩ (by kernel_rfl) g
def L10.t (R : Rt) : Nat → Option Addr → Nat → Nat → Bool → Option Addr → Nat → Nat → Int → Int → Hp → Prop
  | 0 => fun _ _ _ _ _ _ _ _ _ _ => False
  | n + 1 => fun a0 l0 c0 b4 a10 l10 c10 x11 x12 h => D11.t R (L10.t R n) a0 l0 c0 b4 a10 l10 c10 x11 x12 h
theorem L10.ok (R : Rt) (fr : Fr) (h : Hp) (g : L10.g (fun a0 l0 c0 b4 a10 l10 c10 x11 x12 h => ∃ n, L10.t R n a0 l0 c0 b4 a10 l10 c10 x11 x12 h) fr h) : den prog E (cAt C [true, true, false, true, false]) (Ex.inBlock 0 (Ex.then (D2.g R) (retQ E [.tmp 2, .tmp 3] R))) fr h := by
  obtain ⟨a0, l0, c0, e0, g⟩ := gSlice_elim g
  obtain ⟨b4, e4, g⟩ := gBool_elim g
  obtain ⟨a10, l10, c10, e10, g⟩ := gSlice_elim g
  obtain ⟨x11, e11, g⟩ := gInt_elim g
  obtain ⟨x12, e12, g⟩ := gInt_elim g
  obtain ⟨n, g⟩ := g
  refine loop_ok (fun n => L10.g (L10.t R n)) (b := (cAt C [true, true, false, true, false, false])) (by kernel_rfl) (fun fr h g => ?_) (fun n => D11.ok R (L10.t R n)) n fr h (gSlice_intro e0 (gBool_intro e4 (gSlice_intro e10 (gInt_intro e11 (gInt_intro e12 (g))))))
  obtain ⟨a0, l0, c0, e0, g⟩ := gSlice_elim g
  obtain ⟨b4, e4, g⟩ := gBool_elim g
  obtain ⟨a10, l10, c10, e10, g⟩ := gSlice_elim g
  obtain ⟨x11, e11, g⟩ := gInt_elim g
  obtain ⟨x12, e12, g⟩ := gInt_elim g
  exact g
theorem B12.ok (R : Rt) (fr : Fr) (h : Hp) (g : L10.g (fun a0 l0 c0 b4 a10 l10 c10 x11 x12 h => ∃ n, L10.t R n a0 l0 c0 b4 a10 l10 c10 x11 x12 h) fr h) : den prog E (cAt C [true, true, false, true]) (Ex.then (D2.g R) (retQ E [.tmp 2, .tmp 3] R)) fr h :=
  den_block (by kernel_rfl) (L10.ok R fr h g)
def D9.t (R : Rt) (a0 : Option Addr) (l0 : Nat) (c0 : Nat) (b4 : Bool) (h : Hp) : Prop :=
  (∃ n, L10.t R n a0 l0 c0 b4 a0 l0 c0 (((l0 : Nat) : Int)) 0 h)
def D9.g (R : Rt) (fr : Fr) (h : Hp) : Prop := gSlice (fr 0) fun a0 l0 c0 => gBool (fr 4) fun b4 => D9.t R a0 l0 c0 b4 h
theorem D9.ok (R : Rt) (fr : Fr) (h : Hp) (g : D9.g R fr h) : den prog E (cAt C [true, true, false]) (Ex.then (D2.g R) (retQ E [.tmp 2, .tmp 3] R)) fr h := by
  obtain ⟨a0, l0, c0, e0, g⟩ := gSlice_elim g
  obtain ⟨b4, e4, g⟩ := gBool_elim g
  exact den_cut 1 (r := (cAt C [true, true, false, true])) (by kernel_rfl) (B12.ok R) (den_enter [(0, .slice a0 l0 c0), (4, .bool b4)] ⟨e0, e4, trivial⟩ (by kernel_rfl) g)
theorem W13.ok (R : Rt) (fr : Fr) (h : Hp) (g : D9.g R fr h) : den prog E (cAt C [true, true]) (retQ E [.tmp 2, .tmp 3] R) fr h :=
  den_then (by kernel_rfl) (D2.ok R) (D9.ok R fr h g)
def D1.t (R : Rt) (a0 : Option Addr) (l0 : Nat) (c0 : Nat) (h : Hp) : Prop :=
  D9.t R a0 l0 c0 false h
def D1.g (R : Rt) (fr : Fr) (h : Hp) : Prop := gSlice (fr 0) fun a0 l0 c0 => D1.t R a0 l0 c0 h
theorem D1.ok (R : Rt) (fr : Fr) (h : Hp) (g : D1.g R fr h) : den prog E C (retQ E [.tmp 2, .tmp 3] R) fr h := by
  obtain ⟨a0, l0, c0, e0, g⟩ := gSlice_elim g
  exact den_cut 2 (r := (cAt C [true, true])) (by kernel_rfl) (W13.ok R) (den_enter [(0, .slice a0 l0 c0)] ⟨e0, trivial⟩ (by kernel_rfl) g)
def t (a0 : Option Addr) (l0 : Nat) (c0 : Nat) (h : Hp) (R : Rt) : Prop := D1.t R a0 l0 c0 h
theorem ok {a0 : Option Addr} {l0 : Nat} {c0 : Nat} {h : Hp} {R : Rt} (g : t a0 l0 c0 h R) : HC id #[.slice a0 l0 c0] h R :=
  calls_of_den' envOk (c := C) (rs := [.tmp 2, .tmp 3]) Try.func17 (by kernel_rfl) (by kernel_rfl) (by kernel_rfl) (args := [.slice a0 l0 c0]) (by kernel_rfl) (D1.ok R _ h (gSlice_intro rfl (g)))
end natmul_Product

namespace gnomonref01_Same
noncomputable def C : Code := bodyOf Try.f18
def D2.t (R : Rt)  (h : Hp) : Prop :=
  R (.bool true) h
def D2.g (R : Rt) (fr : Fr) (h : Hp) : Prop := D2.t R  h
theorem D2.ok (R : Rt) (fr : Fr) (h : Hp) (g : D2.g R fr h) : den prog E (cAt C [true, true, true]) (retQ E [.tmp 4] R) fr h := by
  exact den_enter [] trivial (by kernel_rfl) g
def L4.g (N : Option Addr → Nat → Nat → Option Addr → Nat → Nat → Int → Hp → Prop) (fr : Fr) (h : Hp) : Prop := gSlice (fr 0) fun a0 l0 c0 => gSlice (fr 1) fun a1 l1 c1 => gInt .i64 (fr 5) fun x5 => N a0 l0 c0 a1 l1 c1 x5 h
def D5.t (R : Rt) (N4 : Option Addr → Nat → Nat → Option Addr → Nat → Nat → Int → Hp → Prop) (a0 : Option Addr) (l0 : Nat) (c0 : Nat) (a1 : Option Addr) (l1 : Nat) (c1 : Nat) (x5 : Int) (h : Hp) : Prop :=
  cond (decide (x5 < (((l0 : Nat) : Int)))) (idxK a0 l0 x5 1 fun q1 =>
  ldK h q1 fun v2 =>
  gInt .u64 v2 fun x_3 =>
  idxK a1 l1 x5 1 fun q4 =>
  ldK h q4 fun v5 =>
  gInt .u64 v5 fun x_6 =>
  cond (x_3 != x_6) (R (.bool false) h) (letK (IntKind.i64.wrap (x5 + 1)) fun n7 =>
  N4 a0 l0 c0 a1 l1 c1 n7 h)) (D2.t R h)
def D5.g (R : Rt) (N4 : Option Addr → Nat → Nat → Option Addr → Nat → Nat → Int → Hp → Prop) (fr : Fr) (h : Hp) : Prop := gSlice (fr 0) fun a0 l0 c0 => gSlice (fr 1) fun a1 l1 c1 => gInt .i64 (fr 5) fun x5 => D5.t R N4 a0 l0 c0 a1 l1 c1 x5 h
theorem D5.ok (R : Rt) (N4 : Option Addr → Nat → Nat → Option Addr → Nat → Nat → Int → Hp → Prop) (fr : Fr) (h : Hp) (g : D5.g R N4 fr h) : den prog E (cAt C [true, true, false, true, false, false]) (Ex.then (L4.g N4) (Ex.inBlock 0 (Ex.then (D2.g R) (retQ E [.tmp 4] R)))) fr h := by
  obtain ⟨a0, l0, c0, e0, g⟩ := gSlice_elim g
  obtain ⟨a1, l1, c1, e1, g⟩ := gSlice_elim g
  obtain ⟨x5, e5, g⟩ := gInt_elim g
  exact den_enter [(0, .slice a0 l0 c0), (1, .slice a1 l1 c1), (5, .int .i64 x5)] ⟨e0, e1, e5, trivial⟩ (by kernel_rfl) g
def L4.t (R : Rt) : Nat → Option Addr → Nat → Nat → Option Addr → Nat → Nat → Int → Hp → Prop
  | 0 => fun _ _ _ _ _ _ _ _ => False
  | n + 1 => fun a0 l0 c0 a1 l1 c1 x5 h => D5.t R (L4.t R n) a0 l0 c0 a1 l1 c1 x5 h
theorem L4.ok (R : Rt) (fr : Fr) (h : Hp) (g : L4.g (fun a0 l0 c0 a1 l1 c1 x5 h => ∃ n, L4.t R n a0 l0 c0 a1 l1 c1 x5 h) fr h) : den prog E (cAt C [true, true, false, true, false]) (Ex.inBlock 0 (Ex.then (D2.g R) (retQ E [.tmp 4] R))) fr h := by
  obtain ⟨a0, l0, c0, e0, g⟩ := gSlice_elim g
  obtain ⟨a1, l1, c1, e1, g⟩ := gSlice_elim g
  obtain ⟨x5, e5, g⟩ := gInt_elim g
  obtain ⟨n, g⟩ := g
  refine loop_ok (fun n => L4.g (L4.t R n)) (b := (cAt C [true, true, false, true, false, false])) (by kernel_rfl) (fun fr h g => ?_) (fun n => D5.ok R (L4.t R n)) n fr h (gSlice_intro e0 (gSlice_intro e1 (gInt_intro e5 (g))))
  obtain ⟨a0, l0, c0, e0, g⟩ := gSlice_elim g
  obtain ⟨a1, l1, c1, e1, g⟩ := gSlice_elim g
  obtain ⟨x5, e5, g⟩ := gInt_elim g
  exact g
theorem B6.ok (R : Rt) (fr : Fr) (h : Hp) (g : L4.g (fun a0 l0 c0 a1 l1 c1 x5 h => ∃ n, L4.t R n a0 l0 c0 a1 l1 c1 x5 h) fr h) : den prog E (cAt C [true, true, false, true]) (Ex.then (D2.g R) (retQ E [.tmp 4] R)) fr h :=
  den_block (by kernel_rfl) (L4.ok R fr h g)
def D3.t (R : Rt) (a0 : Option Addr) (l0 : Nat) (c0 : Nat) (a1 : Option Addr) (l1 : Nat) (c1 : Nat) (h : Hp) : Prop :=
  (∃ n, L4.t R n a0 l0 c0 a1 l1 c1 0 h)
def D3.g (R : Rt) (fr : Fr) (h : Hp) : Prop := gSlice (fr 0) fun a0 l0 c0 => gSlice (fr 1) fun a1 l1 c1 => D3.t R a0 l0 c0 a1 l1 c1 h
theorem D3.ok (R : Rt) (fr : Fr) (h : Hp) (g : D3.g R fr h) : den prog E (cAt C [true, true, false]) (Ex.then (D2.g R) (retQ E [.tmp 4] R)) fr h := by
  obtain ⟨a0, l0, c0, e0, g⟩ := gSlice_elim g
  obtain ⟨a1, l1, c1, e1, g⟩ := gSlice_elim g
  exact den_cut 1 (r := (cAt C [true, true, false, true])) (by kernel_rfl) (B6.ok R) (den_enter [(0, .slice a0 l0 c0), (1, .slice a1 l1 c1)] ⟨e0, e1, trivial⟩ (by kernel_rfl) g)
theorem W7.ok (R : Rt) (fr : Fr) (h : Hp) (g : D3.g R fr h) : den prog E (cAt C [true, true]) (retQ E [.tmp 4] R) fr h :=
  den_then (by kernel_rfl) (D2.ok R) (D3.ok R fr h g)
def D1.t (R : Rt) (a0 : Option Addr) (l0 : Nat) (c0 : Nat) (a1 : Option Addr) (l1 : Nat) (c1 : Nat) (h : Hp) : Prop :=
  cond ((((l0 : Nat) : Int)) != (((l1 : Nat) : Int))) (R (.bool false) h) (D3.t R a0 l0 c0 a1 l1 c1 h)
def D1.g (R : Rt) (fr : Fr) (h : Hp) : Prop := gSlice (fr 0) fun a0 l0 c0 => gSlice (fr 1) fun a1 l1 c1 => D1.t R a0 l0 c0 a1 l1 c1 h
theorem D1.ok (R : Rt) (fr : Fr) (h : Hp) (g : D1.g R fr h) : den prog E C (retQ E [.tmp 4] R) fr h := by
  obtain ⟨a0, l0, c0, e0, g⟩ := gSlice_elim g
  obtain ⟨a1, l1, c1, e1, g⟩ := gSlice_elim g
  exact den_cut 2 (r := (cAt C [true, true])) (by kernel_rfl) (W7.ok R) (den_enter [(0, .slice a0 l0 c0), (1, .slice a1 l1 c1)] ⟨e0, e1, trivial⟩ (by kernel_rfl) g)
def t (a0 : Option Addr) (l0 : Nat) (c0 : Nat) (a1 : Option Addr) (l1 : Nat) (c1 : Nat) (h : Hp) (R : Rt) : Prop := D1.t R a0 l0 c0 a1 l1 c1 h
theorem ok {a0 : Option Addr} {l0 : Nat} {c0 : Nat} {a1 : Option Addr} {l1 : Nat} {c1 : Nat} {h : Hp} {R : Rt} (g : t a0 l0 c0 a1 l1 c1 h R) : HC id #[.slice a0 l0 c0, .slice a1 l1 c1] h R :=
  calls_of_den' envOk (c := C) (rs := [.tmp 4]) Try.func18 (by kernel_rfl) (by kernel_rfl) (by kernel_rfl) (args := [.slice a0 l0 c0, .slice a1 l1 c1]) (by kernel_rfl) (D1.ok R _ h (gSlice_intro rfl (gSlice_intro rfl (g))))
end gnomonref01_Same

namespace gnomonref01_Kept
noncomputable def C : Code := bodyOf Try.f19
def D2.t (R : Rt)  (h : Hp) : Prop :=
  R (.bool true) h
def D2.g (R : Rt) (fr : Fr) (h : Hp) : Prop := D2.t R  h
theorem D2.ok (R : Rt) (fr : Fr) (h : Hp) (g : D2.g R fr h) : den prog E (cAt C [true, true, true]) (retQ E [.tmp 4] R) fr h := by
  exact den_enter [] trivial (by kernel_rfl) g
def L4.g (N : Option Addr → Nat → Nat → Option Addr → Nat → Nat → Int → Hp → Prop) (fr : Fr) (h : Hp) : Prop := gSlice (fr 0) fun a0 l0 c0 => gSlice (fr 1) fun a1 l1 c1 => gInt .i64 (fr 5) fun x5 => N a0 l0 c0 a1 l1 c1 x5 h
def D5.t (R : Rt) (N4 : Option Addr → Nat → Nat → Option Addr → Nat → Nat → Int → Hp → Prop) (a0 : Option Addr) (l0 : Nat) (c0 : Nat) (a1 : Option Addr) (l1 : Nat) (c1 : Nat) (x5 : Int) (h : Hp) : Prop :=
  cond (decide (x5 < (((l0 : Nat) : Int)))) (cond (decide (x5 < (((l1 : Nat) : Int)))) (idxK a0 l0 x5 1 fun q2 =>
  ldK h q2 fun v3 =>
  gInt .u64 v3 fun x_4 =>
  idxK a1 l1 x5 1 fun q5 =>
  ldK h q5 fun v6 =>
  gInt .u64 v6 fun x_7 =>
  cond (x_4 != x_7) (R (.bool false) h) (cond (decide (x5 ≥ (((l1 : Nat) : Int)))) (idxK a0 l0 x5 1 fun q8 =>
  ldK h q8 fun v9 =>
  gInt .u64 v9 fun x_10 =>
  HQC gnomonref01_mark.id #[.int .i64 (-1), .int .i64 x5] h fun v11 =>
  gInt .u64 v11 fun x_12 =>
  cond (x_10 != x_12) (R (.bool false) h) (letK (IntKind.i64.wrap (x5 + 1)) fun n13 =>
  N4 a0 l0 c0 a1 l1 c1 n13 h)) (letK (IntKind.i64.wrap (x5 + 1)) fun n14 =>
  N4 a0 l0 c0 a1 l1 c1 n14 h))) (cond (decide (x5 ≥ (((l1 : Nat) : Int)))) (idxK a0 l0 x5 1 fun q15 =>
  ldK h q15 fun v16 =>
  gInt .u64 v16 fun x_17 =>
  HQC gnomonref01_mark.id #[.int .i64 (-1), .int .i64 x5] h fun v18 =>
  gInt .u64 v18 fun x_19 =>
  cond (x_17 != x_19) (R (.bool false) h) (letK (IntKind.i64.wrap (x5 + 1)) fun n20 =>
  N4 a0 l0 c0 a1 l1 c1 n20 h)) (letK (IntKind.i64.wrap (x5 + 1)) fun n21 =>
  N4 a0 l0 c0 a1 l1 c1 n21 h))) (D2.t R h)
def D5.g (R : Rt) (N4 : Option Addr → Nat → Nat → Option Addr → Nat → Nat → Int → Hp → Prop) (fr : Fr) (h : Hp) : Prop := gSlice (fr 0) fun a0 l0 c0 => gSlice (fr 1) fun a1 l1 c1 => gInt .i64 (fr 5) fun x5 => D5.t R N4 a0 l0 c0 a1 l1 c1 x5 h
theorem D5.ok (R : Rt) (N4 : Option Addr → Nat → Nat → Option Addr → Nat → Nat → Int → Hp → Prop) (fr : Fr) (h : Hp) (g : D5.g R N4 fr h) : den prog E (cAt C [true, true, false, true, false, false]) (Ex.then (L4.g N4) (Ex.inBlock 0 (Ex.then (D2.g R) (retQ E [.tmp 4] R)))) fr h := by
  obtain ⟨a0, l0, c0, e0, g⟩ := gSlice_elim g
  obtain ⟨a1, l1, c1, e1, g⟩ := gSlice_elim g
  obtain ⟨x5, e5, g⟩ := gInt_elim g
  exact den_enter [(0, .slice a0 l0 c0), (1, .slice a1 l1 c1), (5, .int .i64 x5)] ⟨e0, e1, e5, trivial⟩ (by kernel_rfl) g
def L4.t (R : Rt) : Nat → Option Addr → Nat → Nat → Option Addr → Nat → Nat → Int → Hp → Prop
  | 0 => fun _ _ _ _ _ _ _ _ => False
  | n + 1 => fun a0 l0 c0 a1 l1 c1 x5 h => D5.t R (L4.t R n) a0 l0 c0 a1 l1 c1 x5 h
theorem L4.ok (R : Rt) (fr : Fr) (h : Hp) (g : L4.g (fun a0 l0 c0 a1 l1 c1 x5 h => ∃ n, L4.t R n a0 l0 c0 a1 l1 c1 x5 h) fr h) : den prog E (cAt C [true, true, false, true, false]) (Ex.inBlock 0 (Ex.then (D2.g R) (retQ E [.tmp 4] R))) fr h := by
  obtain ⟨a0, l0, c0, e0, g⟩ := gSlice_elim g
  obtain ⟨a1, l1, c1, e1, g⟩ := gSlice_elim g
  obtain ⟨x5, e5, g⟩ := gInt_elim g
  obtain ⟨n, g⟩ := g
  refine loop_ok (fun n => L4.g (L4.t R n)) (b := (cAt C [true, true, false, true, false, false])) (by kernel_rfl) (fun fr h g => ?_) (fun n => D5.ok R (L4.t R n)) n fr h (gSlice_intro e0 (gSlice_intro e1 (gInt_intro e5 (g))))
  obtain ⟨a0, l0, c0, e0, g⟩ := gSlice_elim g
  obtain ⟨a1, l1, c1, e1, g⟩ := gSlice_elim g
  obtain ⟨x5, e5, g⟩ := gInt_elim g
  exact g
theorem B6.ok (R : Rt) (fr : Fr) (h : Hp) (g : L4.g (fun a0 l0 c0 a1 l1 c1 x5 h => ∃ n, L4.t R n a0 l0 c0 a1 l1 c1 x5 h) fr h) : den prog E (cAt C [true, true, false, true]) (Ex.then (D2.g R) (retQ E [.tmp 4] R)) fr h :=
  den_block (by kernel_rfl) (L4.ok R fr h g)
def D3.t (R : Rt) (a0 : Option Addr) (l0 : Nat) (c0 : Nat) (a1 : Option Addr) (l1 : Nat) (c1 : Nat) (h : Hp) : Prop :=
  (∃ n, L4.t R n a0 l0 c0 a1 l1 c1 0 h)
def D3.g (R : Rt) (fr : Fr) (h : Hp) : Prop := gSlice (fr 0) fun a0 l0 c0 => gSlice (fr 1) fun a1 l1 c1 => D3.t R a0 l0 c0 a1 l1 c1 h
theorem D3.ok (R : Rt) (fr : Fr) (h : Hp) (g : D3.g R fr h) : den prog E (cAt C [true, true, false]) (Ex.then (D2.g R) (retQ E [.tmp 4] R)) fr h := by
  obtain ⟨a0, l0, c0, e0, g⟩ := gSlice_elim g
  obtain ⟨a1, l1, c1, e1, g⟩ := gSlice_elim g
  exact den_cut 1 (r := (cAt C [true, true, false, true])) (by kernel_rfl) (B6.ok R) (den_enter [(0, .slice a0 l0 c0), (1, .slice a1 l1 c1)] ⟨e0, e1, trivial⟩ (by kernel_rfl) g)
theorem W7.ok (R : Rt) (fr : Fr) (h : Hp) (g : D3.g R fr h) : den prog E (cAt C [true, true]) (retQ E [.tmp 4] R) fr h :=
  den_then (by kernel_rfl) (D2.ok R) (D3.ok R fr h g)
def D1.t (R : Rt) (a0 : Option Addr) (l0 : Nat) (c0 : Nat) (a1 : Option Addr) (l1 : Nat) (c1 : Nat) (h : Hp) : Prop :=
  letK (IntKind.i64.wrap ((((l1 : Nat) : Int)) + 80)) fun n1 =>
  cond ((((l0 : Nat) : Int)) != n1) (R (.bool false) h) (D3.t R a0 l0 c0 a1 l1 c1 h)
def D1.g (R : Rt) (fr : Fr) (h : Hp) : Prop := gSlice (fr 0) fun a0 l0 c0 => gSlice (fr 1) fun a1 l1 c1 => D1.t R a0 l0 c0 a1 l1 c1 h
theorem D1.ok (R : Rt) (fr : Fr) (h : Hp) (g : D1.g R fr h) : den prog E C (retQ E [.tmp 4] R) fr h := by
  obtain ⟨a0, l0, c0, e0, g⟩ := gSlice_elim g
  obtain ⟨a1, l1, c1, e1, g⟩ := gSlice_elim g
  exact den_cut 2 (r := (cAt C [true, true])) (by kernel_rfl) (W7.ok R) (den_enter [(0, .slice a0 l0 c0), (1, .slice a1 l1 c1)] ⟨e0, e1, trivial⟩ (by kernel_rfl) g)
def t (a0 : Option Addr) (l0 : Nat) (c0 : Nat) (a1 : Option Addr) (l1 : Nat) (c1 : Nat) (h : Hp) (R : Rt) : Prop := D1.t R a0 l0 c0 a1 l1 c1 h
theorem ok {a0 : Option Addr} {l0 : Nat} {c0 : Nat} {a1 : Option Addr} {l1 : Nat} {c1 : Nat} {h : Hp} {R : Rt} (g : t a0 l0 c0 a1 l1 c1 h R) : HC id #[.slice a0 l0 c0, .slice a1 l1 c1] h R :=
  calls_of_den' envOk (c := C) (rs := [.tmp 4]) Try.func19 (by kernel_rfl) (by kernel_rfl) (by kernel_rfl) (args := [.slice a0 l0 c0, .slice a1 l1 c1]) (by kernel_rfl) (D1.ok R _ h (gSlice_intro rfl (gSlice_intro rfl (g))))
end gnomonref01_Kept

namespace gnomonlaw02_norm
noncomputable def C : Code := bodyOf Try.f20
def D1.t (R : Rt) (a0 : Option Addr) (l0 : Nat) (c0 : Nat) (h : Hp) : Prop :=
  HC gnomonref01_Twin.id #[.slice a0 l0 c0] h fun v1 h2 =>
  gSlice v1 fun a_3 l_3 c_3 =>
  HC nat_Norm.id #[.slice a_3 l_3 c_3] h2 fun v4 h5 =>
  gTup v4 fun y6 =>
  uncons y6 fun v7 y7 =>
  gSlice v7 fun a_8 l_8 c_8 =>
  uncons y7 fun v9 y9 =>
  gInt .i64 v9 fun x_10 =>
  unnil y9 <| R (.tuple #[.slice a_8 l_8 c_8, .bool (x_10 == 0)]) h5
def D1.g (R : Rt) (fr : Fr) (h : Hp) : Prop := gSlice (fr 0) fun a0 l0 c0 => D1.t R a0 l0 c0 h
theorem D1.ok (R : Rt) (fr : Fr) (h : Hp) (g : D1.g R fr h) : den prog E C (retQ E [.tmp 2, .tmp 3] R) fr h := by
  obtain ⟨a0, l0, c0, e0, g⟩ := gSlice_elim g
  exact den_enter [(0, .slice a0 l0 c0)] ⟨e0, trivial⟩ (by kernel_rfl) g
def t (a0 : Option Addr) (l0 : Nat) (c0 : Nat) (h : Hp) (R : Rt) : Prop := D1.t R a0 l0 c0 h
theorem ok {a0 : Option Addr} {l0 : Nat} {c0 : Nat} {h : Hp} {R : Rt} (g : t a0 l0 c0 h R) : HC id #[.slice a0 l0 c0] h R :=
  calls_of_den' envOk (c := C) (rs := [.tmp 2, .tmp 3]) Try.func20 (by kernel_rfl) (by kernel_rfl) (by kernel_rfl) (args := [.slice a0 l0 c0]) (by kernel_rfl) (D1.ok R _ h (gSlice_intro rfl (g)))
end gnomonlaw02_norm

namespace natmul_Mul
noncomputable def C : Code := bodyOf Try.f21
def D2.t (R : Rt) (a0 : Option Addr) (l0 : Nat) (c0 : Nat) (a1 : Option Addr) (l1 : Nat) (c1 : Nat) (h : Hp) : Prop :=
  HC natmul_product.id #[.slice a0 l0 c0, .slice a1 l1 c1] h fun v7 h8 =>
  gSlice v7 fun a_9 l_9 c_9 =>
  HC natmul_told.id #[.slice a_9 l_9 c_9] h8 fun v10 h11 =>
  gTup v10 fun y12 =>
  uncons y12 fun v13 y13 =>
  gSlice v13 fun a_14 l_14 c_14 =>
  uncons y13 fun v15 y15 =>
  gInt .i64 v15 fun x_16 =>
  unnil y15 <| R (.tuple #[.slice a_14 l_14 c_14, .int .i64 x_16]) h11
def D2.g (R : Rt) (fr : Fr) (h : Hp) : Prop := gSlice (fr 0) fun a0 l0 c0 => gSlice (fr 1) fun a1 l1 c1 => D2.t R a0 l0 c0 a1 l1 c1 h
theorem D2.ok (R : Rt) (fr : Fr) (h : Hp) (g : D2.g R fr h) : den prog E (cAt C [true, true]) (retQ E [.tmp 4, .tmp 5] R) fr h := by
  obtain ⟨a0, l0, c0, e0, g⟩ := gSlice_elim g
  obtain ⟨a1, l1, c1, e1, g⟩ := gSlice_elim g
  exact den_enter [(0, .slice a0 l0 c0), (1, .slice a1 l1 c1)] ⟨e0, e1, trivial⟩ (by kernel_rfl) g
def D1.t (R : Rt) (a0 : Option Addr) (l0 : Nat) (c0 : Nat) (a1 : Option Addr) (l1 : Nat) (c1 : Nat) (h : Hp) : Prop :=
  HC nat_Form.id #[.slice a0 l0 c0] h fun v1 h2 =>
  gBool v1 fun b_3 =>
  cond (!b_3) (R (.tuple #[.slice none 0 0, .int .i64 2]) h2) (HC nat_Form.id #[.slice a1 l1 c1] h2 fun v4 h5 =>
  gBool v4 fun b_6 =>
  cond (!b_6) (R (.tuple #[.slice none 0 0, .int .i64 2]) h5) (D2.t R a0 l0 c0 a1 l1 c1 h5))
def D1.g (R : Rt) (fr : Fr) (h : Hp) : Prop := gSlice (fr 0) fun a0 l0 c0 => gSlice (fr 1) fun a1 l1 c1 => D1.t R a0 l0 c0 a1 l1 c1 h
theorem D1.ok (R : Rt) (fr : Fr) (h : Hp) (g : D1.g R fr h) : den prog E C (retQ E [.tmp 4, .tmp 5] R) fr h := by
  obtain ⟨a0, l0, c0, e0, g⟩ := gSlice_elim g
  obtain ⟨a1, l1, c1, e1, g⟩ := gSlice_elim g
  exact den_cut 2 (r := (cAt C [true, true])) (by kernel_rfl) (D2.ok R) (den_enter [(0, .slice a0 l0 c0), (1, .slice a1 l1 c1)] ⟨e0, e1, trivial⟩ (by kernel_rfl) g)
def t (a0 : Option Addr) (l0 : Nat) (c0 : Nat) (a1 : Option Addr) (l1 : Nat) (c1 : Nat) (h : Hp) (R : Rt) : Prop := D1.t R a0 l0 c0 a1 l1 c1 h
theorem ok {a0 : Option Addr} {l0 : Nat} {c0 : Nat} {a1 : Option Addr} {l1 : Nat} {c1 : Nat} {h : Hp} {R : Rt} (g : t a0 l0 c0 a1 l1 c1 h R) : HC id #[.slice a0 l0 c0, .slice a1 l1 c1] h R :=
  calls_of_den' envOk (c := C) (rs := [.tmp 4, .tmp 5]) Try.func21 (by kernel_rfl) (by kernel_rfl) (by kernel_rfl) (args := [.slice a0 l0 c0, .slice a1 l1 c1]) (by kernel_rfl) (D1.ok R _ h (gSlice_intro rfl (gSlice_intro rfl (g))))
end natmul_Mul

namespace gnomonlaw02_groups
noncomputable def C : Code := bodyOf Try.f22
def D2.t (R : Rt) (a0 : Option Addr) (l0 : Nat) (c0 : Nat) (a2 : Option Addr) (l2 : Nat) (c2 : Nat) (a7 : Option Addr) (l7 : Nat) (c7 : Nat) (a9 : Option Addr) (l9 : Nat) (c9 : Nat) (h : Hp) : Prop :=
  HC natmul_Mul.id #[.slice a7 l7 c7, .slice a2 l2 c2] h fun v15 h16 =>
  gTup v15 fun y17 =>
  uncons y17 fun v18 y18 =>
  gSlice v18 fun a_19 l_19 c_19 =>
  uncons y18 fun v20 y20 =>
  gInt .i64 v20 fun x_21 =>
  unnil y20 <| HC natmul_Mul.id #[.slice a0 l0 c0, .slice a9 l9 c9] h16 fun v22 h23 =>
  gTup v22 fun y24 =>
  uncons y24 fun v25 y25 =>
  gSlice v25 fun a_26 l_26 c_26 =>
  uncons y25 fun v27 y27 =>
  gInt .i64 v27 fun x_28 =>
  unnil y27 <| cond (x_21 == x_28) (HQC gnomonref01_Same.id #[.slice a_19 l_19 c_19, .slice a_26 l_26 c_26] h23 fun v29 =>
  gBool v29 fun b_30 =>
  R (.bool b_30) h23) (R (.bool false) h23)
def D2.g (R : Rt) (fr : Fr) (h : Hp) : Prop := gSlice (fr 0) fun a0 l0 c0 => gSlice (fr 2) fun a2 l2 c2 => gSlice (fr 7) fun a7 l7 c7 => gSlice (fr 9) fun a9 l9 c9 => D2.t R a0 l0 c0 a2 l2 c2 a7 l7 c7 a9 l9 c9 h
theorem D2.ok (R : Rt) (fr : Fr) (h : Hp) (g : D2.g R fr h) : den prog E (cAt C [true, true, true, true]) (retQ E [.tmp 6] R) fr h := by
  obtain ⟨a0, l0, c0, e0, g⟩ := gSlice_elim g
  obtain ⟨a2, l2, c2, e2, g⟩ := gSlice_elim g
  obtain ⟨a7, l7, c7, e7, g⟩ := gSlice_elim g
  obtain ⟨a9, l9, c9, e9, g⟩ := gSlice_elim g
  exact den_enter [(0, .slice a0 l0 c0), (2, .slice a2 l2 c2), (7, .slice a7 l7 c7), (9, .slice a9 l9 c9)] ⟨e0, e2, e7, e9, trivial⟩ (by kernel_rfl) g
def D1.t (R : Rt) (a0 : Option Addr) (l0 : Nat) (c0 : Nat) (a1 : Option Addr) (l1 : Nat) (c1 : Nat) (a2 : Option Addr) (l2 : Nat) (c2 : Nat) (h : Hp) : Prop :=
  HC natmul_Mul.id #[.slice a0 l0 c0, .slice a1 l1 c1] h fun v1 h2 =>
  gTup v1 fun y3 =>
  uncons y3 fun v4 y4 =>
  gSlice v4 fun a_5 l_5 c_5 =>
  uncons y4 fun v6 y6 =>
  gInt .i64 v6 fun x_7 =>
  unnil y6 <| HC natmul_Mul.id #[.slice a1 l1 c1, .slice a2 l2 c2] h2 fun v8 h9 =>
  gTup v8 fun y10 =>
  uncons y10 fun v11 y11 =>
  gSlice v11 fun a_12 l_12 c_12 =>
  uncons y11 fun v13 y13 =>
  gInt .i64 v13 fun x_14 =>
  unnil y13 <| cond (x_7 != 0) (cond (x_7 == 5) (R (.bool true) h9) (R (.bool (x_14 == 5)) h9)) (cond (x_14 != 0) (cond (x_7 == 5) (R (.bool true) h9) (R (.bool (x_14 == 5)) h9)) (D2.t R a0 l0 c0 a2 l2 c2 a_5 l_5 c_5 a_12 l_12 c_12 h9))
def D1.g (R : Rt) (fr : Fr) (h : Hp) : Prop := gSlice (fr 0) fun a0 l0 c0 => gSlice (fr 1) fun a1 l1 c1 => gSlice (fr 2) fun a2 l2 c2 => D1.t R a0 l0 c0 a1 l1 c1 a2 l2 c2 h
theorem D1.ok (R : Rt) (fr : Fr) (h : Hp) (g : D1.g R fr h) : den prog E C (retQ E [.tmp 6] R) fr h := by
  obtain ⟨a0, l0, c0, e0, g⟩ := gSlice_elim g
  obtain ⟨a1, l1, c1, e1, g⟩ := gSlice_elim g
  obtain ⟨a2, l2, c2, e2, g⟩ := gSlice_elim g
  exact den_cut 4 (r := (cAt C [true, true, true, true])) (by kernel_rfl) (D2.ok R) (den_enter [(0, .slice a0 l0 c0), (1, .slice a1 l1 c1), (2, .slice a2 l2 c2)] ⟨e0, e1, e2, trivial⟩ (by kernel_rfl) g)
def t (a0 : Option Addr) (l0 : Nat) (c0 : Nat) (a1 : Option Addr) (l1 : Nat) (c1 : Nat) (a2 : Option Addr) (l2 : Nat) (c2 : Nat) (h : Hp) (R : Rt) : Prop := D1.t R a0 l0 c0 a1 l1 c1 a2 l2 c2 h
theorem ok {a0 : Option Addr} {l0 : Nat} {c0 : Nat} {a1 : Option Addr} {l1 : Nat} {c1 : Nat} {a2 : Option Addr} {l2 : Nat} {c2 : Nat} {h : Hp} {R : Rt} (g : t a0 l0 c0 a1 l1 c1 a2 l2 c2 h R) : HC id #[.slice a0 l0 c0, .slice a1 l1 c1, .slice a2 l2 c2] h R :=
  calls_of_den' envOk (c := C) (rs := [.tmp 6]) Try.func22 (by kernel_rfl) (by kernel_rfl) (by kernel_rfl) (args := [.slice a0 l0 c0, .slice a1 l1 c1, .slice a2 l2 c2]) (by kernel_rfl) (D1.ok R _ h (gSlice_intro rfl (gSlice_intro rfl (gSlice_intro rfl (g)))))
end gnomonlaw02_groups

namespace gnomonlaw02_spreads
noncomputable def C : Code := bodyOf Try.f23
def D2.t (R : Rt) (a9 : Option Addr) (l9 : Nat) (c9 : Nat) (x10 : Int) (a11 : Option Addr) (l11 : Nat) (c11 : Nat) (a13 : Option Addr) (l13 : Nat) (c13 : Nat) (h : Hp) : Prop :=
  HC nat_Add.id #[.slice a11 l11 c11, .slice a13 l13 c13] h fun v29 h30 =>
  gTup v29 fun y31 =>
  uncons y31 fun v32 y32 =>
  gSlice v32 fun a_33 l_33 c_33 =>
  uncons y32 fun v34 y34 =>
  gInt .i64 v34 fun x_35 =>
  unnil y34 <| cond (x10 == x_35) (HQC gnomonref01_Same.id #[.slice a9 l9 c9, .slice a_33 l_33 c_33] h30 fun v36 =>
  gBool v36 fun b_37 =>
  R (.bool b_37) h30) (R (.bool false) h30)
def D2.g (R : Rt) (fr : Fr) (h : Hp) : Prop := gSlice (fr 9) fun a9 l9 c9 => gInt .i64 (fr 10) fun x10 => gSlice (fr 11) fun a11 l11 c11 => gSlice (fr 13) fun a13 l13 c13 => D2.t R a9 l9 c9 x10 a11 l11 c11 a13 l13 c13 h
theorem D2.ok (R : Rt) (fr : Fr) (h : Hp) (g : D2.g R fr h) : den prog E (cAt C [true, true, true, true, true, true, true]) (retQ E [.tmp 6] R) fr h := by
  obtain ⟨a9, l9, c9, e9, g⟩ := gSlice_elim g
  obtain ⟨x10, e10, g⟩ := gInt_elim g
  obtain ⟨a11, l11, c11, e11, g⟩ := gSlice_elim g
  obtain ⟨a13, l13, c13, e13, g⟩ := gSlice_elim g
  exact den_enter [(9, .slice a9 l9 c9), (10, .int .i64 x10), (11, .slice a11 l11 c11), (13, .slice a13 l13 c13)] ⟨e9, e10, e11, e13, trivial⟩ (by kernel_rfl) g
def D1.t (R : Rt) (a0 : Option Addr) (l0 : Nat) (c0 : Nat) (a1 : Option Addr) (l1 : Nat) (c1 : Nat) (a2 : Option Addr) (l2 : Nat) (c2 : Nat) (h : Hp) : Prop :=
  HC nat_Add.id #[.slice a1 l1 c1, .slice a2 l2 c2] h fun v1 h2 =>
  gTup v1 fun y3 =>
  uncons y3 fun v4 y4 =>
  gSlice v4 fun a_5 l_5 c_5 =>
  uncons y4 fun v6 y6 =>
  gInt .i64 v6 fun x_7 =>
  unnil y6 <| cond (x_7 != 0) (R (.bool true) h2) (HC natmul_Mul.id #[.slice a0 l0 c0, .slice a_5 l_5 c_5] h2 fun v8 h9 =>
  gTup v8 fun y10 =>
  uncons y10 fun v11 y11 =>
  gSlice v11 fun a_12 l_12 c_12 =>
  uncons y11 fun v13 y13 =>
  gInt .i64 v13 fun x_14 =>
  unnil y13 <| HC natmul_Mul.id #[.slice a0 l0 c0, .slice a1 l1 c1] h9 fun v15 h16 =>
  gTup v15 fun y17 =>
  uncons y17 fun v18 y18 =>
  gSlice v18 fun a_19 l_19 c_19 =>
  uncons y18 fun v20 y20 =>
  gInt .i64 v20 fun x_21 =>
  unnil y20 <| HC natmul_Mul.id #[.slice a0 l0 c0, .slice a2 l2 c2] h16 fun v22 h23 =>
  gTup v22 fun y24 =>
  uncons y24 fun v25 y25 =>
  gSlice v25 fun a_26 l_26 c_26 =>
  uncons y25 fun v27 y27 =>
  gInt .i64 v27 fun x_28 =>
  unnil y27 <| cond (x_21 != 0) (cond (x_14 == 5) (R (.bool ((((l_12 : Nat) : Int)) == 0)) h23) (R (.bool false) h23)) (cond (x_28 != 0) (cond (x_14 == 5) (R (.bool ((((l_12 : Nat) : Int)) == 0)) h23) (R (.bool false) h23)) (D2.t R a_12 l_12 c_12 x_14 a_19 l_19 c_19 a_26 l_26 c_26 h23)))
def D1.g (R : Rt) (fr : Fr) (h : Hp) : Prop := gSlice (fr 0) fun a0 l0 c0 => gSlice (fr 1) fun a1 l1 c1 => gSlice (fr 2) fun a2 l2 c2 => D1.t R a0 l0 c0 a1 l1 c1 a2 l2 c2 h
theorem D1.ok (R : Rt) (fr : Fr) (h : Hp) (g : D1.g R fr h) : den prog E C (retQ E [.tmp 6] R) fr h := by
  obtain ⟨a0, l0, c0, e0, g⟩ := gSlice_elim g
  obtain ⟨a1, l1, c1, e1, g⟩ := gSlice_elim g
  obtain ⟨a2, l2, c2, e2, g⟩ := gSlice_elim g
  exact den_cut 7 (r := (cAt C [true, true, true, true, true, true, true])) (by kernel_rfl) (D2.ok R) (den_enter [(0, .slice a0 l0 c0), (1, .slice a1 l1 c1), (2, .slice a2 l2 c2)] ⟨e0, e1, e2, trivial⟩ (by kernel_rfl) g)
def t (a0 : Option Addr) (l0 : Nat) (c0 : Nat) (a1 : Option Addr) (l1 : Nat) (c1 : Nat) (a2 : Option Addr) (l2 : Nat) (c2 : Nat) (h : Hp) (R : Rt) : Prop := D1.t R a0 l0 c0 a1 l1 c1 a2 l2 c2 h
theorem ok {a0 : Option Addr} {l0 : Nat} {c0 : Nat} {a1 : Option Addr} {l1 : Nat} {c1 : Nat} {a2 : Option Addr} {l2 : Nat} {c2 : Nat} {h : Hp} {R : Rt} (g : t a0 l0 c0 a1 l1 c1 a2 l2 c2 h R) : HC id #[.slice a0 l0 c0, .slice a1 l1 c1, .slice a2 l2 c2] h R :=
  calls_of_den' envOk (c := C) (rs := [.tmp 6]) Try.func23 (by kernel_rfl) (by kernel_rfl) (by kernel_rfl) (args := [.slice a0 l0 c0, .slice a1 l1 c1, .slice a2 l2 c2]) (by kernel_rfl) (D1.ok R _ h (gSlice_intro rfl (gSlice_intro rfl (gSlice_intro rfl (g)))))
end gnomonlaw02_spreads

namespace gnomonlaw02_rest
noncomputable def C : Code := bodyOf Try.f24
def D2.t (R : Rt) (x3 : Int) (h : Hp) : Prop :=
  R (.int .u64 x3) h
def D2.g (R : Rt) (fr : Fr) (h : Hp) : Prop := gInt .u64 (fr 3) fun x3 => D2.t R x3 h
theorem D2.ok (R : Rt) (fr : Fr) (h : Hp) (g : D2.g R fr h) : den prog E (cAt C [true, true, true]) (retQ E [.tmp 2] R) fr h := by
  obtain ⟨x3, e3, g⟩ := gInt_elim g
  exact den_enter [(3, .int .u64 x3)] ⟨e3, trivial⟩ (by kernel_rfl) g
def L4.g (N : Option Addr → Nat → Nat → Int → Int → Hp → Prop) (fr : Fr) (h : Hp) : Prop := gSlice (fr 0) fun a0 l0 c0 => gInt .u64 (fr 3) fun x3 => gInt .i64 (fr 4) fun x4 => N a0 l0 c0 x3 x4 h
def D5.t (R : Rt) (N4 : Option Addr → Nat → Nat → Int → Int → Hp → Prop) (a0 : Option Addr) (l0 : Nat) (c0 : Nat) (x3 : Int) (x4 : Int) (h : Hp) : Prop :=
  cond (decide (x4 ≥ 0)) (0 ≤ (32 : Int) ∧ letK (shlI .u64 x3 32) fun n2 =>
  idxK a0 l0 x4 1 fun q3 =>
  ldK h q3 fun v4 =>
  gInt .u64 v4 fun x_5 =>
  0 ≤ (32 : Int) ∧ letK (shrI .u64 x_5 32) fun n6 =>
  letK (IntKind.u64.wrap (n2 + n6)) fun n7 =>
  (4294967291 : Int) ≠ 0 ∧ letK (Int.tmod n7 4294967291) fun n8 =>
  0 ≤ (32 : Int) ∧ letK (shlI .u64 n8 32) fun n9 =>
  idxK a0 l0 x4 1 fun q10 =>
  ldK h q10 fun v11 =>
  gInt .u64 v11 fun x_12 =>
  letK (andI .u64 x_12 4294967295) fun n13 =>
  letK (IntKind.u64.wrap (n9 + n13)) fun n14 =>
  (4294967291 : Int) ≠ 0 ∧ letK (Int.tmod n14 4294967291) fun n15 =>
  letK (IntKind.i64.wrap (x4 - 1)) fun n16 =>
  N4 a0 l0 c0 n15 n16 h) (D2.t R x3 h)
def D5.g (R : Rt) (N4 : Option Addr → Nat → Nat → Int → Int → Hp → Prop) (fr : Fr) (h : Hp) : Prop := gSlice (fr 0) fun a0 l0 c0 => gInt .u64 (fr 3) fun x3 => gInt .i64 (fr 4) fun x4 => D5.t R N4 a0 l0 c0 x3 x4 h
theorem D5.ok (R : Rt) (N4 : Option Addr → Nat → Nat → Int → Int → Hp → Prop) (fr : Fr) (h : Hp) (g : D5.g R N4 fr h) : den prog E (cAt C [true, true, false, true, false, false]) (Ex.then (L4.g N4) (Ex.inBlock 0 (Ex.then (D2.g R) (retQ E [.tmp 2] R)))) fr h := by
  obtain ⟨a0, l0, c0, e0, g⟩ := gSlice_elim g
  obtain ⟨x3, e3, g⟩ := gInt_elim g
  obtain ⟨x4, e4, g⟩ := gInt_elim g
  exact den_enter [(0, .slice a0 l0 c0), (3, .int .u64 x3), (4, .int .i64 x4)] ⟨e0, e3, e4, trivial⟩ (by kernel_rfl) g
def L4.t (R : Rt) : Nat → Option Addr → Nat → Nat → Int → Int → Hp → Prop
  | 0 => fun _ _ _ _ _ _ => False
  | n + 1 => fun a0 l0 c0 x3 x4 h => D5.t R (L4.t R n) a0 l0 c0 x3 x4 h
theorem L4.ok (R : Rt) (fr : Fr) (h : Hp) (g : L4.g (fun a0 l0 c0 x3 x4 h => ∃ n, L4.t R n a0 l0 c0 x3 x4 h) fr h) : den prog E (cAt C [true, true, false, true, false]) (Ex.inBlock 0 (Ex.then (D2.g R) (retQ E [.tmp 2] R))) fr h := by
  obtain ⟨a0, l0, c0, e0, g⟩ := gSlice_elim g
  obtain ⟨x3, e3, g⟩ := gInt_elim g
  obtain ⟨x4, e4, g⟩ := gInt_elim g
  obtain ⟨n, g⟩ := g
  refine loop_ok (fun n => L4.g (L4.t R n)) (b := (cAt C [true, true, false, true, false, false])) (by kernel_rfl) (fun fr h g => ?_) (fun n => D5.ok R (L4.t R n)) n fr h (gSlice_intro e0 (gInt_intro e3 (gInt_intro e4 (g))))
  obtain ⟨a0, l0, c0, e0, g⟩ := gSlice_elim g
  obtain ⟨x3, e3, g⟩ := gInt_elim g
  obtain ⟨x4, e4, g⟩ := gInt_elim g
  exact g
theorem B6.ok (R : Rt) (fr : Fr) (h : Hp) (g : L4.g (fun a0 l0 c0 x3 x4 h => ∃ n, L4.t R n a0 l0 c0 x3 x4 h) fr h) : den prog E (cAt C [true, true, false, true]) (Ex.then (D2.g R) (retQ E [.tmp 2] R)) fr h :=
  den_block (by kernel_rfl) (L4.ok R fr h g)
def D3.t (R : Rt) (a0 : Option Addr) (l0 : Nat) (c0 : Nat) (x3 : Int) (h : Hp) : Prop :=
  letK (IntKind.i64.wrap ((((l0 : Nat) : Int)) - 1)) fun n1 => (∃ n, L4.t R n a0 l0 c0 x3 n1 h)
def D3.g (R : Rt) (fr : Fr) (h : Hp) : Prop := gSlice (fr 0) fun a0 l0 c0 => gInt .u64 (fr 3) fun x3 => D3.t R a0 l0 c0 x3 h
theorem D3.ok (R : Rt) (fr : Fr) (h : Hp) (g : D3.g R fr h) : den prog E (cAt C [true, true, false]) (Ex.then (D2.g R) (retQ E [.tmp 2] R)) fr h := by
  obtain ⟨a0, l0, c0, e0, g⟩ := gSlice_elim g
  obtain ⟨x3, e3, g⟩ := gInt_elim g
  exact den_cut 1 (r := (cAt C [true, true, false, true])) (by kernel_rfl) (B6.ok R) (den_enter [(0, .slice a0 l0 c0), (3, .int .u64 x3)] ⟨e0, e3, trivial⟩ (by kernel_rfl) g)
theorem W7.ok (R : Rt) (fr : Fr) (h : Hp) (g : D3.g R fr h) : den prog E (cAt C [true, true]) (retQ E [.tmp 2] R) fr h :=
  den_then (by kernel_rfl) (D2.ok R) (D3.ok R fr h g)
def D1.t (R : Rt) (a0 : Option Addr) (l0 : Nat) (c0 : Nat) (h : Hp) : Prop :=
  D3.t R a0 l0 c0 0 h
def D1.g (R : Rt) (fr : Fr) (h : Hp) : Prop := gSlice (fr 0) fun a0 l0 c0 => D1.t R a0 l0 c0 h
theorem D1.ok (R : Rt) (fr : Fr) (h : Hp) (g : D1.g R fr h) : den prog E C (retQ E [.tmp 2] R) fr h := by
  obtain ⟨a0, l0, c0, e0, g⟩ := gSlice_elim g
  exact den_cut 2 (r := (cAt C [true, true])) (by kernel_rfl) (W7.ok R) (den_enter [(0, .slice a0 l0 c0)] ⟨e0, trivial⟩ (by kernel_rfl) g)
def t (a0 : Option Addr) (l0 : Nat) (c0 : Nat) (h : Hp) (R : Rt) : Prop := D1.t R a0 l0 c0 h
theorem ok {a0 : Option Addr} {l0 : Nat} {c0 : Nat} {h : Hp} {R : Rt} (g : t a0 l0 c0 h R) : HC id #[.slice a0 l0 c0] h R :=
  calls_of_den' envOk (c := C) (rs := [.tmp 2]) Try.func24 (by kernel_rfl) (by kernel_rfl) (by kernel_rfl) (args := [.slice a0 l0 c0]) (by kernel_rfl) (D1.ok R _ h (gSlice_intro rfl (g)))
end gnomonlaw02_rest

namespace nat_Bits
noncomputable def C : Code := bodyOf Try.f25
def D1.t (R : Rt) (a0 : Option Addr) (l0 : Nat) (c0 : Nat) (h : Hp) : Prop :=
  HC nat_trim.id #[.slice a0 l0 c0] h fun v1 h2 =>
  gSlice v1 fun a_3 l_3 c_3 =>
  cond ((((l_3 : Nat) : Int)) == 0) (R (.int .i64 0) h2) (letK (IntKind.i64.wrap ((((l_3 : Nat) : Int)) - 1)) fun n4 =>
  letK (IntKind.i64.wrap (64 * n4)) fun n5 =>
  letK (IntKind.i64.wrap ((((l_3 : Nat) : Int)) - 1)) fun n6 =>
  idxK a_3 l_3 n6 1 fun q7 =>
  ldK h2 q7 fun v8 =>
  gInt .u64 v8 fun x_9 =>
  HC bits_Len64.id #[.int .u64 x_9] h2 fun v10 h11 =>
  gInt .i64 v10 fun x_12 =>
  letK (IntKind.i64.wrap (n5 + x_12)) fun n13 =>
  R (.int .i64 n13) h11)
def D1.g (R : Rt) (fr : Fr) (h : Hp) : Prop := gSlice (fr 0) fun a0 l0 c0 => D1.t R a0 l0 c0 h
theorem D1.ok (R : Rt) (fr : Fr) (h : Hp) (g : D1.g R fr h) : den prog E C (retQ E [.tmp 2] R) fr h := by
  obtain ⟨a0, l0, c0, e0, g⟩ := gSlice_elim g
  exact den_enter [(0, .slice a0 l0 c0)] ⟨e0, trivial⟩ (by kernel_rfl) g
def t (a0 : Option Addr) (l0 : Nat) (c0 : Nat) (h : Hp) (R : Rt) : Prop := D1.t R a0 l0 c0 h
theorem ok {a0 : Option Addr} {l0 : Nat} {c0 : Nat} {h : Hp} {R : Rt} (g : t a0 l0 c0 h R) : HC id #[.slice a0 l0 c0] h R :=
  calls_of_den' envOk (c := C) (rs := [.tmp 2]) Try.func25 (by kernel_rfl) (by kernel_rfl) (by kernel_rfl) (args := [.slice a0 l0 c0]) (by kernel_rfl) (D1.ok R _ h (gSlice_intro rfl (g)))
end nat_Bits

namespace gnomonlaw02_pairs
noncomputable def C : Code := bodyOf Try.f26
def D2.t (R : Rt)  (h : Hp) : Prop :=
  R (.bool true) h
def D2.g (R : Rt) (fr : Fr) (h : Hp) : Prop := D2.t R  h
theorem D2.ok (R : Rt) (fr : Fr) (h : Hp) (g : D2.g R fr h) : den prog E (cAt C [true, true]) (retQ E [.tmp 2] R) fr h := by
  exact den_enter [] trivial (by kernel_rfl) g
def L4.g (N : Option Addr → Nat → Nat → Int → Hp → Prop) (fr : Fr) (h : Hp) : Prop := gSlice (fr 0) fun a0 l0 c0 => gInt .i64 (fr 3) fun x3 => N a0 l0 c0 x3 h
def D5.t (R : Rt) (N4 : Option Addr → Nat → Nat → Int → Hp → Prop) (a0 : Option Addr) (l0 : Nat) (c0 : Nat) (x3 : Int) (h : Hp) : Prop :=
  letK (IntKind.i64.wrap (x3 + 1)) fun n1 =>
  cond (decide (n1 < (((l0 : Nat) : Int)))) (idxK a0 l0 x3 1 fun q2 =>
  ldK h q2 fun v3 =>
  gSlice v3 fun a_4 l_4 c_4 =>
  letK (IntKind.i64.wrap (x3 + 1)) fun n5 =>
  idxK a0 l0 n5 1 fun q6 =>
  ldK h q6 fun v7 =>
  gSlice v7 fun a_8 l_8 c_8 =>
  HC natmul_Mul.id #[.slice a_4 l_4 c_4, .slice a_8 l_8 c_8] h fun v9 h10 =>
  gTup v9 fun y11 =>
  uncons y11 fun v12 y12 =>
  gSlice v12 fun a_13 l_13 c_13 =>
  uncons y12 fun v14 y14 =>
  gInt .i64 v14 fun x_15 =>
  unnil y14 <| idxK a0 l0 x3 1 fun q16 =>
  ldK h10 q16 fun v17 =>
  gSlice v17 fun a_18 l_18 c_18 =>
  HC natmul_Sqr.id #[.slice a_18 l_18 c_18] h10 fun v19 h20 =>
  gTup v19 fun y21 =>
  uncons y21 fun v22 y22 =>
  gSlice v22 fun a_23 l_23 c_23 =>
  uncons y22 fun v24 y24 =>
  gInt .i64 v24 fun x_25 =>
  unnil y24 <| cond (x_15 != 0) (R (.bool false) h20) (HQC gnomonlaw02_rest.id #[.slice a_13 l_13 c_13] h20 fun v26 =>
  gInt .u64 v26 fun x_27 =>
  idxK a0 l0 x3 1 fun q28 =>
  ldK h20 q28 fun v29 =>
  gSlice v29 fun a_30 l_30 c_30 =>
  HQC gnomonlaw02_rest.id #[.slice a_30 l_30 c_30] h20 fun v31 =>
  gInt .u64 v31 fun x_32 =>
  letK (IntKind.i64.wrap (x3 + 1)) fun n33 =>
  idxK a0 l0 n33 1 fun q34 =>
  ldK h20 q34 fun v35 =>
  gSlice v35 fun a_36 l_36 c_36 =>
  HQC gnomonlaw02_rest.id #[.slice a_36 l_36 c_36] h20 fun v37 =>
  gInt .u64 v37 fun x_38 =>
  letK (IntKind.u64.wrap (x_32 * x_38)) fun n39 =>
  (4294967291 : Int) ≠ 0 ∧ letK (Int.tmod n39 4294967291) fun n40 =>
  cond (x_27 != n40) (R (.bool false) h20) (cond (x_25 == 0) (HQC gnomonlaw02_rest.id #[.slice a_23 l_23 c_23] h20 fun v41 =>
  gInt .u64 v41 fun x_42 =>
  idxK a0 l0 x3 1 fun q43 =>
  ldK h20 q43 fun v44 =>
  gSlice v44 fun a_45 l_45 c_45 =>
  HQC gnomonlaw02_rest.id #[.slice a_45 l_45 c_45] h20 fun v46 =>
  gInt .u64 v46 fun x_47 =>
  idxK a0 l0 x3 1 fun q48 =>
  ldK h20 q48 fun v49 =>
  gSlice v49 fun a_50 l_50 c_50 =>
  HQC gnomonlaw02_rest.id #[.slice a_50 l_50 c_50] h20 fun v51 =>
  gInt .u64 v51 fun x_52 =>
  letK (IntKind.u64.wrap (x_47 * x_52)) fun n53 =>
  (4294967291 : Int) ≠ 0 ∧ letK (Int.tmod n53 4294967291) fun n54 =>
  cond (x_42 != n54) (R (.bool false) h20) (letK (IntKind.i64.wrap (x3 + 1)) fun n55 =>
  N4 a0 l0 c0 n55 h20)) (letK (IntKind.i64.wrap (x3 + 1)) fun n56 =>
  N4 a0 l0 c0 n56 h20)))) (D2.t R h)
def D5.g (R : Rt) (N4 : Option Addr → Nat → Nat → Int → Hp → Prop) (fr : Fr) (h : Hp) : Prop := gSlice (fr 0) fun a0 l0 c0 => gInt .i64 (fr 3) fun x3 => D5.t R N4 a0 l0 c0 x3 h
theorem D5.ok (R : Rt) (N4 : Option Addr → Nat → Nat → Int → Hp → Prop) (fr : Fr) (h : Hp) (g : D5.g R N4 fr h) : den prog E (cAt C [true, false, true, false, false]) (Ex.then (L4.g N4) (Ex.inBlock 0 (Ex.then (D2.g R) (retQ E [.tmp 2] R)))) fr h := by
  obtain ⟨a0, l0, c0, e0, g⟩ := gSlice_elim g
  obtain ⟨x3, e3, g⟩ := gInt_elim g
  exact den_enter [(0, .slice a0 l0 c0), (3, .int .i64 x3)] ⟨e0, e3, trivial⟩ (by kernel_rfl) g
def L4.t (R : Rt) : Nat → Option Addr → Nat → Nat → Int → Hp → Prop
  | 0 => fun _ _ _ _ _ => False
  | n + 1 => fun a0 l0 c0 x3 h => D5.t R (L4.t R n) a0 l0 c0 x3 h
theorem L4.ok (R : Rt) (fr : Fr) (h : Hp) (g : L4.g (fun a0 l0 c0 x3 h => ∃ n, L4.t R n a0 l0 c0 x3 h) fr h) : den prog E (cAt C [true, false, true, false]) (Ex.inBlock 0 (Ex.then (D2.g R) (retQ E [.tmp 2] R))) fr h := by
  obtain ⟨a0, l0, c0, e0, g⟩ := gSlice_elim g
  obtain ⟨x3, e3, g⟩ := gInt_elim g
  obtain ⟨n, g⟩ := g
  refine loop_ok (fun n => L4.g (L4.t R n)) (b := (cAt C [true, false, true, false, false])) (by kernel_rfl) (fun fr h g => ?_) (fun n => D5.ok R (L4.t R n)) n fr h (gSlice_intro e0 (gInt_intro e3 (g)))
  obtain ⟨a0, l0, c0, e0, g⟩ := gSlice_elim g
  obtain ⟨x3, e3, g⟩ := gInt_elim g
  exact g
theorem B6.ok (R : Rt) (fr : Fr) (h : Hp) (g : L4.g (fun a0 l0 c0 x3 h => ∃ n, L4.t R n a0 l0 c0 x3 h) fr h) : den prog E (cAt C [true, false, true]) (Ex.then (D2.g R) (retQ E [.tmp 2] R)) fr h :=
  den_block (by kernel_rfl) (L4.ok R fr h g)
def D3.t (R : Rt) (a0 : Option Addr) (l0 : Nat) (c0 : Nat) (h : Hp) : Prop :=
  (∃ n, L4.t R n a0 l0 c0 0 h)
def D3.g (R : Rt) (fr : Fr) (h : Hp) : Prop := gSlice (fr 0) fun a0 l0 c0 => D3.t R a0 l0 c0 h
theorem D3.ok (R : Rt) (fr : Fr) (h : Hp) (g : D3.g R fr h) : den prog E (cAt C [true, false]) (Ex.then (D2.g R) (retQ E [.tmp 2] R)) fr h := by
  obtain ⟨a0, l0, c0, e0, g⟩ := gSlice_elim g
  exact den_cut 1 (r := (cAt C [true, false, true])) (by kernel_rfl) (B6.ok R) (den_enter [(0, .slice a0 l0 c0)] ⟨e0, trivial⟩ (by kernel_rfl) g)
theorem W7.ok (R : Rt) (fr : Fr) (h : Hp) (g : D3.g R fr h) : den prog E (cAt C [true]) (retQ E [.tmp 2] R) fr h :=
  den_then (by kernel_rfl) (D2.ok R) (D3.ok R fr h g)
def D1.t (R : Rt) (a0 : Option Addr) (l0 : Nat) (c0 : Nat) (h : Hp) : Prop :=
  D3.t R a0 l0 c0 h
def D1.g (R : Rt) (fr : Fr) (h : Hp) : Prop := gSlice (fr 0) fun a0 l0 c0 => D1.t R a0 l0 c0 h
theorem D1.ok (R : Rt) (fr : Fr) (h : Hp) (g : D1.g R fr h) : den prog E C (retQ E [.tmp 2] R) fr h := by
  obtain ⟨a0, l0, c0, e0, g⟩ := gSlice_elim g
  exact den_cut 1 (r := (cAt C [true])) (by kernel_rfl) (W7.ok R) (den_enter [(0, .slice a0 l0 c0)] ⟨e0, trivial⟩ (by kernel_rfl) g)
def t (a0 : Option Addr) (l0 : Nat) (c0 : Nat) (h : Hp) (R : Rt) : Prop := D1.t R a0 l0 c0 h
theorem ok {a0 : Option Addr} {l0 : Nat} {c0 : Nat} {h : Hp} {R : Rt} (g : t a0 l0 c0 h R) : HC id #[.slice a0 l0 c0] h R :=
  calls_of_den' envOk (c := C) (rs := [.tmp 2]) Try.func26 (by kernel_rfl) (by kernel_rfl) (by kernel_rfl) (args := [.slice a0 l0 c0]) (by kernel_rfl) (D1.ok R _ h (gSlice_intro rfl (g)))
end gnomonlaw02_pairs

namespace natmul_Pow
noncomputable def C : Code := bodyOf Try.f27
def D1.t (R : Rt) (a0 : Option Addr) (l0 : Nat) (c0 : Nat) (x1 : Int) (h : Hp) : Prop :=
  cond (decide (x1 < 0)) (R (.tuple #[.slice none 0 0, .int .i64 1]) h) (HC nat_Form.id #[.slice a0 l0 c0] h fun v1 h2 =>
  gBool v1 fun b_3 =>
  cond (!b_3) (R (.tuple #[.slice none 0 0, .int .i64 2]) h2) (cond (x1 == 0) (boxK h2 28 [.int .u64 1] fun q4 h5 =>
  R (.tuple #[.slice (some q4) 1 1, .int .i64 0]) h5) (HC nat_Bits.id #[.slice a0 l0 c0] h2 fun v6 h7 =>
  gInt .i64 v6 fun x_8 =>
  cond (decide (x_8 ≤ 1)) (mkK h7 28 T28 (((l0 : Nat) : Int)) (((l0 : Nat) : Int)) fun q9 h10 =>
  cpK h10 1 (some q9) ((((l0 : Nat) : Int)).toNat) (.slice a0 l0 c0) fun n11 h11 =>
  R (.tuple #[.slice (some q9) ((((l0 : Nat) : Int)).toNat) ((((l0 : Nat) : Int)).toNat), .int .i64 0]) h11) (letK (IntKind.i64.wrap (x_8 - 1)) fun n12 =>
  n12 ≠ 0 ∧ letK (IntKind.i64.wrap (Int.tdiv 524288 n12)) fun n13 =>
  cond (decide (x1 > n13)) (R (.tuple #[.slice none 0 0, .int .i64 5]) h7) (HC natmul_power.id #[.slice a0 l0 c0, .int .i64 x1] h7 fun v14 h15 =>
  gSlice v14 fun a_16 l_16 c_16 =>
  HC natmul_told.id #[.slice a_16 l_16 c_16] h15 fun v17 h18 =>
  gTup v17 fun y19 =>
  uncons y19 fun v20 y20 =>
  gSlice v20 fun a_21 l_21 c_21 =>
  uncons y20 fun v22 y22 =>
  gInt .i64 v22 fun x_23 =>
  unnil y22 <| R (.tuple #[.slice a_21 l_21 c_21, .int .i64 x_23]) h18)))))
def D1.g (R : Rt) (fr : Fr) (h : Hp) : Prop := gSlice (fr 0) fun a0 l0 c0 => gInt .i64 (fr 1) fun x1 => D1.t R a0 l0 c0 x1 h
theorem D1.ok (R : Rt) (fr : Fr) (h : Hp) (g : D1.g R fr h) : den prog E C (retQ E [.tmp 4, .tmp 5] R) fr h := by
  obtain ⟨a0, l0, c0, e0, g⟩ := gSlice_elim g
  obtain ⟨x1, e1, g⟩ := gInt_elim g
  exact den_enter [(0, .slice a0 l0 c0), (1, .int .i64 x1)] ⟨e0, e1, trivial⟩ (by kernel_rfl) g
def t (a0 : Option Addr) (l0 : Nat) (c0 : Nat) (x1 : Int) (h : Hp) (R : Rt) : Prop := D1.t R a0 l0 c0 x1 h
theorem ok {a0 : Option Addr} {l0 : Nat} {c0 : Nat} {x1 : Int} {h : Hp} {R : Rt} (g : t a0 l0 c0 x1 h R) : HC id #[.slice a0 l0 c0, .int .i64 x1] h R :=
  calls_of_den' envOk (c := C) (rs := [.tmp 4, .tmp 5]) Try.func27 (by kernel_rfl) (by kernel_rfl) (by kernel_rfl) (args := [.slice a0 l0 c0, .int .i64 x1]) (by kernel_rfl) (D1.ok R _ h (gSlice_intro rfl (gInt_intro rfl (g))))
end natmul_Pow

namespace nat_Cmp
noncomputable def C : Code := bodyOf Try.f28
def D2.t (R : Rt)  (h : Hp) : Prop :=
  R (.int .i64 0) h
def D2.g (R : Rt) (fr : Fr) (h : Hp) : Prop := D2.t R  h
theorem D2.ok (R : Rt) (fr : Fr) (h : Hp) (g : D2.g R fr h) : den prog E (cAt C [true, true, true, true]) (retQ E [.tmp 4] R) fr h := by
  exact den_enter [] trivial (by kernel_rfl) g
def L4.g (N : Option Addr → Nat → Nat → Option Addr → Nat → Nat → Int → Hp → Prop) (fr : Fr) (h : Hp) : Prop := gSlice (fr 5) fun a5 l5 c5 => gSlice (fr 6) fun a6 l6 c6 => gInt .i64 (fr 7) fun x7 => N a5 l5 c5 a6 l6 c6 x7 h
def D5.t (R : Rt) (N4 : Option Addr → Nat → Nat → Option Addr → Nat → Nat → Int → Hp → Prop) (a5 : Option Addr) (l5 : Nat) (c5 : Nat) (a6 : Option Addr) (l6 : Nat) (c6 : Nat) (x7 : Int) (h : Hp) : Prop :=
  cond (decide (x7 ≥ 0)) (idxK a5 l5 x7 1 fun q8 =>
  ldK h q8 fun v9 =>
  gInt .u64 v9 fun x_10 =>
  idxK a6 l6 x7 1 fun q11 =>
  ldK h q11 fun v12 =>
  gInt .u64 v12 fun x_13 =>
  cond (x_10 != x_13) (idxK a5 l5 x7 1 fun q14 =>
  ldK h q14 fun v15 =>
  gInt .u64 v15 fun x_16 =>
  idxK a6 l6 x7 1 fun q17 =>
  ldK h q17 fun v18 =>
  gInt .u64 v18 fun x_19 =>
  cond (decide (x_16 < x_19)) (R (.int .i64 (-1)) h) (R (.int .i64 1) h)) (letK (IntKind.i64.wrap (x7 - 1)) fun n20 =>
  N4 a5 l5 c5 a6 l6 c6 n20 h)) (D2.t R h)
def D5.g (R : Rt) (N4 : Option Addr → Nat → Nat → Option Addr → Nat → Nat → Int → Hp → Prop) (fr : Fr) (h : Hp) : Prop := gSlice (fr 5) fun a5 l5 c5 => gSlice (fr 6) fun a6 l6 c6 => gInt .i64 (fr 7) fun x7 => D5.t R N4 a5 l5 c5 a6 l6 c6 x7 h
theorem D5.ok (R : Rt) (N4 : Option Addr → Nat → Nat → Option Addr → Nat → Nat → Int → Hp → Prop) (fr : Fr) (h : Hp) (g : D5.g R N4 fr h) : den prog E (cAt C [true, true, true, false, true, false, false]) (Ex.then (L4.g N4) (Ex.inBlock 0 (Ex.then (D2.g R) (retQ E [.tmp 4] R)))) fr h := by
  obtain ⟨a5, l5, c5, e5, g⟩ := gSlice_elim g
  obtain ⟨a6, l6, c6, e6, g⟩ := gSlice_elim g
  obtain ⟨x7, e7, g⟩ := gInt_elim g
  exact den_enter [(5, .slice a5 l5 c5), (6, .slice a6 l6 c6), (7, .int .i64 x7)] ⟨e5, e6, e7, trivial⟩ (by kernel_rfl) g
def L4.t (R : Rt) : Nat → Option Addr → Nat → Nat → Option Addr → Nat → Nat → Int → Hp → Prop
  | 0 => fun _ _ _ _ _ _ _ _ => False
  | n + 1 => fun a5 l5 c5 a6 l6 c6 x7 h => D5.t R (L4.t R n) a5 l5 c5 a6 l6 c6 x7 h
theorem L4.ok (R : Rt) (fr : Fr) (h : Hp) (g : L4.g (fun a5 l5 c5 a6 l6 c6 x7 h => ∃ n, L4.t R n a5 l5 c5 a6 l6 c6 x7 h) fr h) : den prog E (cAt C [true, true, true, false, true, false]) (Ex.inBlock 0 (Ex.then (D2.g R) (retQ E [.tmp 4] R))) fr h := by
  obtain ⟨a5, l5, c5, e5, g⟩ := gSlice_elim g
  obtain ⟨a6, l6, c6, e6, g⟩ := gSlice_elim g
  obtain ⟨x7, e7, g⟩ := gInt_elim g
  obtain ⟨n, g⟩ := g
  refine loop_ok (fun n => L4.g (L4.t R n)) (b := (cAt C [true, true, true, false, true, false, false])) (by kernel_rfl) (fun fr h g => ?_) (fun n => D5.ok R (L4.t R n)) n fr h (gSlice_intro e5 (gSlice_intro e6 (gInt_intro e7 (g))))
  obtain ⟨a5, l5, c5, e5, g⟩ := gSlice_elim g
  obtain ⟨a6, l6, c6, e6, g⟩ := gSlice_elim g
  obtain ⟨x7, e7, g⟩ := gInt_elim g
  exact g
theorem B6.ok (R : Rt) (fr : Fr) (h : Hp) (g : L4.g (fun a5 l5 c5 a6 l6 c6 x7 h => ∃ n, L4.t R n a5 l5 c5 a6 l6 c6 x7 h) fr h) : den prog E (cAt C [true, true, true, false, true]) (Ex.then (D2.g R) (retQ E [.tmp 4] R)) fr h :=
  den_block (by kernel_rfl) (L4.ok R fr h g)
def D3.t (R : Rt) (a5 : Option Addr) (l5 : Nat) (c5 : Nat) (a6 : Option Addr) (l6 : Nat) (c6 : Nat) (h : Hp) : Prop :=
  letK (IntKind.i64.wrap ((((l5 : Nat) : Int)) - 1)) fun n7 => (∃ n, L4.t R n a5 l5 c5 a6 l6 c6 n7 h)
def D3.g (R : Rt) (fr : Fr) (h : Hp) : Prop := gSlice (fr 5) fun a5 l5 c5 => gSlice (fr 6) fun a6 l6 c6 => D3.t R a5 l5 c5 a6 l6 c6 h
theorem D3.ok (R : Rt) (fr : Fr) (h : Hp) (g : D3.g R fr h) : den prog E (cAt C [true, true, true, false]) (Ex.then (D2.g R) (retQ E [.tmp 4] R)) fr h := by
  obtain ⟨a5, l5, c5, e5, g⟩ := gSlice_elim g
  obtain ⟨a6, l6, c6, e6, g⟩ := gSlice_elim g
  exact den_cut 1 (r := (cAt C [true, true, true, false, true])) (by kernel_rfl) (B6.ok R) (den_enter [(5, .slice a5 l5 c5), (6, .slice a6 l6 c6)] ⟨e5, e6, trivial⟩ (by kernel_rfl) g)
theorem W7.ok (R : Rt) (fr : Fr) (h : Hp) (g : D3.g R fr h) : den prog E (cAt C [true, true, true]) (retQ E [.tmp 4] R) fr h :=
  den_then (by kernel_rfl) (D2.ok R) (D3.ok R fr h g)
def D1.t (R : Rt) (a0 : Option Addr) (l0 : Nat) (c0 : Nat) (a1 : Option Addr) (l1 : Nat) (c1 : Nat) (h : Hp) : Prop :=
  HC nat_trim.id #[.slice a0 l0 c0] h fun v1 h2 =>
  gSlice v1 fun a_3 l_3 c_3 =>
  HC nat_trim.id #[.slice a1 l1 c1] h2 fun v4 h5 =>
  gSlice v4 fun a_6 l_6 c_6 =>
  cond ((((l_3 : Nat) : Int)) != (((l_6 : Nat) : Int))) (cond (decide ((((l_3 : Nat) : Int)) < (((l_6 : Nat) : Int)))) (R (.int .i64 (-1)) h5) (R (.int .i64 1) h5)) (D3.t R a_3 l_3 c_3 a_6 l_6 c_6 h5)
def D1.g (R : Rt) (fr : Fr) (h : Hp) : Prop := gSlice (fr 0) fun a0 l0 c0 => gSlice (fr 1) fun a1 l1 c1 => D1.t R a0 l0 c0 a1 l1 c1 h
theorem D1.ok (R : Rt) (fr : Fr) (h : Hp) (g : D1.g R fr h) : den prog E C (retQ E [.tmp 4] R) fr h := by
  obtain ⟨a0, l0, c0, e0, g⟩ := gSlice_elim g
  obtain ⟨a1, l1, c1, e1, g⟩ := gSlice_elim g
  exact den_cut 3 (r := (cAt C [true, true, true])) (by kernel_rfl) (W7.ok R) (den_enter [(0, .slice a0 l0 c0), (1, .slice a1 l1 c1)] ⟨e0, e1, trivial⟩ (by kernel_rfl) g)
def t (a0 : Option Addr) (l0 : Nat) (c0 : Nat) (a1 : Option Addr) (l1 : Nat) (c1 : Nat) (h : Hp) (R : Rt) : Prop := D1.t R a0 l0 c0 a1 l1 c1 h
theorem ok {a0 : Option Addr} {l0 : Nat} {c0 : Nat} {a1 : Option Addr} {l1 : Nat} {c1 : Nat} {h : Hp} {R : Rt} (g : t a0 l0 c0 a1 l1 c1 h R) : HC id #[.slice a0 l0 c0, .slice a1 l1 c1] h R :=
  calls_of_den' envOk (c := C) (rs := [.tmp 4]) Try.func28 (by kernel_rfl) (by kernel_rfl) (by kernel_rfl) (args := [.slice a0 l0 c0, .slice a1 l1 c1]) (by kernel_rfl) (D1.ok R _ h (gSlice_intro rfl (gSlice_intro rfl (g))))
end nat_Cmp

namespace gnomonlaw02_all
noncomputable def C : Code := bodyOf Try.f29
def D2.t (R : Rt)  (h : Hp) : Prop :=
  R (.bool true) h
def D2.g (R : Rt) (fr : Fr) (h : Hp) : Prop := D2.t R  h
theorem D2.ok (R : Rt) (fr : Fr) (h : Hp) (g : D2.g R fr h) : den prog E (cAt C [true, true]) (retQ E [.tmp 6] R) fr h := by
  exact den_enter [] trivial (by kernel_rfl) g
def L4.g (N : Int → Int → Option Addr → Nat → Nat → Int → Int → Hp → Prop) (fr : Fr) (h : Hp) : Prop := gInt .i64 (fr 1) fun x1 => gInt .i64 (fr 2) fun x2 => gSlice (fr 9) fun a9 l9 c9 => gInt .i64 (fr 10) fun x10 => gInt .i64 (fr 11) fun x11 => N x1 x2 a9 l9 c9 x10 x11 h
def D5.t (R : Rt) (N4 : Int → Int → Option Addr → Nat → Nat → Int → Int → Hp → Prop) (x1 : Int) (x2 : Int) (a9 : Option Addr) (l9 : Nat) (c9 : Nat) (x10 : Int) (x11 : Int) (h : Hp) : Prop :=
  cond (decide (x11 < x10)) (idxK a9 l9 x11 5 fun q1 =>
  ldK h (q1.add 0) fun v2 =>
  gInt .i64 v2 fun x_3 =>
  ldK h (q1.add 1) fun v4 =>
  gSlice v4 fun a_5 l_5 c_5 =>
  ldK h (q1.add 2) fun v6 =>
  gSlice v6 fun a_7 l_7 c_7 =>
  ldK h (q1.add 3) fun v8 =>
  gInt .i64 v8 fun x_9 =>
  ldK h (q1.add 4) fun v10 =>
  gSlice v10 fun a_11 l_11 c_11 =>
  boxK h 52 T52.zs fun q12 h13 =>
  stK h13 (q12.add 0) (.int .i64 x_3) fun h14 =>
  stK h14 (q12.add 1) (.slice a_5 l_5 c_5) fun h15 =>
  stK h15 (q12.add 2) (.slice a_7 l_7 c_7) fun h16 =>
  stK h16 (q12.add 3) (.int .i64 x_9) fun h17 =>
  stK h17 (q12.add 4) (.slice a_11 l_11 c_11) fun h18 =>
  ldK h18 (q12.add 0) fun v19 =>
  gInt .i64 v19 fun x_20 =>
  cond (decide (x_20 ≥ x1)) (ldK h18 (q12.add 0) fun v21 =>
  gInt .i64 v21 fun x_22 =>
  cond (decide (x_22 ≤ x2)) (ldK h18 (q12.add 0) fun v23 =>
  gInt .i64 v23 fun x_24 =>
  ldK h18 (q12.add 1) fun v25 =>
  gSlice v25 fun a_26 l_26 c_26 =>
  ldK h18 (q12.add 2) fun v27 =>
  gSlice v27 fun a_28 l_28 c_28 =>
  ldK h18 (q12.add 3) fun v29 =>
  gInt .i64 v29 fun x_30 =>
  ldK h18 (q12.add 4) fun v31 =>
  gSlice v31 fun a_32 l_32 c_32 =>
  HC gnomonlaw02_plays.id #[.agg #[.int .i64 x_24, .slice a_26 l_26 c_26, .slice a_28 l_28 c_28, .int .i64 x_30, .slice a_32 l_32 c_32]] h18 fun v33 h34 =>
  gBool v33 fun b_35 =>
  cond (!b_35) (R (.bool false) h34) (letK (IntKind.i64.wrap (x11 + 1)) fun n36 =>
  N4 x1 x2 a9 l9 c9 x10 n36 h34)) (letK (IntKind.i64.wrap (x11 + 1)) fun n37 =>
  N4 x1 x2 a9 l9 c9 x10 n37 h18)) (letK (IntKind.i64.wrap (x11 + 1)) fun n38 =>
  N4 x1 x2 a9 l9 c9 x10 n38 h18)) (D2.t R h)
def D5.g (R : Rt) (N4 : Int → Int → Option Addr → Nat → Nat → Int → Int → Hp → Prop) (fr : Fr) (h : Hp) : Prop := gInt .i64 (fr 1) fun x1 => gInt .i64 (fr 2) fun x2 => gSlice (fr 9) fun a9 l9 c9 => gInt .i64 (fr 10) fun x10 => gInt .i64 (fr 11) fun x11 => D5.t R N4 x1 x2 a9 l9 c9 x10 x11 h
theorem D5.ok (R : Rt) (N4 : Int → Int → Option Addr → Nat → Nat → Int → Int → Hp → Prop) (fr : Fr) (h : Hp) (g : D5.g R N4 fr h) : den prog E (cAt C [true, false, true, false, false]) (Ex.then (L4.g N4) (Ex.inBlock 0 (Ex.then (D2.g R) (retQ E [.tmp 6] R)))) fr h := by
  obtain ⟨x1, e1, g⟩ := gInt_elim g
  obtain ⟨x2, e2, g⟩ := gInt_elim g
  obtain ⟨a9, l9, c9, e9, g⟩ := gSlice_elim g
  obtain ⟨x10, e10, g⟩ := gInt_elim g
  obtain ⟨x11, e11, g⟩ := gInt_elim g
  exact den_enter [(1, .int .i64 x1), (2, .int .i64 x2), (9, .slice a9 l9 c9), (10, .int .i64 x10), (11, .int .i64 x11)] ⟨e1, e2, e9, e10, e11, trivial⟩ (by kernel_rfl) g
def L4.t (R : Rt) : Nat → Int → Int → Option Addr → Nat → Nat → Int → Int → Hp → Prop
  | 0 => fun _ _ _ _ _ _ _ _ => False
  | n + 1 => fun x1 x2 a9 l9 c9 x10 x11 h => D5.t R (L4.t R n) x1 x2 a9 l9 c9 x10 x11 h
theorem L4.ok (R : Rt) (fr : Fr) (h : Hp) (g : L4.g (fun x1 x2 a9 l9 c9 x10 x11 h => ∃ n, L4.t R n x1 x2 a9 l9 c9 x10 x11 h) fr h) : den prog E (cAt C [true, false, true, false]) (Ex.inBlock 0 (Ex.then (D2.g R) (retQ E [.tmp 6] R))) fr h := by
  obtain ⟨x1, e1, g⟩ := gInt_elim g
  obtain ⟨x2, e2, g⟩ := gInt_elim g
  obtain ⟨a9, l9, c9, e9, g⟩ := gSlice_elim g
  obtain ⟨x10, e10, g⟩ := gInt_elim g
  obtain ⟨x11, e11, g⟩ := gInt_elim g
  obtain ⟨n, g⟩ := g
  refine loop_ok (fun n => L4.g (L4.t R n)) (b := (cAt C [true, false, true, false, false])) (by kernel_rfl) (fun fr h g => ?_) (fun n => D5.ok R (L4.t R n)) n fr h (gInt_intro e1 (gInt_intro e2 (gSlice_intro e9 (gInt_intro e10 (gInt_intro e11 (g))))))
  obtain ⟨x1, e1, g⟩ := gInt_elim g
  obtain ⟨x2, e2, g⟩ := gInt_elim g
  obtain ⟨a9, l9, c9, e9, g⟩ := gSlice_elim g
  obtain ⟨x10, e10, g⟩ := gInt_elim g
  obtain ⟨x11, e11, g⟩ := gInt_elim g
  exact g
theorem B6.ok (R : Rt) (fr : Fr) (h : Hp) (g : L4.g (fun x1 x2 a9 l9 c9 x10 x11 h => ∃ n, L4.t R n x1 x2 a9 l9 c9 x10 x11 h) fr h) : den prog E (cAt C [true, false, true]) (Ex.then (D2.g R) (retQ E [.tmp 6] R)) fr h :=
  den_block (by kernel_rfl) (L4.ok R fr h g)
def D3.t (R : Rt) (a0 : Option Addr) (l0 : Nat) (c0 : Nat) (x1 : Int) (x2 : Int) (h : Hp) : Prop :=
  (∃ n, L4.t R n x1 x2 a0 l0 c0 (((l0 : Nat) : Int)) 0 h)
def D3.g (R : Rt) (fr : Fr) (h : Hp) : Prop := gSlice (fr 0) fun a0 l0 c0 => gInt .i64 (fr 1) fun x1 => gInt .i64 (fr 2) fun x2 => D3.t R a0 l0 c0 x1 x2 h
theorem D3.ok (R : Rt) (fr : Fr) (h : Hp) (g : D3.g R fr h) : den prog E (cAt C [true, false]) (Ex.then (D2.g R) (retQ E [.tmp 6] R)) fr h := by
  obtain ⟨a0, l0, c0, e0, g⟩ := gSlice_elim g
  obtain ⟨x1, e1, g⟩ := gInt_elim g
  obtain ⟨x2, e2, g⟩ := gInt_elim g
  exact den_cut 1 (r := (cAt C [true, false, true])) (by kernel_rfl) (B6.ok R) (den_enter [(0, .slice a0 l0 c0), (1, .int .i64 x1), (2, .int .i64 x2)] ⟨e0, e1, e2, trivial⟩ (by kernel_rfl) g)
theorem W7.ok (R : Rt) (fr : Fr) (h : Hp) (g : D3.g R fr h) : den prog E (cAt C [true]) (retQ E [.tmp 6] R) fr h :=
  den_then (by kernel_rfl) (D2.ok R) (D3.ok R fr h g)
def D1.t (R : Rt) (a0 : Option Addr) (l0 : Nat) (c0 : Nat) (x1 : Int) (x2 : Int) (h : Hp) : Prop :=
  D3.t R a0 l0 c0 x1 x2 h
def D1.g (R : Rt) (fr : Fr) (h : Hp) : Prop := gSlice (fr 0) fun a0 l0 c0 => gInt .i64 (fr 1) fun x1 => gInt .i64 (fr 2) fun x2 => D1.t R a0 l0 c0 x1 x2 h
theorem D1.ok (R : Rt) (fr : Fr) (h : Hp) (g : D1.g R fr h) : den prog E C (retQ E [.tmp 6] R) fr h := by
  obtain ⟨a0, l0, c0, e0, g⟩ := gSlice_elim g
  obtain ⟨x1, e1, g⟩ := gInt_elim g
  obtain ⟨x2, e2, g⟩ := gInt_elim g
  exact den_cut 1 (r := (cAt C [true])) (by kernel_rfl) (W7.ok R) (den_enter [(0, .slice a0 l0 c0), (1, .int .i64 x1), (2, .int .i64 x2)] ⟨e0, e1, e2, trivial⟩ (by kernel_rfl) g)
def t (a0 : Option Addr) (l0 : Nat) (c0 : Nat) (x1 : Int) (x2 : Int) (h : Hp) (R : Rt) : Prop := D1.t R a0 l0 c0 x1 x2 h
theorem ok {a0 : Option Addr} {l0 : Nat} {c0 : Nat} {x1 : Int} {x2 : Int} {h : Hp} {R : Rt} (g : t a0 l0 c0 x1 x2 h R) : HC id #[.slice a0 l0 c0, .int .i64 x1, .int .i64 x2] h R :=
  calls_of_den' envOk (c := C) (rs := [.tmp 6]) Try.func29 (by kernel_rfl) (by kernel_rfl) (by kernel_rfl) (args := [.slice a0 l0 c0, .int .i64 x1, .int .i64 x2]) (by kernel_rfl) (D1.ok R _ h (gSlice_intro rfl (gInt_intro rfl (gInt_intro rfl (g)))))
end gnomonlaw02_all

namespace gnomonlaw02_told
noncomputable def C : Code := bodyOf Try.f30
def D1.t (R : Rt) (a0 : Option Addr) (l0 : Nat) (c0 : Nat) (x1 : Int) (a2 : Option Addr) (l2 : Nat) (c2 : Nat) (x3 : Int) (h : Hp) : Prop :=
  HQC gnomonref01_Same.id #[.slice a0 l0 c0, .slice a2 l2 c2] h fun v1 =>
  gBool v1 fun b_2 =>
  cond b_2 (R (.bool (x1 == x3)) h) (R (.bool false) h)
def D1.g (R : Rt) (fr : Fr) (h : Hp) : Prop := gSlice (fr 0) fun a0 l0 c0 => gInt .i64 (fr 1) fun x1 => gSlice (fr 2) fun a2 l2 c2 => gInt .i64 (fr 3) fun x3 => D1.t R a0 l0 c0 x1 a2 l2 c2 x3 h
theorem D1.ok (R : Rt) (fr : Fr) (h : Hp) (g : D1.g R fr h) : den prog E C (retQ E [.tmp 8] R) fr h := by
  obtain ⟨a0, l0, c0, e0, g⟩ := gSlice_elim g
  obtain ⟨x1, e1, g⟩ := gInt_elim g
  obtain ⟨a2, l2, c2, e2, g⟩ := gSlice_elim g
  obtain ⟨x3, e3, g⟩ := gInt_elim g
  exact den_enter [(0, .slice a0 l0 c0), (1, .int .i64 x1), (2, .slice a2 l2 c2), (3, .int .i64 x3)] ⟨e0, e1, e2, e3, trivial⟩ (by kernel_rfl) g
def t (a0 : Option Addr) (l0 : Nat) (c0 : Nat) (x1 : Int) (a2 : Option Addr) (l2 : Nat) (c2 : Nat) (x3 : Int) (h : Hp) (R : Rt) : Prop := D1.t R a0 l0 c0 x1 a2 l2 c2 x3 h
theorem ok {a0 : Option Addr} {l0 : Nat} {c0 : Nat} {x1 : Int} {a2 : Option Addr} {l2 : Nat} {c2 : Nat} {x3 : Int} {h : Hp} {R : Rt} (g : t a0 l0 c0 x1 a2 l2 c2 x3 h R) : HC id #[.slice a0 l0 c0, .int .i64 x1, .slice a2 l2 c2, .int .i64 x3] h R :=
  calls_of_den' envOk (c := C) (rs := [.tmp 8]) Try.func30 (by kernel_rfl) (by kernel_rfl) (by kernel_rfl) (args := [.slice a0 l0 c0, .int .i64 x1, .slice a2 l2 c2, .int .i64 x3]) (by kernel_rfl) (D1.ok R _ h (gSlice_intro rfl (gInt_intro rfl (gSlice_intro rfl (gInt_intro rfl (g))))))
end gnomonlaw02_told

namespace natmul_Parts
noncomputable def C : Code := bodyOf Try.f31
def D3.t (R : Rt) (a0 : Option Addr) (l0 : Nat) (c0 : Nat) (a1 : Option Addr) (l1 : Nat) (c1 : Nat) (x2 : Int) (h : Hp) : Prop :=
  HC natmul_cut.id #[.slice a0 l0 c0, .int .i64 x2] h fun v7 h8 =>
  gTup v7 fun y9 =>
  uncons y9 fun v10 y10 =>
  gSlice v10 fun a_11 l_11 c_11 =>
  uncons y10 fun v12 y12 =>
  gSlice v12 fun a_13 l_13 c_13 =>
  unnil y12 <| HC natmul_cut.id #[.slice a1 l1 c1, .int .i64 x2] h8 fun v14 h15 =>
  gTup v14 fun y16 =>
  uncons y16 fun v17 y17 =>
  gSlice v17 fun a_18 l_18 c_18 =>
  uncons y17 fun v19 y19 =>
  gSlice v19 fun a_20 l_20 c_20 =>
  unnil y19 <| HC natmul_product.id #[.slice a_11 l_11 c_11, .slice a_18 l_18 c_18] h15 fun v21 h22 =>
  gSlice v21 fun a_23 l_23 c_23 =>
  HC natmul_product.id #[.slice a_13 l_13 c_13, .slice a_20 l_20 c_20] h22 fun v24 h25 =>
  gSlice v24 fun a_26 l_26 c_26 =>
  HC natmul_product.id #[.slice a_11 l_11 c_11, .slice a_20 l_20 c_20] h25 fun v27 h28 =>
  gSlice v27 fun a_29 l_29 c_29 =>
  HC natmul_product.id #[.slice a_13 l_13 c_13, .slice a_18 l_18 c_18] h28 fun v30 h31 =>
  gSlice v30 fun a_32 l_32 c_32 =>
  HC natmul_sum.id #[.slice a_29 l_29 c_29, .slice a_32 l_32 c_32] h31 fun v33 h34 =>
  gSlice v33 fun a_35 l_35 c_35 =>
  cond (decide ((if (((l_26 : Nat) : Int)) > (if (((l_35 : Nat) : Int)) > (((l_23 : Nat) : Int)) then (((l_35 : Nat) : Int)) else (((l_23 : Nat) : Int))) then (((l_26 : Nat) : Int)) else (if (((l_35 : Nat) : Int)) > (((l_23 : Nat) : Int)) then (((l_35 : Nat) : Int)) else (((l_23 : Nat) : Int)))) > 8192)) (R (.tuple #[.slice none 0 0, .slice none 0 0, .slice none 0 0, .int .i64 5]) h34) (R (.tuple #[.slice a_23 l_23 c_23, .slice a_35 l_35 c_35, .slice a_26 l_26 c_26, .int .i64 0]) h34)
def D3.g (R : Rt) (fr : Fr) (h : Hp) : Prop := gSlice (fr 0) fun a0 l0 c0 => gSlice (fr 1) fun a1 l1 c1 => gInt .i64 (fr 2) fun x2 => D3.t R a0 l0 c0 a1 l1 c1 x2 h
theorem D3.ok (R : Rt) (fr : Fr) (h : Hp) (g : D3.g R fr h) : den prog E (cAt C [true, true, true]) (retQ E [.tmp 6, .tmp 7, .tmp 8, .tmp 9] R) fr h := by
  obtain ⟨a0, l0, c0, e0, g⟩ := gSlice_elim g
  obtain ⟨a1, l1, c1, e1, g⟩ := gSlice_elim g
  obtain ⟨x2, e2, g⟩ := gInt_elim g
  exact den_enter [(0, .slice a0 l0 c0), (1, .slice a1 l1 c1), (2, .int .i64 x2)] ⟨e0, e1, e2, trivial⟩ (by kernel_rfl) g
def D2.t (R : Rt) (a0 : Option Addr) (l0 : Nat) (c0 : Nat) (a1 : Option Addr) (l1 : Nat) (c1 : Nat) (x2 : Int) (h : Hp) : Prop :=
  HC nat_Form.id #[.slice a0 l0 c0] h fun v1 h2 =>
  gBool v1 fun b_3 =>
  cond (!b_3) (R (.tuple #[.slice none 0 0, .slice none 0 0, .slice none 0 0, .int .i64 2]) h2) (HC nat_Form.id #[.slice a1 l1 c1] h2 fun v4 h5 =>
  gBool v4 fun b_6 =>
  cond (!b_6) (R (.tuple #[.slice none 0 0, .slice none 0 0, .slice none 0 0, .int .i64 2]) h5) (D3.t R a0 l0 c0 a1 l1 c1 x2 h5))
def D2.g (R : Rt) (fr : Fr) (h : Hp) : Prop := gSlice (fr 0) fun a0 l0 c0 => gSlice (fr 1) fun a1 l1 c1 => gInt .i64 (fr 2) fun x2 => D2.t R a0 l0 c0 a1 l1 c1 x2 h
theorem D2.ok (R : Rt) (fr : Fr) (h : Hp) (g : D2.g R fr h) : den prog E (cAt C [true, true]) (retQ E [.tmp 6, .tmp 7, .tmp 8, .tmp 9] R) fr h := by
  obtain ⟨a0, l0, c0, e0, g⟩ := gSlice_elim g
  obtain ⟨a1, l1, c1, e1, g⟩ := gSlice_elim g
  obtain ⟨x2, e2, g⟩ := gInt_elim g
  exact den_cut 1 (r := (cAt C [true, true, true])) (by kernel_rfl) (D3.ok R) (den_enter [(0, .slice a0 l0 c0), (1, .slice a1 l1 c1), (2, .int .i64 x2)] ⟨e0, e1, e2, trivial⟩ (by kernel_rfl) g)
def D1.t (R : Rt) (a0 : Option Addr) (l0 : Nat) (c0 : Nat) (a1 : Option Addr) (l1 : Nat) (c1 : Nat) (x2 : Int) (h : Hp) : Prop :=
  cond (decide (x2 < 1)) (R (.tuple #[.slice none 0 0, .slice none 0 0, .slice none 0 0, .int .i64 1]) h) (cond (decide (x2 > 8192)) (R (.tuple #[.slice none 0 0, .slice none 0 0, .slice none 0 0, .int .i64 1]) h) (D2.t R a0 l0 c0 a1 l1 c1 x2 h))
def D1.g (R : Rt) (fr : Fr) (h : Hp) : Prop := gSlice (fr 0) fun a0 l0 c0 => gSlice (fr 1) fun a1 l1 c1 => gInt .i64 (fr 2) fun x2 => D1.t R a0 l0 c0 a1 l1 c1 x2 h
theorem D1.ok (R : Rt) (fr : Fr) (h : Hp) (g : D1.g R fr h) : den prog E C (retQ E [.tmp 6, .tmp 7, .tmp 8, .tmp 9] R) fr h := by
  obtain ⟨a0, l0, c0, e0, g⟩ := gSlice_elim g
  obtain ⟨a1, l1, c1, e1, g⟩ := gSlice_elim g
  obtain ⟨x2, e2, g⟩ := gInt_elim g
  exact den_cut 2 (r := (cAt C [true, true])) (by kernel_rfl) (D2.ok R) (den_enter [(0, .slice a0 l0 c0), (1, .slice a1 l1 c1), (2, .int .i64 x2)] ⟨e0, e1, e2, trivial⟩ (by kernel_rfl) g)
def t (a0 : Option Addr) (l0 : Nat) (c0 : Nat) (a1 : Option Addr) (l1 : Nat) (c1 : Nat) (x2 : Int) (h : Hp) (R : Rt) : Prop := D1.t R a0 l0 c0 a1 l1 c1 x2 h
theorem ok {a0 : Option Addr} {l0 : Nat} {c0 : Nat} {a1 : Option Addr} {l1 : Nat} {c1 : Nat} {x2 : Int} {h : Hp} {R : Rt} (g : t a0 l0 c0 a1 l1 c1 x2 h R) : HC id #[.slice a0 l0 c0, .slice a1 l1 c1, .int .i64 x2] h R :=
  calls_of_den' envOk (c := C) (rs := [.tmp 6, .tmp 7, .tmp 8, .tmp 9]) Try.func31 (by kernel_rfl) (by kernel_rfl) (by kernel_rfl) (args := [.slice a0 l0 c0, .slice a1 l1 c1, .int .i64 x2]) (by kernel_rfl) (D1.ok R _ h (gSlice_intro rfl (gSlice_intro rfl (gInt_intro rfl (g)))))
end natmul_Parts

namespace gnomonlaw02_keeps
noncomputable def C : Code := bodyOf Try.f32
def D6.t (R : Rt) (a29 : Option Addr) (l29 : Nat) (c29 : Nat) (h : Hp) : Prop :=
  HC gnomonref01_Apart.id #[.slice a29 l29 c29] h fun v304 h305 => gBool v304 fun b_306 => R (.bool b_306) h305
def D6.g (R : Rt) (fr : Fr) (h : Hp) : Prop := gSlice (fr 29) fun a29 l29 c29 => D6.t R a29 l29 c29 h
theorem D6.ok (R : Rt) (fr : Fr) (h : Hp) (g : D6.g R fr h) : den prog E (cAt C [true, true, true, true, true, true, true, true, true, true, true, true, true, true, true, true, true, true, true, true, true, true, true]) (retQ E [.tmp 4] R) fr h := by
  obtain ⟨a29, l29, c29, e29, g⟩ := gSlice_elim g
  exact den_enter [(29, .slice a29 l29 c29)] ⟨e29, trivial⟩ (by kernel_rfl) g
def L8.g (N : Option Addr → Nat → Nat → Option Addr → Nat → Nat → Int → Int → Hp → Prop) (fr : Fr) (h : Hp) : Prop := gSlice (fr 29) fun a29 l29 c29 => gSlice (fr 248) fun a248 l248 c248 => gInt .i64 (fr 249) fun x249 => gInt .i64 (fr 250) fun x250 => N a29 l29 c29 a248 l248 c248 x249 x250 h
def D9.t (R : Rt) (N8 : Option Addr → Nat → Nat → Option Addr → Nat → Nat → Int → Int → Hp → Prop) (a29 : Option Addr) (l29 : Nat) (c29 : Nat) (a248 : Option Addr) (l248 : Nat) (c248 : Nat) (x249 : Int) (x250 : Int) (h : Hp) : Prop :=
  cond (decide (x250 < x249)) (idxK a248 l248 x250 1 fun q309 =>
  ldK h q309 fun v310 =>
  gSlice v310 fun a_311 l_311 c_311 =>
  apK h 24 T24 a29 l29 c29 (.slice a_311 l_311 c_311) fun a_312 l_312 c_312 h312 =>
  letK (IntKind.i64.wrap (x250 + 1)) fun n313 =>
  N8 a_312 l_312 c_312 a248 l248 c248 x249 n313 h312) (D6.t R a29 l29 c29 h)
def D9.g (R : Rt) (N8 : Option Addr → Nat → Nat → Option Addr → Nat → Nat → Int → Int → Hp → Prop) (fr : Fr) (h : Hp) : Prop := gSlice (fr 29) fun a29 l29 c29 => gSlice (fr 248) fun a248 l248 c248 => gInt .i64 (fr 249) fun x249 => gInt .i64 (fr 250) fun x250 => D9.t R N8 a29 l29 c29 a248 l248 c248 x249 x250 h
theorem D9.ok (R : Rt) (N8 : Option Addr → Nat → Nat → Option Addr → Nat → Nat → Int → Int → Hp → Prop) (fr : Fr) (h : Hp) (g : D9.g R N8 fr h) : den prog E (cAt C [true, true, true, true, true, true, true, true, true, true, true, true, true, true, true, true, true, true, true, true, true, true, false, true, false, false]) (Ex.then (L8.g N8) (Ex.inBlock 4 (Ex.then (D6.g R) (retQ E [.tmp 4] R)))) fr h := by
  obtain ⟨a29, l29, c29, e29, g⟩ := gSlice_elim g
  obtain ⟨a248, l248, c248, e248, g⟩ := gSlice_elim g
  obtain ⟨x249, e249, g⟩ := gInt_elim g
  obtain ⟨x250, e250, g⟩ := gInt_elim g
  exact den_enter [(29, .slice a29 l29 c29), (248, .slice a248 l248 c248), (249, .int .i64 x249), (250, .int .i64 x250)] ⟨e29, e248, e249, e250, trivial⟩ (by kernel_rfl) g
def L8.t (R : Rt) : Nat → Option Addr → Nat → Nat → Option Addr → Nat → Nat → Int → Int → Hp → Prop
  | 0 => fun _ _ _ _ _ _ _ _ _ => False
  | n + 1 => fun a29 l29 c29 a248 l248 c248 x249 x250 h => D9.t R (L8.t R n) a29 l29 c29 a248 l248 c248 x249 x250 h
theorem L8.ok (R : Rt) (fr : Fr) (h : Hp) (g : L8.g (fun a29 l29 c29 a248 l248 c248 x249 x250 h => ∃ n, L8.t R n a29 l29 c29 a248 l248 c248 x249 x250 h) fr h) : den prog E (cAt C [true, true, true, true, true, true, true, true, true, true, true, true, true, true, true, true, true, true, true, true, true, true, false, true, false]) (Ex.inBlock 4 (Ex.then (D6.g R) (retQ E [.tmp 4] R))) fr h := by
  obtain ⟨a29, l29, c29, e29, g⟩ := gSlice_elim g
  obtain ⟨a248, l248, c248, e248, g⟩ := gSlice_elim g
  obtain ⟨x249, e249, g⟩ := gInt_elim g
  obtain ⟨x250, e250, g⟩ := gInt_elim g
  obtain ⟨n, g⟩ := g
  refine loop_ok (fun n => L8.g (L8.t R n)) (b := (cAt C [true, true, true, true, true, true, true, true, true, true, true, true, true, true, true, true, true, true, true, true, true, true, false, true, false, false])) (by kernel_rfl) (fun fr h g => ?_) (fun n => D9.ok R (L8.t R n)) n fr h (gSlice_intro e29 (gSlice_intro e248 (gInt_intro e249 (gInt_intro e250 (g)))))
  obtain ⟨a29, l29, c29, e29, g⟩ := gSlice_elim g
  obtain ⟨a248, l248, c248, e248, g⟩ := gSlice_elim g
  obtain ⟨x249, e249, g⟩ := gInt_elim g
  obtain ⟨x250, e250, g⟩ := gInt_elim g
  exact g
theorem B10.ok (R : Rt) (fr : Fr) (h : Hp) (g : L8.g (fun a29 l29 c29 a248 l248 c248 x249 x250 h => ∃ n, L8.t R n a29 l29 c29 a248 l248 c248 x249 x250 h) fr h) : den prog E (cAt C [true, true, true, true, true, true, true, true, true, true, true, true, true, true, true, true, true, true, true, true, true, true, false, true]) (Ex.then (D6.g R) (retQ E [.tmp 4] R)) fr h :=
  den_block (by kernel_rfl) (L8.ok R fr h g)
def D7.t (R : Rt) (a14 : Option Addr) (l14 : Nat) (c14 : Nat) (a16 : Option Addr) (l16 : Nat) (c16 : Nat) (a18 : Option Addr) (l18 : Nat) (c18 : Nat) (a20 : Option Addr) (l20 : Nat) (c20 : Nat) (a27 : Option Addr) (l27 : Nat) (c27 : Nat) (a29 : Option Addr) (l29 : Nat) (c29 : Nat) (h : Hp) : Prop :=
  boxK h 22 [.slice a14 l14 c14, .slice a16 l16 c16, .slice a18 l18 c18, .slice a20 l20 c20, .slice a27 l27 c27] fun q307 h308 =>
  (∃ n, L8.t R n a29 l29 c29 (some q307) 5 5 (5 : Int) 0 h308)
def D7.g (R : Rt) (fr : Fr) (h : Hp) : Prop := gSlice (fr 14) fun a14 l14 c14 => gSlice (fr 16) fun a16 l16 c16 => gSlice (fr 18) fun a18 l18 c18 => gSlice (fr 20) fun a20 l20 c20 => gSlice (fr 27) fun a27 l27 c27 => gSlice (fr 29) fun a29 l29 c29 => D7.t R a14 l14 c14 a16 l16 c16 a18 l18 c18 a20 l20 c20 a27 l27 c27 a29 l29 c29 h
theorem D7.ok (R : Rt) (fr : Fr) (h : Hp) (g : D7.g R fr h) : den prog E (cAt C [true, true, true, true, true, true, true, true, true, true, true, true, true, true, true, true, true, true, true, true, true, true, false]) (Ex.then (D6.g R) (retQ E [.tmp 4] R)) fr h := by
  obtain ⟨a14, l14, c14, e14, g⟩ := gSlice_elim g
  obtain ⟨a16, l16, c16, e16, g⟩ := gSlice_elim g
  obtain ⟨a18, l18, c18, e18, g⟩ := gSlice_elim g
  obtain ⟨a20, l20, c20, e20, g⟩ := gSlice_elim g
  obtain ⟨a27, l27, c27, e27, g⟩ := gSlice_elim g
  obtain ⟨a29, l29, c29, e29, g⟩ := gSlice_elim g
  exact den_cut 1 (r := (cAt C [true, true, true, true, true, true, true, true, true, true, true, true, true, true, true, true, true, true, true, true, true, true, false, true])) (by kernel_rfl) (B10.ok R) (den_enter [(14, .slice a14 l14 c14), (16, .slice a16 l16 c16), (18, .slice a18 l18 c18), (20, .slice a20 l20 c20), (27, .slice a27 l27 c27), (29, .slice a29 l29 c29)] ⟨e14, e16, e18, e20, e27, e29, trivial⟩ (by kernel_rfl) g)
theorem W11.ok (R : Rt) (fr : Fr) (h : Hp) (g : D7.g R fr h) : den prog E (cAt C [true, true, true, true, true, true, true, true, true, true, true, true, true, true, true, true, true, true, true, true, true, true]) (retQ E [.tmp 4] R) fr h :=
  den_then (by kernel_rfl) (D6.ok R) (D7.ok R fr h g)
def D5.t (R : Rt) (a10 : Option Addr) (l10 : Nat) (c10 : Nat) (a12 : Option Addr) (l12 : Nat) (c12 : Nat) (a14 : Option Addr) (l14 : Nat) (c14 : Nat) (a16 : Option Addr) (l16 : Nat) (c16 : Nat) (a18 : Option Addr) (l18 : Nat) (c18 : Nat) (a20 : Option Addr) (l20 : Nat) (c20 : Nat) (a27 : Option Addr) (l27 : Nat) (c27 : Nat) (h : Hp) : Prop :=
  boxK h 24 [.slice a10 l10 c10, .slice a12 l12 c12] fun q302 h303 =>
  D7.t R a14 l14 c14 a16 l16 c16 a18 l18 c18 a20 l20 c20 a27 l27 c27 (some q302) 2 2 h303
def D5.g (R : Rt) (fr : Fr) (h : Hp) : Prop := gSlice (fr 10) fun a10 l10 c10 => gSlice (fr 12) fun a12 l12 c12 => gSlice (fr 14) fun a14 l14 c14 => gSlice (fr 16) fun a16 l16 c16 => gSlice (fr 18) fun a18 l18 c18 => gSlice (fr 20) fun a20 l20 c20 => gSlice (fr 27) fun a27 l27 c27 => D5.t R a10 l10 c10 a12 l12 c12 a14 l14 c14 a16 l16 c16 a18 l18 c18 a20 l20 c20 a27 l27 c27 h
theorem D5.ok (R : Rt) (fr : Fr) (h : Hp) (g : D5.g R fr h) : den prog E (cAt C [true, true, true, true, true, true, true, true, true, true, true, true, true, true, true, true, true, true, true, true, true]) (retQ E [.tmp 4] R) fr h := by
  obtain ⟨a10, l10, c10, e10, g⟩ := gSlice_elim g
  obtain ⟨a12, l12, c12, e12, g⟩ := gSlice_elim g
  obtain ⟨a14, l14, c14, e14, g⟩ := gSlice_elim g
  obtain ⟨a16, l16, c16, e16, g⟩ := gSlice_elim g
  obtain ⟨a18, l18, c18, e18, g⟩ := gSlice_elim g
  obtain ⟨a20, l20, c20, e20, g⟩ := gSlice_elim g
  obtain ⟨a27, l27, c27, e27, g⟩ := gSlice_elim g
  exact den_cut 1 (r := (cAt C [true, true, true, true, true, true, true, true, true, true, true, true, true, true, true, true, true, true, true, true, true, true])) (by kernel_rfl) (W11.ok R) (den_enter [(10, .slice a10 l10 c10), (12, .slice a12 l12 c12), (14, .slice a14 l14 c14), (16, .slice a16 l16 c16), (18, .slice a18 l18 c18), (20, .slice a20 l20 c20), (27, .slice a27 l27 c27)] ⟨e10, e12, e14, e16, e18, e20, e27, trivial⟩ (by kernel_rfl) g)
def D4.t (R : Rt) (a5 : Option Addr) (l5 : Nat) (c5 : Nat) (a7 : Option Addr) (l7 : Nat) (c7 : Nat) (a10 : Option Addr) (l10 : Nat) (c10 : Nat) (a12 : Option Addr) (l12 : Nat) (c12 : Nat) (a14 : Option Addr) (l14 : Nat) (c14 : Nat) (a16 : Option Addr) (l16 : Nat) (c16 : Nat) (a18 : Option Addr) (l18 : Nat) (c18 : Nat) (a20 : Option Addr) (l20 : Nat) (c20 : Nat) (a25 : Option Addr) (l25 : Nat) (c25 : Nat) (a27 : Option Addr) (l27 : Nat) (c27 : Nat) (h : Hp) : Prop :=
  HC gnomonref01_Over.id #[.slice a10 l10 c10] h fun v281 h282 =>
  gTup v281 fun y283 =>
  unnil y283 <| HC gnomonref01_Over.id #[.slice a12 l12 c12] h282 fun v284 h285 =>
  gTup v284 fun y286 =>
  unnil y286 <| HC gnomonlaw02_like.id #[.slice a14 l14 c14, .slice a5 l5 c5] h285 fun v287 h288 =>
  gBool v287 fun b_289 =>
  cond (!b_289) (R (.bool false) h288) (HC gnomonlaw02_like.id #[.slice a16 l16 c16, .slice a5 l5 c5] h288 fun v290 h291 =>
  gBool v290 fun b_292 =>
  cond (!b_292) (R (.bool false) h291) (HC gnomonlaw02_like.id #[.slice a18 l18 c18, .slice a7 l7 c7] h291 fun v293 h294 =>
  gBool v293 fun b_295 =>
  cond (!b_295) (R (.bool false) h294) (HC gnomonlaw02_like.id #[.slice a20 l20 c20, .slice a5 l5 c5] h294 fun v296 h297 =>
  gBool v296 fun b_298 =>
  cond (!b_298) (R (.bool false) h297) (HC gnomonlaw02_like.id #[.slice a27 l27 c27, .slice a25 l25 c25] h297 fun v299 h300 =>
  gBool v299 fun b_301 =>
  cond (!b_301) (R (.bool false) h300) (D5.t R a10 l10 c10 a12 l12 c12 a14 l14 c14 a16 l16 c16 a18 l18 c18 a20 l20 c20 a27 l27 c27 h300)))))
def D4.g (R : Rt) (fr : Fr) (h : Hp) : Prop := gSlice (fr 5) fun a5 l5 c5 => gSlice (fr 7) fun a7 l7 c7 => gSlice (fr 10) fun a10 l10 c10 => gSlice (fr 12) fun a12 l12 c12 => gSlice (fr 14) fun a14 l14 c14 => gSlice (fr 16) fun a16 l16 c16 => gSlice (fr 18) fun a18 l18 c18 => gSlice (fr 20) fun a20 l20 c20 => gSlice (fr 25) fun a25 l25 c25 => gSlice (fr 27) fun a27 l27 c27 => D4.t R a5 l5 c5 a7 l7 c7 a10 l10 c10 a12 l12 c12 a14 l14 c14 a16 l16 c16 a18 l18 c18 a20 l20 c20 a25 l25 c25 a27 l27 c27 h
theorem D4.ok (R : Rt) (fr : Fr) (h : Hp) (g : D4.g R fr h) : den prog E (cAt C [true, true, true, true, true, true, true, true, true, true, true, true, true, true, true, true, true, true]) (retQ E [.tmp 4] R) fr h := by
  obtain ⟨a5, l5, c5, e5, g⟩ := gSlice_elim g
  obtain ⟨a7, l7, c7, e7, g⟩ := gSlice_elim g
  obtain ⟨a10, l10, c10, e10, g⟩ := gSlice_elim g
  obtain ⟨a12, l12, c12, e12, g⟩ := gSlice_elim g
  obtain ⟨a14, l14, c14, e14, g⟩ := gSlice_elim g
  obtain ⟨a16, l16, c16, e16, g⟩ := gSlice_elim g
  obtain ⟨a18, l18, c18, e18, g⟩ := gSlice_elim g
  obtain ⟨a20, l20, c20, e20, g⟩ := gSlice_elim g
  obtain ⟨a25, l25, c25, e25, g⟩ := gSlice_elim g
  obtain ⟨a27, l27, c27, e27, g⟩ := gSlice_elim g
  exact den_cut 3 (r := (cAt C [true, true, true, true, true, true, true, true, true, true, true, true, true, true, true, true, true, true, true, true, true])) (by kernel_rfl) (D5.ok R) (den_enter [(5, .slice a5 l5 c5), (7, .slice a7 l7 c7), (10, .slice a10 l10 c10), (12, .slice a12 l12 c12), (14, .slice a14 l14 c14), (16, .slice a16 l16 c16), (18, .slice a18 l18 c18), (20, .slice a20 l20 c20), (25, .slice a25 l25 c25), (27, .slice a27 l27 c27)] ⟨e5, e7, e10, e12, e14, e16, e18, e20, e25, e27, trivial⟩ (by kernel_rfl) g)
def D3.t (R : Rt) (a5 : Option Addr) (l5 : Nat) (c5 : Nat) (a7 : Option Addr) (l7 : Nat) (c7 : Nat) (a9 : Option Addr) (l9 : Nat) (c9 : Nat) (a10 : Option Addr) (l10 : Nat) (c10 : Nat) (a11 : Option Addr) (l11 : Nat) (c11 : Nat) (a12 : Option Addr) (l12 : Nat) (c12 : Nat) (q13 : Addr) (a14 : Option Addr) (l14 : Nat) (c14 : Nat) (a16 : Option Addr) (l16 : Nat) (c16 : Nat) (a18 : Option Addr) (l18 : Nat) (c18 : Nat) (a20 : Option Addr) (l20 : Nat) (c20 : Nat) (h : Hp) : Prop :=
  ldK h (q13.add 0) fun v206 =>
  gInt .i64 v206 fun x_207 =>
  ldK h (q13.add 1) fun v208 =>
  gSlice v208 fun a_209 l_209 c_209 =>
  ldK h (q13.add 2) fun v210 =>
  gSlice v210 fun a_211 l_211 c_211 =>
  ldK h (q13.add 3) fun v212 =>
  gInt .i64 v212 fun x_213 =>
  ldK h (q13.add 4) fun v214 =>
  gSlice v214 fun a_215 l_215 c_215 =>
  HC gnomonlaw02_twin.id #[.agg #[.int .i64 x_207, .slice a_209 l_209 c_209, .slice a_211 l_211 c_211, .int .i64 x_213, .slice a_215 l_215 c_215]] h fun v216 h217 =>
  gAgg v216 fun y218 =>
  uncons y218 fun v219 y219 =>
  gInt .i64 v219 fun x_220 =>
  uncons y219 fun v221 y221 =>
  gSlice v221 fun a_222 l_222 c_222 =>
  uncons y221 fun v223 y223 =>
  gSlice v223 fun a_224 l_224 c_224 =>
  uncons y223 fun v225 y225 =>
  gInt .i64 v225 fun x_226 =>
  uncons y225 fun v227 y227 =>
  gSlice v227 fun a_228 l_228 c_228 =>
  unnil y227 <| boxK h217 52 T52.zs fun q229 h230 =>
  stK h230 (q229.add 0) (.int .i64 x_220) fun h231 =>
  stK h231 (q229.add 1) (.slice a_222 l_222 c_222) fun h232 =>
  stK h232 (q229.add 2) (.slice a_224 l_224 c_224) fun h233 =>
  stK h233 (q229.add 3) (.int .i64 x_226) fun h234 =>
  stK h234 (q229.add 4) (.slice a_228 l_228 c_228) fun h235 =>
  ldK h235 (q229.add 0) fun v236 =>
  gInt .i64 v236 fun x_237 =>
  ldK h235 (q229.add 1) fun v238 =>
  gSlice v238 fun a_239 l_239 c_239 =>
  ldK h235 (q229.add 2) fun v240 =>
  gSlice v240 fun a_241 l_241 c_241 =>
  ldK h235 (q229.add 3) fun v242 =>
  gInt .i64 v242 fun x_243 =>
  ldK h235 (q229.add 4) fun v244 =>
  gSlice v244 fun a_245 l_245 c_245 =>
  HC gnomonlaw02_doc.id #[.agg #[.int .i64 x_237, .slice a_239 l_239 c_239, .slice a_241 l_241 c_241, .int .i64 x_243, .slice a_245 l_245 c_245]] h235 fun v246 h247 =>
  gTup v246 fun y248 =>
  uncons y248 fun v249 y249 =>
  gSlice v249 fun a_250 l_250 c_250 =>
  uncons y249 fun v251 y251 =>
  gInt .i64 v251 fun x_252 =>
  unnil y251 <| ldK h247 (q13.add 0) fun v253 =>
  gInt .i64 v253 fun x_254 =>
  ldK h247 (q13.add 1) fun v255 =>
  gSlice v255 fun a_256 l_256 c_256 =>
  ldK h247 (q13.add 2) fun v257 =>
  gSlice v257 fun a_258 l_258 c_258 =>
  ldK h247 (q13.add 3) fun v259 =>
  gInt .i64 v259 fun x_260 =>
  ldK h247 (q13.add 4) fun v261 =>
  gSlice v261 fun a_262 l_262 c_262 =>
  HC gnomonlaw02_answers.id #[.agg #[.int .i64 x_254, .slice a_256 l_256 c_256, .slice a_258 l_258 c_258, .int .i64 x_260, .slice a_262 l_262 c_262]] h247 fun v263 h264 =>
  gTup v263 fun y265 =>
  uncons y265 fun v266 y266 =>
  gSlice v266 fun a_267 l_267 c_267 =>
  uncons y266 fun v268 y268 =>
  gInt .i64 v268 fun x_269 =>
  unnil y268 <| cond (x_269 != x_252) (R (.bool false) h264) (HC gnomonlaw02_like.id #[.slice a_267 l_267 c_267, .slice a_250 l_250 c_250] h264 fun v270 h271 =>
  gBool v270 fun b_272 =>
  cond (!b_272) (R (.bool false) h271) (ldK h271 (q229.add 1) fun v273 =>
  gSlice v273 fun a_274 l_274 c_274 =>
  HQC gnomonref01_Same.id #[.slice a9 l9 c9, .slice a_274 l_274 c_274] h271 fun v275 =>
  gBool v275 fun b_276 =>
  cond (!b_276) (R (.bool false) h271) (ldK h271 (q229.add 2) fun v277 =>
  gSlice v277 fun a_278 l_278 c_278 =>
  HQC gnomonref01_Same.id #[.slice a11 l11 c11, .slice a_278 l_278 c_278] h271 fun v279 =>
  gBool v279 fun b_280 =>
  cond (!b_280) (R (.bool false) h271) (D4.t R a5 l5 c5 a7 l7 c7 a10 l10 c10 a12 l12 c12 a14 l14 c14 a16 l16 c16 a18 l18 c18 a20 l20 c20 a_250 l_250 c_250 a_267 l_267 c_267 h271))))
def D3.g (R : Rt) (fr : Fr) (h : Hp) : Prop := gSlice (fr 5) fun a5 l5 c5 => gSlice (fr 7) fun a7 l7 c7 => gSlice (fr 9) fun a9 l9 c9 => gSlice (fr 10) fun a10 l10 c10 => gSlice (fr 11) fun a11 l11 c11 => gSlice (fr 12) fun a12 l12 c12 => gPtrS (fr 13) fun q13 => gSlice (fr 14) fun a14 l14 c14 => gSlice (fr 16) fun a16 l16 c16 => gSlice (fr 18) fun a18 l18 c18 => gSlice (fr 20) fun a20 l20 c20 => D3.t R a5 l5 c5 a7 l7 c7 a9 l9 c9 a10 l10 c10 a11 l11 c11 a12 l12 c12 q13 a14 l14 c14 a16 l16 c16 a18 l18 c18 a20 l20 c20 h
theorem D3.ok (R : Rt) (fr : Fr) (h : Hp) (g : D3.g R fr h) : den prog E (cAt C [true, true, true, true, true, true, true, true, true, true, true, true, true, true]) (retQ E [.tmp 4] R) fr h := by
  obtain ⟨a5, l5, c5, e5, g⟩ := gSlice_elim g
  obtain ⟨a7, l7, c7, e7, g⟩ := gSlice_elim g
  obtain ⟨a9, l9, c9, e9, g⟩ := gSlice_elim g
  obtain ⟨a10, l10, c10, e10, g⟩ := gSlice_elim g
  obtain ⟨a11, l11, c11, e11, g⟩ := gSlice_elim g
  obtain ⟨a12, l12, c12, e12, g⟩ := gSlice_elim g
  obtain ⟨q13, e13, g⟩ := gPtrS_elim g
  obtain ⟨a14, l14, c14, e14, g⟩ := gSlice_elim g
  obtain ⟨a16, l16, c16, e16, g⟩ := gSlice_elim g
  obtain ⟨a18, l18, c18, e18, g⟩ := gSlice_elim g
  obtain ⟨a20, l20, c20, e20, g⟩ := gSlice_elim g
  exact den_cut 4 (r := (cAt C [true, true, true, true, true, true, true, true, true, true, true, true, true, true, true, true, true, true])) (by kernel_rfl) (D4.ok R) (den_enter [(5, .slice a5 l5 c5), (7, .slice a7 l7 c7), (9, .slice a9 l9 c9), (10, .slice a10 l10 c10), (11, .slice a11 l11 c11), (12, .slice a12 l12 c12), (13, .pointer (some q13)), (14, .slice a14 l14 c14), (16, .slice a16 l16 c16), (18, .slice a18 l18 c18), (20, .slice a20 l20 c20)] ⟨e5, e7, e9, e10, e11, e12, e13, e14, e16, e18, e20, trivial⟩ (by kernel_rfl) g)
def L13.g (N : Option Addr → Nat → Nat → Option Addr → Nat → Nat → Option Addr → Nat → Nat → Option Addr → Nat → Nat → Option Addr → Nat → Nat → Option Addr → Nat → Nat → Addr → Option Addr → Nat → Nat → Option Addr → Nat → Nat → Option Addr → Nat → Nat → Option Addr → Nat → Nat → Int → Hp → Prop) (fr : Fr) (h : Hp) : Prop := gSlice (fr 5) fun a5 l5 c5 => gSlice (fr 7) fun a7 l7 c7 => gSlice (fr 9) fun a9 l9 c9 => gSlice (fr 10) fun a10 l10 c10 => gSlice (fr 11) fun a11 l11 c11 => gSlice (fr 12) fun a12 l12 c12 => gPtrS (fr 13) fun q13 => gSlice (fr 14) fun a14 l14 c14 => gSlice (fr 16) fun a16 l16 c16 => gSlice (fr 18) fun a18 l18 c18 => gSlice (fr 20) fun a20 l20 c20 => gInt .i64 (fr 23) fun x23 => N a5 l5 c5 a7 l7 c7 a9 l9 c9 a10 l10 c10 a11 l11 c11 a12 l12 c12 q13 a14 l14 c14 a16 l16 c16 a18 l18 c18 a20 l20 c20 x23 h
def D14.t (R : Rt) (N13 : Option Addr → Nat → Nat → Option Addr → Nat → Nat → Option Addr → Nat → Nat → Option Addr → Nat → Nat → Option Addr → Nat → Nat → Option Addr → Nat → Nat → Addr → Option Addr → Nat → Nat → Option Addr → Nat → Nat → Option Addr → Nat → Nat → Option Addr → Nat → Nat → Int → Hp → Prop) (a5 : Option Addr) (l5 : Nat) (c5 : Nat) (a7 : Option Addr) (l7 : Nat) (c7 : Nat) (a9 : Option Addr) (l9 : Nat) (c9 : Nat) (a10 : Option Addr) (l10 : Nat) (c10 : Nat) (a11 : Option Addr) (l11 : Nat) (c11 : Nat) (a12 : Option Addr) (l12 : Nat) (c12 : Nat) (q13 : Addr) (a14 : Option Addr) (l14 : Nat) (c14 : Nat) (a16 : Option Addr) (l16 : Nat) (c16 : Nat) (a18 : Option Addr) (l18 : Nat) (c18 : Nat) (a20 : Option Addr) (l20 : Nat) (c20 : Nat) (x23 : Int) (h : Hp) : Prop :=
  cond (decide (x23 < (((l11 : Nat) : Int)))) (idxK a11 l11 x23 1 fun q314 =>
  ldK h q314 fun v315 =>
  gInt .u64 v315 fun x_316 =>
  (3 : Int) ≠ 0 ∧ letK (IntKind.u64.wrap (Int.tdiv x_316 3)) fun n317 =>
  letK (IntKind.u64.wrap (n317 + 1)) fun n318 =>
  idxK a11 l11 x23 1 fun q319 =>
  stK h q319 (.int .u64 n318) fun h320 =>
  letK (IntKind.i64.wrap (x23 + 1)) fun n321 =>
  N13 a5 l5 c5 a7 l7 c7 a9 l9 c9 a10 l10 c10 a11 l11 c11 a12 l12 c12 q13 a14 l14 c14 a16 l16 c16 a18 l18 c18 a20 l20 c20 n321 h320) (D3.t R a5 l5 c5 a7 l7 c7 a9 l9 c9 a10 l10 c10 a11 l11 c11 a12 l12 c12 q13 a14 l14 c14 a16 l16 c16 a18 l18 c18 a20 l20 c20 h)
def D14.g (R : Rt) (N13 : Option Addr → Nat → Nat → Option Addr → Nat → Nat → Option Addr → Nat → Nat → Option Addr → Nat → Nat → Option Addr → Nat → Nat → Option Addr → Nat → Nat → Addr → Option Addr → Nat → Nat → Option Addr → Nat → Nat → Option Addr → Nat → Nat → Option Addr → Nat → Nat → Int → Hp → Prop) (fr : Fr) (h : Hp) : Prop := gSlice (fr 5) fun a5 l5 c5 => gSlice (fr 7) fun a7 l7 c7 => gSlice (fr 9) fun a9 l9 c9 => gSlice (fr 10) fun a10 l10 c10 => gSlice (fr 11) fun a11 l11 c11 => gSlice (fr 12) fun a12 l12 c12 => gPtrS (fr 13) fun q13 => gSlice (fr 14) fun a14 l14 c14 => gSlice (fr 16) fun a16 l16 c16 => gSlice (fr 18) fun a18 l18 c18 => gSlice (fr 20) fun a20 l20 c20 => gInt .i64 (fr 23) fun x23 => D14.t R N13 a5 l5 c5 a7 l7 c7 a9 l9 c9 a10 l10 c10 a11 l11 c11 a12 l12 c12 q13 a14 l14 c14 a16 l16 c16 a18 l18 c18 a20 l20 c20 x23 h
theorem D14.ok (R : Rt) (N13 : Option Addr → Nat → Nat → Option Addr → Nat → Nat → Option Addr → Nat → Nat → Option Addr → Nat → Nat → Option Addr → Nat → Nat → Option Addr → Nat → Nat → Addr → Option Addr → Nat → Nat → Option Addr → Nat → Nat → Option Addr → Nat → Nat → Option Addr → Nat → Nat → Int → Hp → Prop) (fr : Fr) (h : Hp) (g : D14.g R N13 fr h) : den prog E (cAt C [true, true, true, true, true, true, true, true, true, true, true, true, true, false, true, false, false]) (Ex.then (L13.g N13) (Ex.inBlock 2 (Ex.then (D3.g R) (retQ E [.tmp 4] R)))) fr h := by
  obtain ⟨a5, l5, c5, e5, g⟩ := gSlice_elim g
  obtain ⟨a7, l7, c7, e7, g⟩ := gSlice_elim g
  obtain ⟨a9, l9, c9, e9, g⟩ := gSlice_elim g
  obtain ⟨a10, l10, c10, e10, g⟩ := gSlice_elim g
  obtain ⟨a11, l11, c11, e11, g⟩ := gSlice_elim g
  obtain ⟨a12, l12, c12, e12, g⟩ := gSlice_elim g
  obtain ⟨q13, e13, g⟩ := gPtrS_elim g
  obtain ⟨a14, l14, c14, e14, g⟩ := gSlice_elim g
  obtain ⟨a16, l16, c16, e16, g⟩ := gSlice_elim g
  obtain ⟨a18, l18, c18, e18, g⟩ := gSlice_elim g
  obtain ⟨a20, l20, c20, e20, g⟩ := gSlice_elim g
  obtain ⟨x23, e23, g⟩ := gInt_elim g
  exact den_enter [(5, .slice a5 l5 c5), (7, .slice a7 l7 c7), (9, .slice a9 l9 c9), (10, .slice a10 l10 c10), (11, .slice a11 l11 c11), (12, .slice a12 l12 c12), (13, .pointer (some q13)), (14, .slice a14 l14 c14), (16, .slice a16 l16 c16), (18, .slice a18 l18 c18), (20, .slice a20 l20 c20), (23, .int .i64 x23)] ⟨e5, e7, e9, e10, e11, e12, e13, e14, e16, e18, e20, e23, trivial⟩ (by kernel_rfl) g
def L13.t (R : Rt) : Nat → Option Addr → Nat → Nat → Option Addr → Nat → Nat → Option Addr → Nat → Nat → Option Addr → Nat → Nat → Option Addr → Nat → Nat → Option Addr → Nat → Nat → Addr → Option Addr → Nat → Nat → Option Addr → Nat → Nat → Option Addr → Nat → Nat → Option Addr → Nat → Nat → Int → Hp → Prop
  | 0 => fun _ _ _ _ _ _ _ _ _ _ _ _ _ _ _ _ _ _ _ _ _ _ _ _ _ _ _ _ _ _ _ _ _ => False
  | n + 1 => fun a5 l5 c5 a7 l7 c7 a9 l9 c9 a10 l10 c10 a11 l11 c11 a12 l12 c12 q13 a14 l14 c14 a16 l16 c16 a18 l18 c18 a20 l20 c20 x23 h => D14.t R (L13.t R n) a5 l5 c5 a7 l7 c7 a9 l9 c9 a10 l10 c10 a11 l11 c11 a12 l12 c12 q13 a14 l14 c14 a16 l16 c16 a18 l18 c18 a20 l20 c20 x23 h
theorem L13.ok (R : Rt) (fr : Fr) (h : Hp) (g : L13.g (fun a5 l5 c5 a7 l7 c7 a9 l9 c9 a10 l10 c10 a11 l11 c11 a12 l12 c12 q13 a14 l14 c14 a16 l16 c16 a18 l18 c18 a20 l20 c20 x23 h => ∃ n, L13.t R n a5 l5 c5 a7 l7 c7 a9 l9 c9 a10 l10 c10 a11 l11 c11 a12 l12 c12 q13 a14 l14 c14 a16 l16 c16 a18 l18 c18 a20 l20 c20 x23 h) fr h) : den prog E (cAt C [true, true, true, true, true, true, true, true, true, true, true, true, true, false, true, false]) (Ex.inBlock 2 (Ex.then (D3.g R) (retQ E [.tmp 4] R))) fr h := by
  obtain ⟨a5, l5, c5, e5, g⟩ := gSlice_elim g
  obtain ⟨a7, l7, c7, e7, g⟩ := gSlice_elim g
  obtain ⟨a9, l9, c9, e9, g⟩ := gSlice_elim g
  obtain ⟨a10, l10, c10, e10, g⟩ := gSlice_elim g
  obtain ⟨a11, l11, c11, e11, g⟩ := gSlice_elim g
  obtain ⟨a12, l12, c12, e12, g⟩ := gSlice_elim g
  obtain ⟨q13, e13, g⟩ := gPtrS_elim g
  obtain ⟨a14, l14, c14, e14, g⟩ := gSlice_elim g
  obtain ⟨a16, l16, c16, e16, g⟩ := gSlice_elim g
  obtain ⟨a18, l18, c18, e18, g⟩ := gSlice_elim g
  obtain ⟨a20, l20, c20, e20, g⟩ := gSlice_elim g
  obtain ⟨x23, e23, g⟩ := gInt_elim g
  obtain ⟨n, g⟩ := g
  refine loop_ok (fun n => L13.g (L13.t R n)) (b := (cAt C [true, true, true, true, true, true, true, true, true, true, true, true, true, false, true, false, false])) (by kernel_rfl) (fun fr h g => ?_) (fun n => D14.ok R (L13.t R n)) n fr h (gSlice_intro e5 (gSlice_intro e7 (gSlice_intro e9 (gSlice_intro e10 (gSlice_intro e11 (gSlice_intro e12 (gPtrS_intro e13 (gSlice_intro e14 (gSlice_intro e16 (gSlice_intro e18 (gSlice_intro e20 (gInt_intro e23 (g)))))))))))))
  obtain ⟨a5, l5, c5, e5, g⟩ := gSlice_elim g
  obtain ⟨a7, l7, c7, e7, g⟩ := gSlice_elim g
  obtain ⟨a9, l9, c9, e9, g⟩ := gSlice_elim g
  obtain ⟨a10, l10, c10, e10, g⟩ := gSlice_elim g
  obtain ⟨a11, l11, c11, e11, g⟩ := gSlice_elim g
  obtain ⟨a12, l12, c12, e12, g⟩ := gSlice_elim g
  obtain ⟨q13, e13, g⟩ := gPtrS_elim g
  obtain ⟨a14, l14, c14, e14, g⟩ := gSlice_elim g
  obtain ⟨a16, l16, c16, e16, g⟩ := gSlice_elim g
  obtain ⟨a18, l18, c18, e18, g⟩ := gSlice_elim g
  obtain ⟨a20, l20, c20, e20, g⟩ := gSlice_elim g
  obtain ⟨x23, e23, g⟩ := gInt_elim g
  exact g
theorem B15.ok (R : Rt) (fr : Fr) (h : Hp) (g : L13.g (fun a5 l5 c5 a7 l7 c7 a9 l9 c9 a10 l10 c10 a11 l11 c11 a12 l12 c12 q13 a14 l14 c14 a16 l16 c16 a18 l18 c18 a20 l20 c20 x23 h => ∃ n, L13.t R n a5 l5 c5 a7 l7 c7 a9 l9 c9 a10 l10 c10 a11 l11 c11 a12 l12 c12 q13 a14 l14 c14 a16 l16 c16 a18 l18 c18 a20 l20 c20 x23 h) fr h) : den prog E (cAt C [true, true, true, true, true, true, true, true, true, true, true, true, true, false, true]) (Ex.then (D3.g R) (retQ E [.tmp 4] R)) fr h :=
  den_block (by kernel_rfl) (L13.ok R fr h g)
def D12.t (R : Rt) (a5 : Option Addr) (l5 : Nat) (c5 : Nat) (a7 : Option Addr) (l7 : Nat) (c7 : Nat) (a9 : Option Addr) (l9 : Nat) (c9 : Nat) (a10 : Option Addr) (l10 : Nat) (c10 : Nat) (a11 : Option Addr) (l11 : Nat) (c11 : Nat) (a12 : Option Addr) (l12 : Nat) (c12 : Nat) (q13 : Addr) (a14 : Option Addr) (l14 : Nat) (c14 : Nat) (a16 : Option Addr) (l16 : Nat) (c16 : Nat) (a18 : Option Addr) (l18 : Nat) (c18 : Nat) (a20 : Option Addr) (l20 : Nat) (c20 : Nat) (h : Hp) : Prop :=
  (∃ n, L13.t R n a5 l5 c5 a7 l7 c7 a9 l9 c9 a10 l10 c10 a11 l11 c11 a12 l12 c12 q13 a14 l14 c14 a16 l16 c16 a18 l18 c18 a20 l20 c20 0 h)
def D12.g (R : Rt) (fr : Fr) (h : Hp) : Prop := gSlice (fr 5) fun a5 l5 c5 => gSlice (fr 7) fun a7 l7 c7 => gSlice (fr 9) fun a9 l9 c9 => gSlice (fr 10) fun a10 l10 c10 => gSlice (fr 11) fun a11 l11 c11 => gSlice (fr 12) fun a12 l12 c12 => gPtrS (fr 13) fun q13 => gSlice (fr 14) fun a14 l14 c14 => gSlice (fr 16) fun a16 l16 c16 => gSlice (fr 18) fun a18 l18 c18 => gSlice (fr 20) fun a20 l20 c20 => D12.t R a5 l5 c5 a7 l7 c7 a9 l9 c9 a10 l10 c10 a11 l11 c11 a12 l12 c12 q13 a14 l14 c14 a16 l16 c16 a18 l18 c18 a20 l20 c20 h
theorem D12.ok (R : Rt) (fr : Fr) (h : Hp) (g : D12.g R fr h) : den prog E (cAt C [true, true, true, true, true, true, true, true, true, true, true, true, true, false]) (Ex.then (D3.g R) (retQ E [.tmp 4] R)) fr h := by
  obtain ⟨a5, l5, c5, e5, g⟩ := gSlice_elim g
  obtain ⟨a7, l7, c7, e7, g⟩ := gSlice_elim g
  obtain ⟨a9, l9, c9, e9, g⟩ := gSlice_elim g
  obtain ⟨a10, l10, c10, e10, g⟩ := gSlice_elim g
  obtain ⟨a11, l11, c11, e11, g⟩ := gSlice_elim g
  obtain ⟨a12, l12, c12, e12, g⟩ := gSlice_elim g
  obtain ⟨q13, e13, g⟩ := gPtrS_elim g
  obtain ⟨a14, l14, c14, e14, g⟩ := gSlice_elim g
  obtain ⟨a16, l16, c16, e16, g⟩ := gSlice_elim g
  obtain ⟨a18, l18, c18, e18, g⟩ := gSlice_elim g
  obtain ⟨a20, l20, c20, e20, g⟩ := gSlice_elim g
  exact den_cut 1 (r := (cAt C [true, true, true, true, true, true, true, true, true, true, true, true, true, false, true])) (by kernel_rfl) (B15.ok R) (den_enter [(5, .slice a5 l5 c5), (7, .slice a7 l7 c7), (9, .slice a9 l9 c9), (10, .slice a10 l10 c10), (11, .slice a11 l11 c11), (12, .slice a12 l12 c12), (13, .pointer (some q13)), (14, .slice a14 l14 c14), (16, .slice a16 l16 c16), (18, .slice a18 l18 c18), (20, .slice a20 l20 c20)] ⟨e5, e7, e9, e10, e11, e12, e13, e14, e16, e18, e20, trivial⟩ (by kernel_rfl) g)
theorem W16.ok (R : Rt) (fr : Fr) (h : Hp) (g : D12.g R fr h) : den prog E (cAt C [true, true, true, true, true, true, true, true, true, true, true, true, true]) (retQ E [.tmp 4] R) fr h :=
  den_then (by kernel_rfl) (D3.ok R) (D12.ok R fr h g)
def L18.g (N : Option Addr → Nat → Nat → Option Addr → Nat → Nat → Option Addr → Nat → Nat → Option Addr → Nat → Nat → Option Addr → Nat → Nat → Option Addr → Nat → Nat → Addr → Option Addr → Nat → Nat → Option Addr → Nat → Nat → Option Addr → Nat → Nat → Option Addr → Nat → Nat → Int → Hp → Prop) (fr : Fr) (h : Hp) : Prop := gSlice (fr 5) fun a5 l5 c5 => gSlice (fr 7) fun a7 l7 c7 => gSlice (fr 9) fun a9 l9 c9 => gSlice (fr 10) fun a10 l10 c10 => gSlice (fr 11) fun a11 l11 c11 => gSlice (fr 12) fun a12 l12 c12 => gPtrS (fr 13) fun q13 => gSlice (fr 14) fun a14 l14 c14 => gSlice (fr 16) fun a16 l16 c16 => gSlice (fr 18) fun a18 l18 c18 => gSlice (fr 20) fun a20 l20 c20 => gInt .i64 (fr 22) fun x22 => N a5 l5 c5 a7 l7 c7 a9 l9 c9 a10 l10 c10 a11 l11 c11 a12 l12 c12 q13 a14 l14 c14 a16 l16 c16 a18 l18 c18 a20 l20 c20 x22 h
def D19.t (R : Rt) (N18 : Option Addr → Nat → Nat → Option Addr → Nat → Nat → Option Addr → Nat → Nat → Option Addr → Nat → Nat → Option Addr → Nat → Nat → Option Addr → Nat → Nat → Addr → Option Addr → Nat → Nat → Option Addr → Nat → Nat → Option Addr → Nat → Nat → Option Addr → Nat → Nat → Int → Hp → Prop) (a5 : Option Addr) (l5 : Nat) (c5 : Nat) (a7 : Option Addr) (l7 : Nat) (c7 : Nat) (a9 : Option Addr) (l9 : Nat) (c9 : Nat) (a10 : Option Addr) (l10 : Nat) (c10 : Nat) (a11 : Option Addr) (l11 : Nat) (c11 : Nat) (a12 : Option Addr) (l12 : Nat) (c12 : Nat) (q13 : Addr) (a14 : Option Addr) (l14 : Nat) (c14 : Nat) (a16 : Option Addr) (l16 : Nat) (c16 : Nat) (a18 : Option Addr) (l18 : Nat) (c18 : Nat) (a20 : Option Addr) (l20 : Nat) (c20 : Nat) (x22 : Int) (h : Hp) : Prop :=
  cond (decide (x22 < (((l9 : Nat) : Int)))) (idxK a9 l9 x22 1 fun q322 =>
  ldK h q322 fun v323 =>
  gInt .u64 v323 fun x_324 =>
  (2 : Int) ≠ 0 ∧ letK (IntKind.u64.wrap (Int.tdiv x_324 2)) fun n325 =>
  letK (IntKind.u64.wrap (n325 + 1)) fun n326 =>
  idxK a9 l9 x22 1 fun q327 =>
  stK h q327 (.int .u64 n326) fun h328 =>
  letK (IntKind.i64.wrap (x22 + 1)) fun n329 =>
  N18 a5 l5 c5 a7 l7 c7 a9 l9 c9 a10 l10 c10 a11 l11 c11 a12 l12 c12 q13 a14 l14 c14 a16 l16 c16 a18 l18 c18 a20 l20 c20 n329 h328) (D12.t R a5 l5 c5 a7 l7 c7 a9 l9 c9 a10 l10 c10 a11 l11 c11 a12 l12 c12 q13 a14 l14 c14 a16 l16 c16 a18 l18 c18 a20 l20 c20 h)
def D19.g (R : Rt) (N18 : Option Addr → Nat → Nat → Option Addr → Nat → Nat → Option Addr → Nat → Nat → Option Addr → Nat → Nat → Option Addr → Nat → Nat → Option Addr → Nat → Nat → Addr → Option Addr → Nat → Nat → Option Addr → Nat → Nat → Option Addr → Nat → Nat → Option Addr → Nat → Nat → Int → Hp → Prop) (fr : Fr) (h : Hp) : Prop := gSlice (fr 5) fun a5 l5 c5 => gSlice (fr 7) fun a7 l7 c7 => gSlice (fr 9) fun a9 l9 c9 => gSlice (fr 10) fun a10 l10 c10 => gSlice (fr 11) fun a11 l11 c11 => gSlice (fr 12) fun a12 l12 c12 => gPtrS (fr 13) fun q13 => gSlice (fr 14) fun a14 l14 c14 => gSlice (fr 16) fun a16 l16 c16 => gSlice (fr 18) fun a18 l18 c18 => gSlice (fr 20) fun a20 l20 c20 => gInt .i64 (fr 22) fun x22 => D19.t R N18 a5 l5 c5 a7 l7 c7 a9 l9 c9 a10 l10 c10 a11 l11 c11 a12 l12 c12 q13 a14 l14 c14 a16 l16 c16 a18 l18 c18 a20 l20 c20 x22 h
theorem D19.ok (R : Rt) (N18 : Option Addr → Nat → Nat → Option Addr → Nat → Nat → Option Addr → Nat → Nat → Option Addr → Nat → Nat → Option Addr → Nat → Nat → Option Addr → Nat → Nat → Addr → Option Addr → Nat → Nat → Option Addr → Nat → Nat → Option Addr → Nat → Nat → Option Addr → Nat → Nat → Int → Hp → Prop) (fr : Fr) (h : Hp) (g : D19.g R N18 fr h) : den prog E (cAt C [true, true, true, true, true, true, true, true, true, true, true, true, false, true, false, false]) (Ex.then (L18.g N18) (Ex.inBlock 0 (Ex.then (D12.g R) (retQ E [.tmp 4] R)))) fr h := by
  obtain ⟨a5, l5, c5, e5, g⟩ := gSlice_elim g
  obtain ⟨a7, l7, c7, e7, g⟩ := gSlice_elim g
  obtain ⟨a9, l9, c9, e9, g⟩ := gSlice_elim g
  obtain ⟨a10, l10, c10, e10, g⟩ := gSlice_elim g
  obtain ⟨a11, l11, c11, e11, g⟩ := gSlice_elim g
  obtain ⟨a12, l12, c12, e12, g⟩ := gSlice_elim g
  obtain ⟨q13, e13, g⟩ := gPtrS_elim g
  obtain ⟨a14, l14, c14, e14, g⟩ := gSlice_elim g
  obtain ⟨a16, l16, c16, e16, g⟩ := gSlice_elim g
  obtain ⟨a18, l18, c18, e18, g⟩ := gSlice_elim g
  obtain ⟨a20, l20, c20, e20, g⟩ := gSlice_elim g
  obtain ⟨x22, e22, g⟩ := gInt_elim g
  exact den_enter [(5, .slice a5 l5 c5), (7, .slice a7 l7 c7), (9, .slice a9 l9 c9), (10, .slice a10 l10 c10), (11, .slice a11 l11 c11), (12, .slice a12 l12 c12), (13, .pointer (some q13)), (14, .slice a14 l14 c14), (16, .slice a16 l16 c16), (18, .slice a18 l18 c18), (20, .slice a20 l20 c20), (22, .int .i64 x22)] ⟨e5, e7, e9, e10, e11, e12, e13, e14, e16, e18, e20, e22, trivial⟩ (by kernel_rfl) g
def L18.t (R : Rt) : Nat → Option Addr → Nat → Nat → Option Addr → Nat → Nat → Option Addr → Nat → Nat → Option Addr → Nat → Nat → Option Addr → Nat → Nat → Option Addr → Nat → Nat → Addr → Option Addr → Nat → Nat → Option Addr → Nat → Nat → Option Addr → Nat → Nat → Option Addr → Nat → Nat → Int → Hp → Prop
  | 0 => fun _ _ _ _ _ _ _ _ _ _ _ _ _ _ _ _ _ _ _ _ _ _ _ _ _ _ _ _ _ _ _ _ _ => False
  | n + 1 => fun a5 l5 c5 a7 l7 c7 a9 l9 c9 a10 l10 c10 a11 l11 c11 a12 l12 c12 q13 a14 l14 c14 a16 l16 c16 a18 l18 c18 a20 l20 c20 x22 h => D19.t R (L18.t R n) a5 l5 c5 a7 l7 c7 a9 l9 c9 a10 l10 c10 a11 l11 c11 a12 l12 c12 q13 a14 l14 c14 a16 l16 c16 a18 l18 c18 a20 l20 c20 x22 h
theorem L18.ok (R : Rt) (fr : Fr) (h : Hp) (g : L18.g (fun a5 l5 c5 a7 l7 c7 a9 l9 c9 a10 l10 c10 a11 l11 c11 a12 l12 c12 q13 a14 l14 c14 a16 l16 c16 a18 l18 c18 a20 l20 c20 x22 h => ∃ n, L18.t R n a5 l5 c5 a7 l7 c7 a9 l9 c9 a10 l10 c10 a11 l11 c11 a12 l12 c12 q13 a14 l14 c14 a16 l16 c16 a18 l18 c18 a20 l20 c20 x22 h) fr h) : den prog E (cAt C [true, true, true, true, true, true, true, true, true, true, true, true, false, true, false]) (Ex.inBlock 0 (Ex.then (D12.g R) (retQ E [.tmp 4] R))) fr h := by
  obtain ⟨a5, l5, c5, e5, g⟩ := gSlice_elim g
  obtain ⟨a7, l7, c7, e7, g⟩ := gSlice_elim g
  obtain ⟨a9, l9, c9, e9, g⟩ := gSlice_elim g
  obtain ⟨a10, l10, c10, e10, g⟩ := gSlice_elim g
  obtain ⟨a11, l11, c11, e11, g⟩ := gSlice_elim g
  obtain ⟨a12, l12, c12, e12, g⟩ := gSlice_elim g
  obtain ⟨q13, e13, g⟩ := gPtrS_elim g
  obtain ⟨a14, l14, c14, e14, g⟩ := gSlice_elim g
  obtain ⟨a16, l16, c16, e16, g⟩ := gSlice_elim g
  obtain ⟨a18, l18, c18, e18, g⟩ := gSlice_elim g
  obtain ⟨a20, l20, c20, e20, g⟩ := gSlice_elim g
  obtain ⟨x22, e22, g⟩ := gInt_elim g
  obtain ⟨n, g⟩ := g
  refine loop_ok (fun n => L18.g (L18.t R n)) (b := (cAt C [true, true, true, true, true, true, true, true, true, true, true, true, false, true, false, false])) (by kernel_rfl) (fun fr h g => ?_) (fun n => D19.ok R (L18.t R n)) n fr h (gSlice_intro e5 (gSlice_intro e7 (gSlice_intro e9 (gSlice_intro e10 (gSlice_intro e11 (gSlice_intro e12 (gPtrS_intro e13 (gSlice_intro e14 (gSlice_intro e16 (gSlice_intro e18 (gSlice_intro e20 (gInt_intro e22 (g)))))))))))))
  obtain ⟨a5, l5, c5, e5, g⟩ := gSlice_elim g
  obtain ⟨a7, l7, c7, e7, g⟩ := gSlice_elim g
  obtain ⟨a9, l9, c9, e9, g⟩ := gSlice_elim g
  obtain ⟨a10, l10, c10, e10, g⟩ := gSlice_elim g
  obtain ⟨a11, l11, c11, e11, g⟩ := gSlice_elim g
  obtain ⟨a12, l12, c12, e12, g⟩ := gSlice_elim g
  obtain ⟨q13, e13, g⟩ := gPtrS_elim g
  obtain ⟨a14, l14, c14, e14, g⟩ := gSlice_elim g
  obtain ⟨a16, l16, c16, e16, g⟩ := gSlice_elim g
  obtain ⟨a18, l18, c18, e18, g⟩ := gSlice_elim g
  obtain ⟨a20, l20, c20, e20, g⟩ := gSlice_elim g
  obtain ⟨x22, e22, g⟩ := gInt_elim g
  exact g
theorem B20.ok (R : Rt) (fr : Fr) (h : Hp) (g : L18.g (fun a5 l5 c5 a7 l7 c7 a9 l9 c9 a10 l10 c10 a11 l11 c11 a12 l12 c12 q13 a14 l14 c14 a16 l16 c16 a18 l18 c18 a20 l20 c20 x22 h => ∃ n, L18.t R n a5 l5 c5 a7 l7 c7 a9 l9 c9 a10 l10 c10 a11 l11 c11 a12 l12 c12 q13 a14 l14 c14 a16 l16 c16 a18 l18 c18 a20 l20 c20 x22 h) fr h) : den prog E (cAt C [true, true, true, true, true, true, true, true, true, true, true, true, false, true]) (Ex.then (D12.g R) (retQ E [.tmp 4] R)) fr h :=
  den_block (by kernel_rfl) (L18.ok R fr h g)
def D17.t (R : Rt) (a5 : Option Addr) (l5 : Nat) (c5 : Nat) (a7 : Option Addr) (l7 : Nat) (c7 : Nat) (a9 : Option Addr) (l9 : Nat) (c9 : Nat) (a10 : Option Addr) (l10 : Nat) (c10 : Nat) (a11 : Option Addr) (l11 : Nat) (c11 : Nat) (a12 : Option Addr) (l12 : Nat) (c12 : Nat) (q13 : Addr) (a14 : Option Addr) (l14 : Nat) (c14 : Nat) (a16 : Option Addr) (l16 : Nat) (c16 : Nat) (a18 : Option Addr) (l18 : Nat) (c18 : Nat) (a20 : Option Addr) (l20 : Nat) (c20 : Nat) (h : Hp) : Prop :=
  (∃ n, L18.t R n a5 l5 c5 a7 l7 c7 a9 l9 c9 a10 l10 c10 a11 l11 c11 a12 l12 c12 q13 a14 l14 c14 a16 l16 c16 a18 l18 c18 a20 l20 c20 0 h)
def D17.g (R : Rt) (fr : Fr) (h : Hp) : Prop := gSlice (fr 5) fun a5 l5 c5 => gSlice (fr 7) fun a7 l7 c7 => gSlice (fr 9) fun a9 l9 c9 => gSlice (fr 10) fun a10 l10 c10 => gSlice (fr 11) fun a11 l11 c11 => gSlice (fr 12) fun a12 l12 c12 => gPtrS (fr 13) fun q13 => gSlice (fr 14) fun a14 l14 c14 => gSlice (fr 16) fun a16 l16 c16 => gSlice (fr 18) fun a18 l18 c18 => gSlice (fr 20) fun a20 l20 c20 => D17.t R a5 l5 c5 a7 l7 c7 a9 l9 c9 a10 l10 c10 a11 l11 c11 a12 l12 c12 q13 a14 l14 c14 a16 l16 c16 a18 l18 c18 a20 l20 c20 h
theorem D17.ok (R : Rt) (fr : Fr) (h : Hp) (g : D17.g R fr h) : den prog E (cAt C [true, true, true, true, true, true, true, true, true, true, true, true, false]) (Ex.then (D12.g R) (retQ E [.tmp 4] R)) fr h := by
  obtain ⟨a5, l5, c5, e5, g⟩ := gSlice_elim g
  obtain ⟨a7, l7, c7, e7, g⟩ := gSlice_elim g
  obtain ⟨a9, l9, c9, e9, g⟩ := gSlice_elim g
  obtain ⟨a10, l10, c10, e10, g⟩ := gSlice_elim g
  obtain ⟨a11, l11, c11, e11, g⟩ := gSlice_elim g
  obtain ⟨a12, l12, c12, e12, g⟩ := gSlice_elim g
  obtain ⟨q13, e13, g⟩ := gPtrS_elim g
  obtain ⟨a14, l14, c14, e14, g⟩ := gSlice_elim g
  obtain ⟨a16, l16, c16, e16, g⟩ := gSlice_elim g
  obtain ⟨a18, l18, c18, e18, g⟩ := gSlice_elim g
  obtain ⟨a20, l20, c20, e20, g⟩ := gSlice_elim g
  exact den_cut 1 (r := (cAt C [true, true, true, true, true, true, true, true, true, true, true, true, false, true])) (by kernel_rfl) (B20.ok R) (den_enter [(5, .slice a5 l5 c5), (7, .slice a7 l7 c7), (9, .slice a9 l9 c9), (10, .slice a10 l10 c10), (11, .slice a11 l11 c11), (12, .slice a12 l12 c12), (13, .pointer (some q13)), (14, .slice a14 l14 c14), (16, .slice a16 l16 c16), (18, .slice a18 l18 c18), (20, .slice a20 l20 c20)] ⟨e5, e7, e9, e10, e11, e12, e13, e14, e16, e18, e20, trivial⟩ (by kernel_rfl) g)
theorem W21.ok (R : Rt) (fr : Fr) (h : Hp) (g : D17.g R fr h) : den prog E (cAt C [true, true, true, true, true, true, true, true, true, true, true, true]) (retQ E [.tmp 4] R) fr h :=
  den_then (by kernel_rfl) (W16.ok R) (D17.ok R fr h g)
def D2.t (R : Rt) (q2 : Addr) (q3 : Addr) (a5 : Option Addr) (l5 : Nat) (c5 : Nat) (a7 : Option Addr) (l7 : Nat) (c7 : Nat) (a9 : Option Addr) (l9 : Nat) (c9 : Nat) (a10 : Option Addr) (l10 : Nat) (c10 : Nat) (a11 : Option Addr) (l11 : Nat) (c11 : Nat) (a12 : Option Addr) (l12 : Nat) (c12 : Nat) (q13 : Addr) (a14 : Option Addr) (l14 : Nat) (c14 : Nat) (h : Hp) : Prop :=
  ldK h (q13.add 0) fun v122 =>
  gInt .i64 v122 fun x_123 =>
  ldK h (q13.add 1) fun v124 =>
  gSlice v124 fun a_125 l_125 c_125 =>
  ldK h (q13.add 2) fun v126 =>
  gSlice v126 fun a_127 l_127 c_127 =>
  ldK h (q13.add 3) fun v128 =>
  gInt .i64 v128 fun x_129 =>
  ldK h (q13.add 4) fun v130 =>
  gSlice v130 fun a_131 l_131 c_131 =>
  HC gnomonlaw02_answers.id #[.agg #[.int .i64 x_123, .slice a_125 l_125 c_125, .slice a_127 l_127 c_127, .int .i64 x_129, .slice a_131 l_131 c_131]] h fun v132 h133 =>
  gTup v132 fun y134 =>
  uncons y134 fun v135 y135 =>
  gSlice v135 fun a_136 l_136 c_136 =>
  uncons y135 fun v137 y137 =>
  gInt .i64 v137 fun x_138 =>
  unnil y137 <| ldK h133 (q3.add 0) fun v139 =>
  gInt .i64 v139 fun x_140 =>
  ldK h133 (q3.add 1) fun v141 =>
  gSlice v141 fun a_142 l_142 c_142 =>
  ldK h133 (q3.add 2) fun v143 =>
  gSlice v143 fun a_144 l_144 c_144 =>
  ldK h133 (q3.add 3) fun v145 =>
  gInt .i64 v145 fun x_146 =>
  ldK h133 (q3.add 4) fun v147 =>
  gSlice v147 fun a_148 l_148 c_148 =>
  HC gnomonlaw02_twin.id #[.agg #[.int .i64 x_140, .slice a_142 l_142 c_142, .slice a_144 l_144 c_144, .int .i64 x_146, .slice a_148 l_148 c_148]] h133 fun v149 h150 =>
  gAgg v149 fun y151 =>
  uncons y151 fun v152 y152 =>
  gInt .i64 v152 fun x_153 =>
  uncons y152 fun v154 y154 =>
  gSlice v154 fun a_155 l_155 c_155 =>
  uncons y154 fun v156 y156 =>
  gSlice v156 fun a_157 l_157 c_157 =>
  uncons y156 fun v158 y158 =>
  gInt .i64 v158 fun x_159 =>
  uncons y158 fun v160 y160 =>
  gSlice v160 fun a_161 l_161 c_161 =>
  unnil y160 <| HC gnomonlaw02_answers.id #[.agg #[.int .i64 x_153, .slice a_155 l_155 c_155, .slice a_157 l_157 c_157, .int .i64 x_159, .slice a_161 l_161 c_161]] h150 fun v162 h163 =>
  gTup v162 fun y164 =>
  uncons y164 fun v165 y165 =>
  gSlice v165 fun a_166 l_166 c_166 =>
  uncons y165 fun v167 y167 =>
  gInt .i64 v167 fun x_168 =>
  unnil y167 <| ldK h163 (q13.add 0) fun v169 =>
  gInt .i64 v169 fun x_170 =>
  ldK h163 (q13.add 1) fun v171 =>
  gSlice v171 fun a_172 l_172 c_172 =>
  ldK h163 (q13.add 2) fun v173 =>
  gSlice v173 fun a_174 l_174 c_174 =>
  ldK h163 (q13.add 3) fun v175 =>
  gInt .i64 v175 fun x_176 =>
  ldK h163 (q13.add 4) fun v177 =>
  gSlice v177 fun a_178 l_178 c_178 =>
  HC gnomonlaw02_answers.id #[.agg #[.int .i64 x_170, .slice a_172 l_172 c_172, .slice a_174 l_174 c_174, .int .i64 x_176, .slice a_178 l_178 c_178]] h163 fun v179 h180 =>
  gTup v179 fun y181 =>
  uncons y181 fun v182 y182 =>
  gSlice v182 fun a_183 l_183 c_183 =>
  uncons y182 fun v184 y184 =>
  gInt .i64 v184 fun x_185 =>
  unnil y184 <| HC gnomonlaw02_like.id #[.slice a14 l14 c14, .slice a5 l5 c5] h180 fun v186 h187 =>
  gBool v186 fun b_188 =>
  cond (!b_188) (R (.bool false) h187) (HC gnomonlaw02_like.id #[.slice a_136 l_136 c_136, .slice a5 l5 c5] h187 fun v189 h190 =>
  gBool v189 fun b_191 =>
  cond (!b_191) (R (.bool false) h190) (HC gnomonlaw02_like.id #[.slice a_166 l_166 c_166, .slice a7 l7 c7] h190 fun v192 h193 =>
  gBool v192 fun b_194 =>
  cond (!b_194) (R (.bool false) h193) (HC gnomonlaw02_like.id #[.slice a_183 l_183 c_183, .slice a5 l5 c5] h193 fun v195 h196 =>
  gBool v195 fun b_197 =>
  cond (!b_197) (R (.bool false) h196) (ldK h196 (q2.add 1) fun v198 =>
  gSlice v198 fun a_199 l_199 c_199 =>
  HQC gnomonref01_Kept.id #[.slice a10 l10 c10, .slice a_199 l_199 c_199] h196 fun v200 =>
  gBool v200 fun b_201 =>
  cond (!b_201) (R (.bool false) h196) (ldK h196 (q2.add 2) fun v202 =>
  gSlice v202 fun a_203 l_203 c_203 =>
  HQC gnomonref01_Kept.id #[.slice a12 l12 c12, .slice a_203 l_203 c_203] h196 fun v204 =>
  gBool v204 fun b_205 =>
  cond (!b_205) (R (.bool false) h196) (D17.t R a5 l5 c5 a7 l7 c7 a9 l9 c9 a10 l10 c10 a11 l11 c11 a12 l12 c12 q13 a14 l14 c14 a_136 l_136 c_136 a_166 l_166 c_166 a_183 l_183 c_183 h196))))))
def D2.g (R : Rt) (fr : Fr) (h : Hp) : Prop := gPtrS (fr 2) fun q2 => gPtrS (fr 3) fun q3 => gSlice (fr 5) fun a5 l5 c5 => gSlice (fr 7) fun a7 l7 c7 => gSlice (fr 9) fun a9 l9 c9 => gSlice (fr 10) fun a10 l10 c10 => gSlice (fr 11) fun a11 l11 c11 => gSlice (fr 12) fun a12 l12 c12 => gPtrS (fr 13) fun q13 => gSlice (fr 14) fun a14 l14 c14 => D2.t R q2 q3 a5 l5 c5 a7 l7 c7 a9 l9 c9 a10 l10 c10 a11 l11 c11 a12 l12 c12 q13 a14 l14 c14 h
theorem D2.ok (R : Rt) (fr : Fr) (h : Hp) (g : D2.g R fr h) : den prog E (cAt C [true, true, true, true, true, true, true, true]) (retQ E [.tmp 4] R) fr h := by
  obtain ⟨q2, e2, g⟩ := gPtrS_elim g
  obtain ⟨q3, e3, g⟩ := gPtrS_elim g
  obtain ⟨a5, l5, c5, e5, g⟩ := gSlice_elim g
  obtain ⟨a7, l7, c7, e7, g⟩ := gSlice_elim g
  obtain ⟨a9, l9, c9, e9, g⟩ := gSlice_elim g
  obtain ⟨a10, l10, c10, e10, g⟩ := gSlice_elim g
  obtain ⟨a11, l11, c11, e11, g⟩ := gSlice_elim g
  obtain ⟨a12, l12, c12, e12, g⟩ := gSlice_elim g
  obtain ⟨q13, e13, g⟩ := gPtrS_elim g
  obtain ⟨a14, l14, c14, e14, g⟩ := gSlice_elim g
  exact den_cut 4 (r := (cAt C [true, true, true, true, true, true, true, true, true, true, true, true])) (by kernel_rfl) (W21.ok R) (den_enter [(2, .pointer (some q2)), (3, .pointer (some q3)), (5, .slice a5 l5 c5), (7, .slice a7 l7 c7), (9, .slice a9 l9 c9), (10, .slice a10 l10 c10), (11, .slice a11 l11 c11), (12, .slice a12 l12 c12), (13, .pointer (some q13)), (14, .slice a14 l14 c14)] ⟨e2, e3, e5, e7, e9, e10, e11, e12, e13, e14, trivial⟩ (by kernel_rfl) g)
def D1.t (R : Rt) (x0_0 : Int) (a0_1 : Option Addr) (l0_1 : Nat) (c0_1 : Nat) (a0_2 : Option Addr) (l0_2 : Nat) (c0_2 : Nat) (x0_3 : Int) (a0_4 : Option Addr) (l0_4 : Nat) (c0_4 : Nat) (x1_0 : Int) (a1_1 : Option Addr) (l1_1 : Nat) (c1_1 : Nat) (a1_2 : Option Addr) (l1_2 : Nat) (c1_2 : Nat) (x1_3 : Int) (a1_4 : Option Addr) (l1_4 : Nat) (c1_4 : Nat) (h : Hp) : Prop :=
  boxK h 52 [.int .i64 x0_0, .slice a0_1 l0_1 c0_1, .slice a0_2 l0_2 c0_2, .int .i64 x0_3, .slice a0_4 l0_4 c0_4] fun q1 h2 =>
  boxK h2 52 [.int .i64 x1_0, .slice a1_1 l1_1 c1_1, .slice a1_2 l1_2 c1_2, .int .i64 x1_3, .slice a1_4 l1_4 c1_4] fun q3 h4 =>
  ldK h4 (q1.add 0) fun v5 =>
  gInt .i64 v5 fun x_6 =>
  ldK h4 (q1.add 1) fun v7 =>
  gSlice v7 fun a_8 l_8 c_8 =>
  ldK h4 (q1.add 2) fun v9 =>
  gSlice v9 fun a_10 l_10 c_10 =>
  ldK h4 (q1.add 3) fun v11 =>
  gInt .i64 v11 fun x_12 =>
  ldK h4 (q1.add 4) fun v13 =>
  gSlice v13 fun a_14 l_14 c_14 =>
  HC gnomonlaw02_twin.id #[.agg #[.int .i64 x_6, .slice a_8 l_8 c_8, .slice a_10 l_10 c_10, .int .i64 x_12, .slice a_14 l_14 c_14]] h4 fun v15 h16 =>
  gAgg v15 fun y17 =>
  uncons y17 fun v18 y18 =>
  gInt .i64 v18 fun x_19 =>
  uncons y18 fun v20 y20 =>
  gSlice v20 fun a_21 l_21 c_21 =>
  uncons y20 fun v22 y22 =>
  gSlice v22 fun a_23 l_23 c_23 =>
  uncons y22 fun v24 y24 =>
  gInt .i64 v24 fun x_25 =>
  uncons y24 fun v26 y26 =>
  gSlice v26 fun a_27 l_27 c_27 =>
  unnil y26 <| HC gnomonlaw02_doc.id #[.agg #[.int .i64 x_19, .slice a_21 l_21 c_21, .slice a_23 l_23 c_23, .int .i64 x_25, .slice a_27 l_27 c_27]] h16 fun v28 h29 =>
  gTup v28 fun y30 =>
  uncons y30 fun v31 y31 =>
  gSlice v31 fun a_32 l_32 c_32 =>
  uncons y31 fun v33 y33 =>
  gInt .i64 v33 fun x_34 =>
  unnil y33 <| ldK h29 (q3.add 0) fun v35 =>
  gInt .i64 v35 fun x_36 =>
  ldK h29 (q3.add 1) fun v37 =>
  gSlice v37 fun a_38 l_38 c_38 =>
  ldK h29 (q3.add 2) fun v39 =>
  gSlice v39 fun a_40 l_40 c_40 =>
  ldK h29 (q3.add 3) fun v41 =>
  gInt .i64 v41 fun x_42 =>
  ldK h29 (q3.add 4) fun v43 =>
  gSlice v43 fun a_44 l_44 c_44 =>
  HC gnomonlaw02_twin.id #[.agg #[.int .i64 x_36, .slice a_38 l_38 c_38, .slice a_40 l_40 c_40, .int .i64 x_42, .slice a_44 l_44 c_44]] h29 fun v45 h46 =>
  gAgg v45 fun y47 =>
  uncons y47 fun v48 y48 =>
  gInt .i64 v48 fun x_49 =>
  uncons y48 fun v50 y50 =>
  gSlice v50 fun a_51 l_51 c_51 =>
  uncons y50 fun v52 y52 =>
  gSlice v52 fun a_53 l_53 c_53 =>
  uncons y52 fun v54 y54 =>
  gInt .i64 v54 fun x_55 =>
  uncons y54 fun v56 y56 =>
  gSlice v56 fun a_57 l_57 c_57 =>
  unnil y56 <| HC gnomonlaw02_doc.id #[.agg #[.int .i64 x_49, .slice a_51 l_51 c_51, .slice a_53 l_53 c_53, .int .i64 x_55, .slice a_57 l_57 c_57]] h46 fun v58 h59 =>
  gTup v58 fun y60 =>
  uncons y60 fun v61 y61 =>
  gSlice v61 fun a_62 l_62 c_62 =>
  uncons y61 fun v63 y63 =>
  gInt .i64 v63 fun x_64 =>
  unnil y63 <| ldK h59 (q1.add 1) fun v65 =>
  gSlice v65 fun a_66 l_66 c_66 =>
  HC gnomonref01_Spare.id #[.slice a_66 l_66 c_66] h59 fun v67 h68 =>
  gTup v67 fun y69 =>
  uncons y69 fun v70 y70 =>
  gSlice v70 fun a_71 l_71 c_71 =>
  uncons y70 fun v72 y72 =>
  gSlice v72 fun a_73 l_73 c_73 =>
  unnil y72 <| ldK h68 (q1.add 2) fun v74 =>
  gSlice v74 fun a_75 l_75 c_75 =>
  HC gnomonref01_Spare.id #[.slice a_75 l_75 c_75] h68 fun v76 h77 =>
  gTup v76 fun y78 =>
  uncons y78 fun v79 y79 =>
  gSlice v79 fun a_80 l_80 c_80 =>
  uncons y79 fun v81 y81 =>
  gSlice v81 fun a_82 l_82 c_82 =>
  unnil y81 <| ldK h77 (q1.add 0) fun v83 =>
  gInt .i64 v83 fun x_84 =>
  ldK h77 (q1.add 3) fun v85 =>
  gInt .i64 v85 fun x_86 =>
  boxK h77 52 T52.zs fun q87 h88 =>
  stK h88 (q87.add 0) (.int .i64 x_84) fun h89 =>
  stK h89 (q87.add 1) (.slice a_71 l_71 c_71) fun h90 =>
  stK h90 (q87.add 2) (.slice a_80 l_80 c_80) fun h91 =>
  stK h91 (q87.add 3) (.int .i64 x_86) fun h92 =>
  stK h92 (q87.add 4) (.slice none 0 0) fun h93 =>
  ldK h93 (q87.add 0) fun v94 =>
  gInt .i64 v94 fun x_95 =>
  ldK h93 (q87.add 1) fun v96 =>
  gSlice v96 fun a_97 l_97 c_97 =>
  ldK h93 (q87.add 2) fun v98 =>
  gSlice v98 fun a_99 l_99 c_99 =>
  ldK h93 (q87.add 3) fun v100 =>
  gInt .i64 v100 fun x_101 =>
  ldK h93 (q87.add 4) fun v102 =>
  gSlice v102 fun a_103 l_103 c_103 =>
  HC gnomonlaw02_answers.id #[.agg #[.int .i64 x_95, .slice a_97 l_97 c_97, .slice a_99 l_99 c_99, .int .i64 x_101, .slice a_103 l_103 c_103]] h93 fun v104 h105 =>
  gTup v104 fun y106 =>
  uncons y106 fun v107 y107 =>
  gSlice v107 fun a_108 l_108 c_108 =>
  uncons y107 fun v109 y109 =>
  gInt .i64 v109 fun x_110 =>
  unnil y109 <| cond (x_110 != x_34) (R (.bool false) h105) (HC gnomonlaw02_like.id #[.slice a_108 l_108 c_108, .slice a_32 l_32 c_32] h105 fun v111 h112 =>
  gBool v111 fun b_113 =>
  cond (!b_113) (R (.bool false) h112) (ldK h112 (q1.add 1) fun v114 =>
  gSlice v114 fun a_115 l_115 c_115 =>
  HQC gnomonref01_Kept.id #[.slice a_73 l_73 c_73, .slice a_115 l_115 c_115] h112 fun v116 =>
  gBool v116 fun b_117 =>
  cond (!b_117) (R (.bool false) h112) (ldK h112 (q1.add 2) fun v118 =>
  gSlice v118 fun a_119 l_119 c_119 =>
  HQC gnomonref01_Kept.id #[.slice a_82 l_82 c_82, .slice a_119 l_119 c_119] h112 fun v120 =>
  gBool v120 fun b_121 =>
  cond (!b_121) (R (.bool false) h112) (D2.t R q1 q3 a_32 l_32 c_32 a_62 l_62 c_62 a_71 l_71 c_71 a_73 l_73 c_73 a_80 l_80 c_80 a_82 l_82 c_82 q87 a_108 l_108 c_108 h112))))
def D1.g (R : Rt) (fr : Fr) (h : Hp) : Prop := gAgg (fr 0) fun z0 => uncons z0 fun w0_0 z0_0 => gInt .i64 w0_0 fun x0_0 => uncons z0_0 fun w0_1 z0_1 => gSlice w0_1 fun a0_1 l0_1 c0_1 => uncons z0_1 fun w0_2 z0_2 => gSlice w0_2 fun a0_2 l0_2 c0_2 => uncons z0_2 fun w0_3 z0_3 => gInt .i64 w0_3 fun x0_3 => uncons z0_3 fun w0_4 z0_4 => gSlice w0_4 fun a0_4 l0_4 c0_4 => unnil z0_4 <| gAgg (fr 1) fun z1 => uncons z1 fun w1_0 z1_0 => gInt .i64 w1_0 fun x1_0 => uncons z1_0 fun w1_1 z1_1 => gSlice w1_1 fun a1_1 l1_1 c1_1 => uncons z1_1 fun w1_2 z1_2 => gSlice w1_2 fun a1_2 l1_2 c1_2 => uncons z1_2 fun w1_3 z1_3 => gInt .i64 w1_3 fun x1_3 => uncons z1_3 fun w1_4 z1_4 => gSlice w1_4 fun a1_4 l1_4 c1_4 => unnil z1_4 <| D1.t R x0_0 a0_1 l0_1 c0_1 a0_2 l0_2 c0_2 x0_3 a0_4 l0_4 c0_4 x1_0 a1_1 l1_1 c1_1 a1_2 l1_2 c1_2 x1_3 a1_4 l1_4 c1_4 h
theorem D1.ok (R : Rt) (fr : Fr) (h : Hp) (g : D1.g R fr h) : den prog E C (retQ E [.tmp 4] R) fr h := by
  obtain ⟨z0, e0, g0_0⟩ := gAgg_elim' g
  obtain ⟨w0_0, z0_0, rfl, g0_0x⟩ := uncons_elim g0_0
  obtain ⟨x0_0, rfl, g0_1⟩ := gInt_elim g0_0x
  obtain ⟨w0_1, z0_1, rfl, g0_1x⟩ := uncons_elim g0_1
  obtain ⟨a0_1, l0_1, c0_1, rfl, g0_2⟩ := gSlice_elim g0_1x
  obtain ⟨w0_2, z0_2, rfl, g0_2x⟩ := uncons_elim g0_2
  obtain ⟨a0_2, l0_2, c0_2, rfl, g0_3⟩ := gSlice_elim g0_2x
  obtain ⟨w0_3, z0_3, rfl, g0_3x⟩ := uncons_elim g0_3
  obtain ⟨x0_3, rfl, g0_4⟩ := gInt_elim g0_3x
  obtain ⟨w0_4, z0_4, rfl, g0_4x⟩ := uncons_elim g0_4
  obtain ⟨a0_4, l0_4, c0_4, rfl, g0_5⟩ := gSlice_elim g0_4x
  obtain ⟨rfl, g⟩ := unnil_elim g0_5
  obtain ⟨z1, e1, g1_0⟩ := gAgg_elim' g
  obtain ⟨w1_0, z1_0, rfl, g1_0x⟩ := uncons_elim g1_0
  obtain ⟨x1_0, rfl, g1_1⟩ := gInt_elim g1_0x
  obtain ⟨w1_1, z1_1, rfl, g1_1x⟩ := uncons_elim g1_1
  obtain ⟨a1_1, l1_1, c1_1, rfl, g1_2⟩ := gSlice_elim g1_1x
  obtain ⟨w1_2, z1_2, rfl, g1_2x⟩ := uncons_elim g1_2
  obtain ⟨a1_2, l1_2, c1_2, rfl, g1_3⟩ := gSlice_elim g1_2x
  obtain ⟨w1_3, z1_3, rfl, g1_3x⟩ := uncons_elim g1_3
  obtain ⟨x1_3, rfl, g1_4⟩ := gInt_elim g1_3x
  obtain ⟨w1_4, z1_4, rfl, g1_4x⟩ := uncons_elim g1_4
  obtain ⟨a1_4, l1_4, c1_4, rfl, g1_5⟩ := gSlice_elim g1_4x
  obtain ⟨rfl, g⟩ := unnil_elim g1_5
  exact den_cut 8 (r := (cAt C [true, true, true, true, true, true, true, true])) (by kernel_rfl) (D2.ok R) (den_enter [(0, .agg #[.int .i64 x0_0, .slice a0_1 l0_1 c0_1, .slice a0_2 l0_2 c0_2, .int .i64 x0_3, .slice a0_4 l0_4 c0_4]), (1, .agg #[.int .i64 x1_0, .slice a1_1 l1_1 c1_1, .slice a1_2 l1_2 c1_2, .int .i64 x1_3, .slice a1_4 l1_4 c1_4])] ⟨e0, e1, trivial⟩ (by kernel_rfl) g)
def t (x0_0 : Int) (a0_1 : Option Addr) (l0_1 : Nat) (c0_1 : Nat) (a0_2 : Option Addr) (l0_2 : Nat) (c0_2 : Nat) (x0_3 : Int) (a0_4 : Option Addr) (l0_4 : Nat) (c0_4 : Nat) (x1_0 : Int) (a1_1 : Option Addr) (l1_1 : Nat) (c1_1 : Nat) (a1_2 : Option Addr) (l1_2 : Nat) (c1_2 : Nat) (x1_3 : Int) (a1_4 : Option Addr) (l1_4 : Nat) (c1_4 : Nat) (h : Hp) (R : Rt) : Prop := D1.t R x0_0 a0_1 l0_1 c0_1 a0_2 l0_2 c0_2 x0_3 a0_4 l0_4 c0_4 x1_0 a1_1 l1_1 c1_1 a1_2 l1_2 c1_2 x1_3 a1_4 l1_4 c1_4 h
theorem ok {x0_0 : Int} {a0_1 : Option Addr} {l0_1 : Nat} {c0_1 : Nat} {a0_2 : Option Addr} {l0_2 : Nat} {c0_2 : Nat} {x0_3 : Int} {a0_4 : Option Addr} {l0_4 : Nat} {c0_4 : Nat} {x1_0 : Int} {a1_1 : Option Addr} {l1_1 : Nat} {c1_1 : Nat} {a1_2 : Option Addr} {l1_2 : Nat} {c1_2 : Nat} {x1_3 : Int} {a1_4 : Option Addr} {l1_4 : Nat} {c1_4 : Nat} {h : Hp} {R : Rt} (g : t x0_0 a0_1 l0_1 c0_1 a0_2 l0_2 c0_2 x0_3 a0_4 l0_4 c0_4 x1_0 a1_1 l1_1 c1_1 a1_2 l1_2 c1_2 x1_3 a1_4 l1_4 c1_4 h R) : HC id #[.agg #[.int .i64 x0_0, .slice a0_1 l0_1 c0_1, .slice a0_2 l0_2 c0_2, .int .i64 x0_3, .slice a0_4 l0_4 c0_4], .agg #[.int .i64 x1_0, .slice a1_1 l1_1 c1_1, .slice a1_2 l1_2 c1_2, .int .i64 x1_3, .slice a1_4 l1_4 c1_4]] h R :=
  calls_of_den' envOk (c := C) (rs := [.tmp 4]) Try.func32 (by kernel_rfl) (by kernel_rfl) (by kernel_rfl) (args := [.agg #[.int .i64 x0_0, .slice a0_1 l0_1 c0_1, .slice a0_2 l0_2 c0_2, .int .i64 x0_3, .slice a0_4 l0_4 c0_4], .agg #[.int .i64 x1_0, .slice a1_1 l1_1 c1_1, .slice a1_2 l1_2 c1_2, .int .i64 x1_3, .slice a1_4 l1_4 c1_4]]) (by kernel_rfl) (D1.ok R _ h (gAgg_intro rfl (uncons_intro (gInt_intro rfl (uncons_intro (gSlice_intro rfl (uncons_intro (gSlice_intro rfl (uncons_intro (gInt_intro rfl (uncons_intro (gSlice_intro rfl (unnil_intro (gAgg_intro rfl (uncons_intro (gInt_intro rfl (uncons_intro (gSlice_intro rfl (uncons_intro (gSlice_intro rfl (uncons_intro (gInt_intro rfl (uncons_intro (gSlice_intro rfl (unnil_intro (g))))))))))))))))))))))))))
end gnomonlaw02_keeps

namespace nat_Shl
noncomputable def C : Code := bodyOf Try.f33
def D2.t (R : Rt) (a8 : Option Addr) (l8 : Nat) (c8 : Nat) (h : Hp) : Prop :=
  HC nat_told.id #[.slice a8 l8 c8] h fun v14 h15 =>
  gTup v14 fun y16 =>
  uncons y16 fun v17 y17 =>
  gSlice v17 fun a_18 l_18 c_18 =>
  uncons y17 fun v19 y19 =>
  gInt .i64 v19 fun x_20 =>
  unnil y19 <| R (.tuple #[.slice a_18 l_18 c_18, .int .i64 x_20]) h15
def D2.g (R : Rt) (fr : Fr) (h : Hp) : Prop := gSlice (fr 8) fun a8 l8 c8 => D2.t R a8 l8 c8 h
theorem D2.ok (R : Rt) (fr : Fr) (h : Hp) (g : D2.g R fr h) : den prog E (cAt C [true, true, true, true, true, true, true, true]) (retQ E [.tmp 4, .tmp 5] R) fr h := by
  obtain ⟨a8, l8, c8, e8, g⟩ := gSlice_elim g
  exact den_enter [(8, .slice a8 l8 c8)] ⟨e8, trivial⟩ (by kernel_rfl) g
def L4.g (N : Option Addr → Nat → Nat → Int → Int → Option Addr → Nat → Nat → Int → Int → Hp → Prop) (fr : Fr) (h : Hp) : Prop := gSlice (fr 0) fun a0 l0 c0 => gInt .i64 (fr 6) fun x6 => gInt .i64 (fr 7) fun x7 => gSlice (fr 8) fun a8 l8 c8 => gInt .i64 (fr 34) fun x34 => gInt .i64 (fr 35) fun x35 => N a0 l0 c0 x6 x7 a8 l8 c8 x34 x35 h
def D5.t (R : Rt) (N4 : Option Addr → Nat → Nat → Int → Int → Option Addr → Nat → Nat → Int → Int → Hp → Prop) (a0 : Option Addr) (l0 : Nat) (c0 : Nat) (x6 : Int) (x7 : Int) (a8 : Option Addr) (l8 : Nat) (c8 : Nat) (x34 : Int) (x35 : Int) (h : Hp) : Prop :=
  cond (decide (x35 < x34)) (letK (IntKind.i64.wrap (x6 + x35)) fun n21 =>
  idxK a8 l8 n21 1 fun q22 =>
  ldK h q22 fun v23 =>
  gInt .u64 v23 fun x_24 =>
  idxK a0 l0 x35 1 fun q25 =>
  ldK h q25 fun v26 =>
  gInt .u64 v26 fun x_27 =>
  0 ≤ x7 ∧ letK (shlI .u64 x_27 x7) fun n28 =>
  letK (orI .u64 x_24 n28) fun n29 =>
  idxK a8 l8 n21 1 fun q30 =>
  stK h q30 (.int .u64 n29) fun h31 =>
  letK (IntKind.i64.wrap (x6 + x35)) fun n32 =>
  letK (IntKind.i64.wrap (n32 + 1)) fun n33 =>
  idxK a0 l0 x35 1 fun q34 =>
  ldK h31 q34 fun v35 =>
  gInt .u64 v35 fun x_36 =>
  0 ≤ (1 : Int) ∧ letK (shrI .u64 x_36 1) fun n37 =>
  letK (IntKind.i64.wrap (63 - x7)) fun n38 =>
  0 ≤ n38 ∧ letK (shrI .u64 n37 n38) fun n39 =>
  idxK a8 l8 n33 1 fun q40 =>
  stK h31 q40 (.int .u64 n39) fun h41 =>
  letK (IntKind.i64.wrap (x35 + 1)) fun n42 =>
  N4 a0 l0 c0 x6 x7 a8 l8 c8 x34 n42 h41) (D2.t R a8 l8 c8 h)
def D5.g (R : Rt) (N4 : Option Addr → Nat → Nat → Int → Int → Option Addr → Nat → Nat → Int → Int → Hp → Prop) (fr : Fr) (h : Hp) : Prop := gSlice (fr 0) fun a0 l0 c0 => gInt .i64 (fr 6) fun x6 => gInt .i64 (fr 7) fun x7 => gSlice (fr 8) fun a8 l8 c8 => gInt .i64 (fr 34) fun x34 => gInt .i64 (fr 35) fun x35 => D5.t R N4 a0 l0 c0 x6 x7 a8 l8 c8 x34 x35 h
theorem D5.ok (R : Rt) (N4 : Option Addr → Nat → Nat → Int → Int → Option Addr → Nat → Nat → Int → Int → Hp → Prop) (fr : Fr) (h : Hp) (g : D5.g R N4 fr h) : den prog E (cAt C [true, true, true, true, true, true, true, false, true, false, false]) (Ex.then (L4.g N4) (Ex.inBlock 0 (Ex.then (D2.g R) (retQ E [.tmp 4, .tmp 5] R)))) fr h := by
  obtain ⟨a0, l0, c0, e0, g⟩ := gSlice_elim g
  obtain ⟨x6, e6, g⟩ := gInt_elim g
  obtain ⟨x7, e7, g⟩ := gInt_elim g
  obtain ⟨a8, l8, c8, e8, g⟩ := gSlice_elim g
  obtain ⟨x34, e34, g⟩ := gInt_elim g
  obtain ⟨x35, e35, g⟩ := gInt_elim g
  exact den_enter [(0, .slice a0 l0 c0), (6, .int .i64 x6), (7, .int .i64 x7), (8, .slice a8 l8 c8), (34, .int .i64 x34), (35, .int .i64 x35)] ⟨e0, e6, e7, e8, e34, e35, trivial⟩ (by kernel_rfl) g
def L4.t (R : Rt) : Nat → Option Addr → Nat → Nat → Int → Int → Option Addr → Nat → Nat → Int → Int → Hp → Prop
  | 0 => fun _ _ _ _ _ _ _ _ _ _ _ => False
  | n + 1 => fun a0 l0 c0 x6 x7 a8 l8 c8 x34 x35 h => D5.t R (L4.t R n) a0 l0 c0 x6 x7 a8 l8 c8 x34 x35 h
theorem L4.ok (R : Rt) (fr : Fr) (h : Hp) (g : L4.g (fun a0 l0 c0 x6 x7 a8 l8 c8 x34 x35 h => ∃ n, L4.t R n a0 l0 c0 x6 x7 a8 l8 c8 x34 x35 h) fr h) : den prog E (cAt C [true, true, true, true, true, true, true, false, true, false]) (Ex.inBlock 0 (Ex.then (D2.g R) (retQ E [.tmp 4, .tmp 5] R))) fr h := by
  obtain ⟨a0, l0, c0, e0, g⟩ := gSlice_elim g
  obtain ⟨x6, e6, g⟩ := gInt_elim g
  obtain ⟨x7, e7, g⟩ := gInt_elim g
  obtain ⟨a8, l8, c8, e8, g⟩ := gSlice_elim g
  obtain ⟨x34, e34, g⟩ := gInt_elim g
  obtain ⟨x35, e35, g⟩ := gInt_elim g
  obtain ⟨n, g⟩ := g
  refine loop_ok (fun n => L4.g (L4.t R n)) (b := (cAt C [true, true, true, true, true, true, true, false, true, false, false])) (by kernel_rfl) (fun fr h g => ?_) (fun n => D5.ok R (L4.t R n)) n fr h (gSlice_intro e0 (gInt_intro e6 (gInt_intro e7 (gSlice_intro e8 (gInt_intro e34 (gInt_intro e35 (g)))))))
  obtain ⟨a0, l0, c0, e0, g⟩ := gSlice_elim g
  obtain ⟨x6, e6, g⟩ := gInt_elim g
  obtain ⟨x7, e7, g⟩ := gInt_elim g
  obtain ⟨a8, l8, c8, e8, g⟩ := gSlice_elim g
  obtain ⟨x34, e34, g⟩ := gInt_elim g
  obtain ⟨x35, e35, g⟩ := gInt_elim g
  exact g
theorem B6.ok (R : Rt) (fr : Fr) (h : Hp) (g : L4.g (fun a0 l0 c0 x6 x7 a8 l8 c8 x34 x35 h => ∃ n, L4.t R n a0 l0 c0 x6 x7 a8 l8 c8 x34 x35 h) fr h) : den prog E (cAt C [true, true, true, true, true, true, true, false, true]) (Ex.then (D2.g R) (retQ E [.tmp 4, .tmp 5] R)) fr h :=
  den_block (by kernel_rfl) (L4.ok R fr h g)
def D3.t (R : Rt) (a0 : Option Addr) (l0 : Nat) (c0 : Nat) (x6 : Int) (x7 : Int) (a8 : Option Addr) (l8 : Nat) (c8 : Nat) (h : Hp) : Prop :=
  (∃ n, L4.t R n a0 l0 c0 x6 x7 a8 l8 c8 (((l0 : Nat) : Int)) 0 h)
def D3.g (R : Rt) (fr : Fr) (h : Hp) : Prop := gSlice (fr 0) fun a0 l0 c0 => gInt .i64 (fr 6) fun x6 => gInt .i64 (fr 7) fun x7 => gSlice (fr 8) fun a8 l8 c8 => D3.t R a0 l0 c0 x6 x7 a8 l8 c8 h
theorem D3.ok (R : Rt) (fr : Fr) (h : Hp) (g : D3.g R fr h) : den prog E (cAt C [true, true, true, true, true, true, true, false]) (Ex.then (D2.g R) (retQ E [.tmp 4, .tmp 5] R)) fr h := by
  obtain ⟨a0, l0, c0, e0, g⟩ := gSlice_elim g
  obtain ⟨x6, e6, g⟩ := gInt_elim g
  obtain ⟨x7, e7, g⟩ := gInt_elim g
  obtain ⟨a8, l8, c8, e8, g⟩ := gSlice_elim g
  exact den_cut 1 (r := (cAt C [true, true, true, true, true, true, true, false, true])) (by kernel_rfl) (B6.ok R) (den_enter [(0, .slice a0 l0 c0), (6, .int .i64 x6), (7, .int .i64 x7), (8, .slice a8 l8 c8)] ⟨e0, e6, e7, e8, trivial⟩ (by kernel_rfl) g)
theorem W7.ok (R : Rt) (fr : Fr) (h : Hp) (g : D3.g R fr h) : den prog E (cAt C [true, true, true, true, true, true, true]) (retQ E [.tmp 4, .tmp 5] R) fr h :=
  den_then (by kernel_rfl) (D2.ok R) (D3.ok R fr h g)
def D1.t (R : Rt) (a0 : Option Addr) (l0 : Nat) (c0 : Nat) (x1 : Int) (h : Hp) : Prop :=
  cond (decide (x1 < 0)) (R (.tuple #[.slice none 0 0, .int .i64 1]) h) (HC nat_Form.id #[.slice a0 l0 c0] h fun v1 h2 =>
  gBool v1 fun b_3 =>
  cond (!b_3) (R (.tuple #[.slice none 0 0, .int .i64 2]) h2) (cond ((((l0 : Nat) : Int)) == 0) (R (.tuple #[.slice none 0 0, .int .i64 0]) h2) (HC nat_Bits.id #[.slice a0 l0 c0] h2 fun v4 h5 =>
  gInt .i64 v4 fun x_6 =>
  letK (IntKind.i64.wrap (524288 - x_6)) fun n7 =>
  cond (decide (x1 > n7)) (R (.tuple #[.slice none 0 0, .int .i64 5]) h5) ((64 : Int) ≠ 0 ∧ letK (IntKind.i64.wrap (Int.tdiv x1 64)) fun n8 =>
  (64 : Int) ≠ 0 ∧ letK (Int.tmod x1 64) fun n9 =>
  letK (IntKind.i64.wrap (n8 + (((l0 : Nat) : Int)))) fun n10 =>
  letK (IntKind.i64.wrap (n10 + 1)) fun n11 =>
  mkK h5 28 T28 n11 n11 fun q12 h13 =>
  D3.t R a0 l0 c0 n8 n9 (some q12) n11.toNat n11.toNat h13))))
def D1.g (R : Rt) (fr : Fr) (h : Hp) : Prop := gSlice (fr 0) fun a0 l0 c0 => gInt .i64 (fr 1) fun x1 => D1.t R a0 l0 c0 x1 h
theorem D1.ok (R : Rt) (fr : Fr) (h : Hp) (g : D1.g R fr h) : den prog E C (retQ E [.tmp 4, .tmp 5] R) fr h := by
  obtain ⟨a0, l0, c0, e0, g⟩ := gSlice_elim g
  obtain ⟨x1, e1, g⟩ := gInt_elim g
  exact den_cut 7 (r := (cAt C [true, true, true, true, true, true, true])) (by kernel_rfl) (W7.ok R) (den_enter [(0, .slice a0 l0 c0), (1, .int .i64 x1)] ⟨e0, e1, trivial⟩ (by kernel_rfl) g)
def t (a0 : Option Addr) (l0 : Nat) (c0 : Nat) (x1 : Int) (h : Hp) (R : Rt) : Prop := D1.t R a0 l0 c0 x1 h
theorem ok {a0 : Option Addr} {l0 : Nat} {c0 : Nat} {x1 : Int} {h : Hp} {R : Rt} (g : t a0 l0 c0 x1 h R) : HC id #[.slice a0 l0 c0, .int .i64 x1] h R :=
  calls_of_den' envOk (c := C) (rs := [.tmp 4, .tmp 5]) Try.func33 (by kernel_rfl) (by kernel_rfl) (by kernel_rfl) (args := [.slice a0 l0 c0, .int .i64 x1]) (by kernel_rfl) (D1.ok R _ h (gSlice_intro rfl (gInt_intro rfl (g))))
end nat_Shl

namespace gnomonlaw02_plus
noncomputable def C : Code := bodyOf Try.f34
def D1.t (R : Rt) (a0 : Option Addr) (l0 : Nat) (c0 : Nat) (a1 : Option Addr) (l1 : Nat) (c1 : Nat) (h : Hp) : Prop :=
  HC nat_Add.id #[.slice a0 l0 c0, .slice a1 l1 c1] h fun v1 h2 =>
  gTup v1 fun y3 =>
  uncons y3 fun v4 y4 =>
  gSlice v4 fun a_5 l_5 c_5 =>
  uncons y4 fun v6 y6 =>
  gInt .i64 v6 fun x_7 =>
  unnil y6 <| R (.slice a_5 l_5 c_5) h2
def D1.g (R : Rt) (fr : Fr) (h : Hp) : Prop := gSlice (fr 0) fun a0 l0 c0 => gSlice (fr 1) fun a1 l1 c1 => D1.t R a0 l0 c0 a1 l1 c1 h
theorem D1.ok (R : Rt) (fr : Fr) (h : Hp) (g : D1.g R fr h) : den prog E C (retQ E [.tmp 4] R) fr h := by
  obtain ⟨a0, l0, c0, e0, g⟩ := gSlice_elim g
  obtain ⟨a1, l1, c1, e1, g⟩ := gSlice_elim g
  exact den_enter [(0, .slice a0 l0 c0), (1, .slice a1 l1 c1)] ⟨e0, e1, trivial⟩ (by kernel_rfl) g
def t (a0 : Option Addr) (l0 : Nat) (c0 : Nat) (a1 : Option Addr) (l1 : Nat) (c1 : Nat) (h : Hp) (R : Rt) : Prop := D1.t R a0 l0 c0 a1 l1 c1 h
theorem ok {a0 : Option Addr} {l0 : Nat} {c0 : Nat} {a1 : Option Addr} {l1 : Nat} {c1 : Nat} {h : Hp} {R : Rt} (g : t a0 l0 c0 a1 l1 c1 h R) : HC id #[.slice a0 l0 c0, .slice a1 l1 c1] h R :=
  calls_of_den' envOk (c := C) (rs := [.tmp 4]) Try.func34 (by kernel_rfl) (by kernel_rfl) (by kernel_rfl) (args := [.slice a0 l0 c0, .slice a1 l1 c1]) (by kernel_rfl) (D1.ok R _ h (gSlice_intro rfl (gSlice_intro rfl (g))))
end gnomonlaw02_plus

end Go.Proofs.Ytidpnpcnjfbjfaa.G
