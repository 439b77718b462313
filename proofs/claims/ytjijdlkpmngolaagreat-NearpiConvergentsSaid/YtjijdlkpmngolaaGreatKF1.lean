/- Texts of this work, joined: Fp1. -/
import Derived.Test.YtjijdlkpmngolaaGreatKE
/- Functions of the translation as predicates over heaps, and that their calls do so. Written by a program of this work. -/
namespace Go.Proofs.YtjijdlkpmngolaaGreat.G
open Go.Gv
set_option linter.unusedVariables false
set_option maxRecDepth 100000



namespace gnomonref01_Shr
noncomputable def C : Code := bodyOf Tryz.f47
def D1.t (R : Rt) (a0 : Option Addr) (l0 : Nat) (c0 : Nat) (x1 : Int) (h : Hp) : Prop :=
  cond (decide (x1 ≤ 0)) (HC gnomonref01_Norm.id #[.slice a0 l0 c0] h fun v1 h2 =>
  gSlice v1 fun a_3 l_3 c_3 =>
  R (.slice a_3 l_3 c_3) h2) ((32 : Int) ≠ 0 ∧ letK (IntKind.i64.wrap (Int.tdiv x1 32)) fun n4 =>
  cond (decide (n4 ≥ (((l0 : Nat) : Int)))) (HC gnomonref01_Word.id #[.int .u64 0] h fun v5 h6 =>
  gSlice v5 fun a_7 l_7 c_7 =>
  R (.slice a_7 l_7 c_7) h6) ((32 : Int) ≠ 0 ∧ letK (IntKind.i64.wrap (Int.tdiv x1 32)) fun n8 =>
  slK 1 a0 l0 c0 (some (.int .i64 n8)) none none fun a_9 l_9 c_9 =>
  (32 : Int) ≠ 0 ∧ letK (Int.tmod x1 32) fun n10 =>
  0 ≤ n10 ∧ letK (shlI .u32 1 n10) fun n11 =>
  HC gnomonref01_DivSmall.id #[.slice a_9 l_9 c_9, .int .u32 n11] h fun v12 h13 =>
  gTup v12 fun y14 =>
  uncons y14 fun v15 y15 =>
  gSlice v15 fun a_16 l_16 c_16 =>
  uncons y15 fun v17 y17 =>
  gInt .u32 v17 fun x_18 =>
  unnil y17 <| R (.slice a_16 l_16 c_16) h13))
def D1.g (R : Rt) (fr : Fr) (h : Hp) : Prop := gSlice (fr 0) fun a0 l0 c0 => gInt .i64 (fr 1) fun x1 => D1.t R a0 l0 c0 x1 h
theorem D1.ok (R : Rt) (fr : Fr) (h : Hp) (g : D1.g R fr h) : den prog E C (retQ E [.tmp 4] R) fr h := by
  obtain ⟨a0, l0, c0, e0, g⟩ := gSlice_elim g
  obtain ⟨x1, e1, g⟩ := gInt_elim g
  exact den_enter [(0, .slice a0 l0 c0), (1, .int .i64 x1)] ⟨e0, e1, trivial⟩ (by kernel_rfl) g
def t (a0 : Option Addr) (l0 : Nat) (c0 : Nat) (x1 : Int) (h : Hp) (R : Rt) : Prop := D1.t R a0 l0 c0 x1 h
theorem ok {a0 : Option Addr} {l0 : Nat} {c0 : Nat} {x1 : Int} {h : Hp} {R : Rt} (g : t a0 l0 c0 x1 h R) : HC id #[.slice a0 l0 c0, .int .i64 x1] h R :=
  calls_of_den' envOk (c := C) (rs := [.tmp 4]) Tryz.func47 (by kernel_rfl) (by kernel_rfl) (by kernel_rfl) (args := [.slice a0 l0 c0, .int .i64 x1]) (by kernel_rfl) (D1.ok R _ h (gSlice_intro rfl (gInt_intro rfl (g))))
end gnomonref01_Shr

namespace gnomonref07_PiFloor
noncomputable def C : Code := bodyOf Tryz.f48
def L2.g (N : Int → Int → Hp → Prop) (fr : Fr) (h : Hp) : Prop := gInt .i64 (fr 0) fun x0 => gInt .i64 (fr 3) fun x3 => N x0 x3 h
def D3.t (R : Rt) (N2 : Int → Int → Hp → Prop) (x0 : Int) (x3 : Int) (h : Hp) : Prop :=
  letK (IntKind.i64.wrap (x0 + x3)) fun n1 =>
  HC gnomonref07_arctan.id #[.int .u32 18, .int .i64 n1] h fun v2 h3 =>
  gTup v2 fun y4 =>
  uncons y4 fun v5 y5 =>
  gSlice v5 fun a_6 l_6 c_6 =>
  uncons y5 fun v7 y7 =>
  gInt .i64 v7 fun x_8 =>
  unnil y7 <| letK (IntKind.i64.wrap (x0 + x3)) fun n9 =>
  HC gnomonref07_arctan.id #[.int .u32 57, .int .i64 n9] h3 fun v10 h11 =>
  gTup v10 fun y12 =>
  uncons y12 fun v13 y13 =>
  gSlice v13 fun a_14 l_14 c_14 =>
  uncons y13 fun v15 y15 =>
  gInt .i64 v15 fun x_16 =>
  unnil y15 <| letK (IntKind.i64.wrap (x0 + x3)) fun n17 =>
  HC gnomonref07_arctan.id #[.int .u32 239, .int .i64 n17] h11 fun v18 h19 =>
  gTup v18 fun y20 =>
  uncons y20 fun v21 y21 =>
  gSlice v21 fun a_22 l_22 c_22 =>
  uncons y21 fun v23 y23 =>
  gInt .i64 v23 fun x_24 =>
  unnil y23 <| HC gnomonref01_MulSmall.id #[.slice a_6 l_6 c_6, .int .u32 48, .int .u32 0] h19 fun v25 h26 =>
  gSlice v25 fun a_27 l_27 c_27 =>
  HC gnomonref01_MulSmall.id #[.slice a_14 l_14 c_14, .int .u32 32, .int .u32 0] h26 fun v28 h29 =>
  gSlice v28 fun a_30 l_30 c_30 =>
  HC gnomonref01_Add.id #[.slice a_27 l_27 c_27, .slice a_30 l_30 c_30] h29 fun v31 h32 =>
  gSlice v31 fun a_33 l_33 c_33 =>
  HC gnomonref01_MulSmall.id #[.slice a_22 l_22 c_22, .int .u32 20, .int .u32 0] h32 fun v34 h35 =>
  gSlice v34 fun a_36 l_36 c_36 =>
  HC gnomonref01_Sub.id #[.slice a_33 l_33 c_33, .slice a_36 l_36 c_36] h35 fun v37 h38 =>
  gSlice v37 fun a_39 l_39 c_39 =>
  letK (IntKind.i64.wrap (x_8 + 2)) fun n40 =>
  letK (IntKind.i64.wrap (48 * n40)) fun n41 =>
  letK (IntKind.i64.wrap (x_16 + 2)) fun n42 =>
  letK (IntKind.i64.wrap (32 * n42)) fun n43 =>
  letK (IntKind.i64.wrap (n41 + n43)) fun n44 =>
  letK (IntKind.i64.wrap (x_24 + 2)) fun n45 =>
  letK (IntKind.i64.wrap (20 * n45)) fun n46 =>
  letK (IntKind.i64.wrap (n44 + n46)) fun n47 =>
  letK (IntKind.i64.wrap (4 * n47)) fun n48 =>
  HC gnomonref01_Small.id #[.int .i64 n48] h38 fun v49 h50 =>
  gSlice v49 fun a_51 l_51 c_51 =>
  HC gnomonref01_Sub.id #[.slice a_39 l_39 c_39, .slice a_51 l_51 c_51] h50 fun v52 h53 =>
  gSlice v52 fun a_54 l_54 c_54 =>
  HC gnomonref01_Shr.id #[.slice a_54 l_54 c_54, .int .i64 x3] h53 fun v55 h56 =>
  gSlice v55 fun a_57 l_57 c_57 =>
  HC gnomonref01_Add.id #[.slice a_39 l_39 c_39, .slice a_51 l_51 c_51] h56 fun v58 h59 =>
  gSlice v58 fun a_60 l_60 c_60 =>
  HC gnomonref01_Shr.id #[.slice a_60 l_60 c_60, .int .i64 x3] h59 fun v61 h62 =>
  gSlice v61 fun a_63 l_63 c_63 =>
  HC gnomonref01_Cmp.id #[.slice a_57 l_57 c_57, .slice a_63 l_63 c_63] h62 fun v64 h65 =>
  gInt .i64 v64 fun x_66 =>
  cond (x_66 == 0) (R (.slice a_57 l_57 c_57) h65) (letK (IntKind.i64.wrap (x3 * 2)) fun n67 =>
  N2 x0 n67 h65)
def D3.g (R : Rt) (N2 : Int → Int → Hp → Prop) (fr : Fr) (h : Hp) : Prop := gInt .i64 (fr 0) fun x0 => gInt .i64 (fr 3) fun x3 => D3.t R N2 x0 x3 h
theorem D3.ok (R : Rt) (N2 : Int → Int → Hp → Prop) (fr : Fr) (h : Hp) (g : D3.g R N2 fr h) : den prog E (cAt C [true, true, true, false, false]) (Ex.then (L2.g N2) (Ex.inBlock 0 (retQ E [.tmp 2] R))) fr h := by
  obtain ⟨x0, e0, g⟩ := gInt_elim g
  obtain ⟨x3, e3, g⟩ := gInt_elim g
  exact den_enter [(0, .int .i64 x0), (3, .int .i64 x3)] ⟨e0, e3, trivial⟩ (by kernel_rfl) g
def L2.t (R : Rt) : Nat → Int → Int → Hp → Prop
  | 0 => fun _ _ _ => False
  | n + 1 => fun x0 x3 h => D3.t R (L2.t R n) x0 x3 h
theorem L2.ok (R : Rt) (fr : Fr) (h : Hp) (g : L2.g (fun x0 x3 h => ∃ n, L2.t R n x0 x3 h) fr h) : den prog E (cAt C [true, true, true, false]) (Ex.inBlock 0 (retQ E [.tmp 2] R)) fr h := by
  obtain ⟨x0, e0, g⟩ := gInt_elim g
  obtain ⟨x3, e3, g⟩ := gInt_elim g
  obtain ⟨n, g⟩ := g
  refine loop_ok (fun n => L2.g (L2.t R n)) (b := (cAt C [true, true, true, false, false])) (by kernel_rfl) (fun fr h g => ?_) (fun n => D3.ok R (L2.t R n)) n fr h (gInt_intro e0 (gInt_intro e3 (g)))
  obtain ⟨x0, e0, g⟩ := gInt_elim g
  obtain ⟨x3, e3, g⟩ := gInt_elim g
  exact g
theorem B4.ok (R : Rt) (fr : Fr) (h : Hp) (g : L2.g (fun x0 x3 h => ∃ n, L2.t R n x0 x3 h) fr h) : den prog E (cAt C [true, true, true]) (retQ E [.tmp 2] R) fr h :=
  den_block (by kernel_rfl) (L2.ok R fr h g)
def D1.t (R : Rt) (x0 : Int) (h : Hp) : Prop :=
  (∃ n, L2.t R n (if 0 > x0 then 0 else x0) 64 h)
def D1.g (R : Rt) (fr : Fr) (h : Hp) : Prop := gInt .i64 (fr 0) fun x0 => D1.t R x0 h
theorem D1.ok (R : Rt) (fr : Fr) (h : Hp) (g : D1.g R fr h) : den prog E C (retQ E [.tmp 2] R) fr h := by
  obtain ⟨x0, e0, g⟩ := gInt_elim g
  exact den_cut 3 (r := (cAt C [true, true, true])) (by kernel_rfl) (B4.ok R) (den_enter [(0, .int .i64 x0)] ⟨e0, trivial⟩ (by kernel_rfl) g)
def t (x0 : Int) (h : Hp) (R : Rt) : Prop := D1.t R x0 h
theorem ok {x0 : Int} {h : Hp} {R : Rt} (g : t x0 h R) : HC id #[.int .i64 x0] h R :=
  calls_of_den' envOk (c := C) (rs := [.tmp 2]) Tryz.func48 (by kernel_rfl) (by kernel_rfl) (by kernel_rfl) (args := [.int .i64 x0]) (by kernel_rfl) (D1.ok R _ h (gInt_intro rfl (g)))
end gnomonref07_PiFloor

namespace gnomonref01_Sub
noncomputable def C : Code := bodyOf Tryz.f49
def D2.t (R : Rt) (a5 : Option Addr) (l5 : Nat) (c5 : Nat) (h : Hp) : Prop :=
  HC gnomonref01_Norm.id #[.slice a5 l5 c5] h fun v9 h10 =>
  gSlice v9 fun a_11 l_11 c_11 =>
  R (.slice a_11 l_11 c_11) h10
def D2.g (R : Rt) (fr : Fr) (h : Hp) : Prop := gSlice (fr 5) fun a5 l5 c5 => D2.t R a5 l5 c5 h
theorem D2.ok (R : Rt) (fr : Fr) (h : Hp) (g : D2.g R fr h) : den prog E (cAt C [true, true, true, true, true]) (retQ E [.tmp 4] R) fr h := by
  obtain ⟨a5, l5, c5, e5, g⟩ := gSlice_elim g
  exact den_enter [(5, .slice a5 l5 c5)] ⟨e5, trivial⟩ (by kernel_rfl) g
def L4.g (N : Option Addr → Nat → Nat → Option Addr → Nat → Nat → Option Addr → Nat → Nat → Int → Int → Hp → Prop) (fr : Fr) (h : Hp) : Prop := gSlice (fr 0) fun a0 l0 c0 => gSlice (fr 1) fun a1 l1 c1 => gSlice (fr 5) fun a5 l5 c5 => gInt .u64 (fr 6) fun x6 => gInt .i64 (fr 7) fun x7 => N a0 l0 c0 a1 l1 c1 a5 l5 c5 x6 x7 h
def D5.t (R : Rt) (N4 : Option Addr → Nat → Nat → Option Addr → Nat → Nat → Option Addr → Nat → Nat → Int → Int → Hp → Prop) (a0 : Option Addr) (l0 : Nat) (c0 : Nat) (a1 : Option Addr) (l1 : Nat) (c1 : Nat) (a5 : Option Addr) (l5 : Nat) (c5 : Nat) (x6 : Int) (x7 : Int) (h : Hp) : Prop :=
  cond (decide (x7 < (((l0 : Nat) : Int)))) (cond (decide (x7 < (((l1 : Nat) : Int)))) (idxK a1 l1 x7 1 fun q12 =>
  ldK h q12 fun v13 =>
  gInt .u32 v13 fun x_14 =>
  letK (IntKind.u64.wrap x_14) fun n15 =>
  letK (IntKind.u64.wrap (x6 + n15)) fun n16 =>
  idxK a0 l0 x7 1 fun q17 =>
  ldK h q17 fun v18 =>
  gInt .u32 v18 fun x_19 =>
  letK (IntKind.u64.wrap x_19) fun n20 =>
  cond (decide (n20 < n16)) (letK (IntKind.u64.wrap (n20 + 4294967296)) fun n21 =>
  letK (IntKind.u64.wrap (n21 - n16)) fun n22 =>
  letK (IntKind.u32.wrap n22) fun n23 =>
  boxK h 89 [.int .u32 n23] fun q24 h25 =>
  apK h25 89 T89 a5 l5 c5 (.slice (some q24) 1 1) fun a_26 l_26 c_26 h26 =>
  letK (IntKind.i64.wrap (x7 + 1)) fun n27 =>
  N4 a0 l0 c0 a1 l1 c1 a_26 l_26 c_26 1 n27 h26) (letK (IntKind.u64.wrap (n20 - n16)) fun n28 =>
  letK (IntKind.u32.wrap n28) fun n29 =>
  boxK h 89 [.int .u32 n29] fun q30 h31 =>
  apK h31 89 T89 a5 l5 c5 (.slice (some q30) 1 1) fun a_32 l_32 c_32 h32 =>
  letK (IntKind.i64.wrap (x7 + 1)) fun n33 =>
  N4 a0 l0 c0 a1 l1 c1 a_32 l_32 c_32 0 n33 h32)) (idxK a0 l0 x7 1 fun q34 =>
  ldK h q34 fun v35 =>
  gInt .u32 v35 fun x_36 =>
  letK (IntKind.u64.wrap x_36) fun n37 =>
  cond (decide (n37 < x6)) (letK (IntKind.u64.wrap (n37 + 4294967296)) fun n38 =>
  letK (IntKind.u64.wrap (n38 - x6)) fun n39 =>
  letK (IntKind.u32.wrap n39) fun n40 =>
  boxK h 89 [.int .u32 n40] fun q41 h42 =>
  apK h42 89 T89 a5 l5 c5 (.slice (some q41) 1 1) fun a_43 l_43 c_43 h43 =>
  letK (IntKind.i64.wrap (x7 + 1)) fun n44 =>
  N4 a0 l0 c0 a1 l1 c1 a_43 l_43 c_43 1 n44 h43) (letK (IntKind.u64.wrap (n37 - x6)) fun n45 =>
  letK (IntKind.u32.wrap n45) fun n46 =>
  boxK h 89 [.int .u32 n46] fun q47 h48 =>
  apK h48 89 T89 a5 l5 c5 (.slice (some q47) 1 1) fun a_49 l_49 c_49 h49 =>
  letK (IntKind.i64.wrap (x7 + 1)) fun n50 =>
  N4 a0 l0 c0 a1 l1 c1 a_49 l_49 c_49 0 n50 h49))) (D2.t R a5 l5 c5 h)
def D5.g (R : Rt) (N4 : Option Addr → Nat → Nat → Option Addr → Nat → Nat → Option Addr → Nat → Nat → Int → Int → Hp → Prop) (fr : Fr) (h : Hp) : Prop := gSlice (fr 0) fun a0 l0 c0 => gSlice (fr 1) fun a1 l1 c1 => gSlice (fr 5) fun a5 l5 c5 => gInt .u64 (fr 6) fun x6 => gInt .i64 (fr 7) fun x7 => D5.t R N4 a0 l0 c0 a1 l1 c1 a5 l5 c5 x6 x7 h
theorem D5.ok (R : Rt) (N4 : Option Addr → Nat → Nat → Option Addr → Nat → Nat → Option Addr → Nat → Nat → Int → Int → Hp → Prop) (fr : Fr) (h : Hp) (g : D5.g R N4 fr h) : den prog E (cAt C [true, true, true, true, false, true, false, false]) (Ex.then (L4.g N4) (Ex.inBlock 0 (Ex.then (D2.g R) (retQ E [.tmp 4] R)))) fr h := by
  obtain ⟨a0, l0, c0, e0, g⟩ := gSlice_elim g
  obtain ⟨a1, l1, c1, e1, g⟩ := gSlice_elim g
  obtain ⟨a5, l5, c5, e5, g⟩ := gSlice_elim g
  obtain ⟨x6, e6, g⟩ := gInt_elim g
  obtain ⟨x7, e7, g⟩ := gInt_elim g
  exact den_enter [(0, .slice a0 l0 c0), (1, .slice a1 l1 c1), (5, .slice a5 l5 c5), (6, .int .u64 x6), (7, .int .i64 x7)] ⟨e0, e1, e5, e6, e7, trivial⟩ (by kernel_rfl) g
def L4.t (R : Rt) : Nat → Option Addr → Nat → Nat → Option Addr → Nat → Nat → Option Addr → Nat → Nat → Int → Int → Hp → Prop
  | 0 => fun _ _ _ _ _ _ _ _ _ _ _ _ => False
  | n + 1 => fun a0 l0 c0 a1 l1 c1 a5 l5 c5 x6 x7 h => D5.t R (L4.t R n) a0 l0 c0 a1 l1 c1 a5 l5 c5 x6 x7 h
theorem L4.ok (R : Rt) (fr : Fr) (h : Hp) (g : L4.g (fun a0 l0 c0 a1 l1 c1 a5 l5 c5 x6 x7 h => ∃ n, L4.t R n a0 l0 c0 a1 l1 c1 a5 l5 c5 x6 x7 h) fr h) : den prog E (cAt C [true, true, true, true, false, true, false]) (Ex.inBlock 0 (Ex.then (D2.g R) (retQ E [.tmp 4] R))) fr h := by
  obtain ⟨a0, l0, c0, e0, g⟩ := gSlice_elim g
  obtain ⟨a1, l1, c1, e1, g⟩ := gSlice_elim g
  obtain ⟨a5, l5, c5, e5, g⟩ := gSlice_elim g
  obtain ⟨x6, e6, g⟩ := gInt_elim g
  obtain ⟨x7, e7, g⟩ := gInt_elim g
  obtain ⟨n, g⟩ := g
  refine loop_ok (fun n => L4.g (L4.t R n)) (b := (cAt C [true, true, true, true, false, true, false, false])) (by kernel_rfl) (fun fr h g => ?_) (fun n => D5.ok R (L4.t R n)) n fr h (gSlice_intro e0 (gSlice_intro e1 (gSlice_intro e5 (gInt_intro e6 (gInt_intro e7 (g))))))
  obtain ⟨a0, l0, c0, e0, g⟩ := gSlice_elim g
  obtain ⟨a1, l1, c1, e1, g⟩ := gSlice_elim g
  obtain ⟨a5, l5, c5, e5, g⟩ := gSlice_elim g
  obtain ⟨x6, e6, g⟩ := gInt_elim g
  obtain ⟨x7, e7, g⟩ := gInt_elim g
  exact g
theorem B6.ok (R : Rt) (fr : Fr) (h : Hp) (g : L4.g (fun a0 l0 c0 a1 l1 c1 a5 l5 c5 x6 x7 h => ∃ n, L4.t R n a0 l0 c0 a1 l1 c1 a5 l5 c5 x6 x7 h) fr h) : den prog E (cAt C [true, true, true, true, false, true]) (Ex.then (D2.g R) (retQ E [.tmp 4] R)) fr h :=
  den_block (by kernel_rfl) (L4.ok R fr h g)
def D3.t (R : Rt) (a0 : Option Addr) (l0 : Nat) (c0 : Nat) (a1 : Option Addr) (l1 : Nat) (c1 : Nat) (a5 : Option Addr) (l5 : Nat) (c5 : Nat) (x6 : Int) (h : Hp) : Prop :=
  (∃ n, L4.t R n a0 l0 c0 a1 l1 c1 a5 l5 c5 x6 0 h)
def D3.g (R : Rt) (fr : Fr) (h : Hp) : Prop := gSlice (fr 0) fun a0 l0 c0 => gSlice (fr 1) fun a1 l1 c1 => gSlice (fr 5) fun a5 l5 c5 => gInt .u64 (fr 6) fun x6 => D3.t R a0 l0 c0 a1 l1 c1 a5 l5 c5 x6 h
theorem D3.ok (R : Rt) (fr : Fr) (h : Hp) (g : D3.g R fr h) : den prog E (cAt C [true, true, true, true, false]) (Ex.then (D2.g R) (retQ E [.tmp 4] R)) fr h := by
  obtain ⟨a0, l0, c0, e0, g⟩ := gSlice_elim g
  obtain ⟨a1, l1, c1, e1, g⟩ := gSlice_elim g
  obtain ⟨a5, l5, c5, e5, g⟩ := gSlice_elim g
  obtain ⟨x6, e6, g⟩ := gInt_elim g
  exact den_cut 1 (r := (cAt C [true, true, true, true, false, true])) (by kernel_rfl) (B6.ok R) (den_enter [(0, .slice a0 l0 c0), (1, .slice a1 l1 c1), (5, .slice a5 l5 c5), (6, .int .u64 x6)] ⟨e0, e1, e5, e6, trivial⟩ (by kernel_rfl) g)
theorem W7.ok (R : Rt) (fr : Fr) (h : Hp) (g : D3.g R fr h) : den prog E (cAt C [true, true, true, true]) (retQ E [.tmp 4] R) fr h :=
  den_then (by kernel_rfl) (D2.ok R) (D3.ok R fr h g)
def D1.t (R : Rt) (a0 : Option Addr) (l0 : Nat) (c0 : Nat) (a1 : Option Addr) (l1 : Nat) (c1 : Nat) (h : Hp) : Prop :=
  HC gnomonref01_Cmp.id #[.slice a0 l0 c0, .slice a1 l1 c1] h fun v1 h2 =>
  gInt .i64 v1 fun x_3 =>
  cond (decide (x_3 ≤ 0)) (HC gnomonref01_Word.id #[.int .u64 0] h2 fun v4 h5 =>
  gSlice v4 fun a_6 l_6 c_6 =>
  R (.slice a_6 l_6 c_6) h5) (mkK h2 89 T89 0 (((l0 : Nat) : Int)) fun q7 h8 =>
  D3.t R a0 l0 c0 a1 l1 c1 (some q7) ((0 : Int).toNat) ((((l0 : Nat) : Int)).toNat) 0 h8)
def D1.g (R : Rt) (fr : Fr) (h : Hp) : Prop := gSlice (fr 0) fun a0 l0 c0 => gSlice (fr 1) fun a1 l1 c1 => D1.t R a0 l0 c0 a1 l1 c1 h
theorem D1.ok (R : Rt) (fr : Fr) (h : Hp) (g : D1.g R fr h) : den prog E C (retQ E [.tmp 4] R) fr h := by
  obtain ⟨a0, l0, c0, e0, g⟩ := gSlice_elim g
  obtain ⟨a1, l1, c1, e1, g⟩ := gSlice_elim g
  exact den_cut 4 (r := (cAt C [true, true, true, true])) (by kernel_rfl) (W7.ok R) (den_enter [(0, .slice a0 l0 c0), (1, .slice a1 l1 c1)] ⟨e0, e1, trivial⟩ (by kernel_rfl) g)
def t (a0 : Option Addr) (l0 : Nat) (c0 : Nat) (a1 : Option Addr) (l1 : Nat) (c1 : Nat) (h : Hp) (R : Rt) : Prop := D1.t R a0 l0 c0 a1 l1 c1 h
theorem ok {a0 : Option Addr} {l0 : Nat} {c0 : Nat} {a1 : Option Addr} {l1 : Nat} {c1 : Nat} {h : Hp} {R : Rt} (g : t a0 l0 c0 a1 l1 c1 h R) : HC id #[.slice a0 l0 c0, .slice a1 l1 c1] h R :=
  calls_of_den' envOk (c := C) (rs := [.tmp 4]) Tryz.func49 (by kernel_rfl) (by kernel_rfl) (by kernel_rfl) (args := [.slice a0 l0 c0, .slice a1 l1 c1]) (by kernel_rfl) (D1.ok R _ h (gSlice_intro rfl (gSlice_intro rfl (g))))
end gnomonref01_Sub

namespace gnomonref01_Norm
noncomputable def C : Code := bodyOf Tryz.f50
def D2.t (R : Rt) (a0 : Option Addr) (l0 : Nat) (c0 : Nat) (x3 : Int) (h : Hp) : Prop :=
  mkK h 89 T89 x3 x3 fun q1 h2 =>
  slK 1 a0 l0 c0 none (some (.int .i64 x3)) none fun a_3 l_3 c_3 =>
  cpK h2 1 (some q1) x3.toNat (.slice a_3 l_3 c_3) fun n4 h4 =>
  R (.slice (some q1) x3.toNat x3.toNat) h4
def D2.g (R : Rt) (fr : Fr) (h : Hp) : Prop := gSlice (fr 0) fun a0 l0 c0 => gInt .i64 (fr 3) fun x3 => D2.t R a0 l0 c0 x3 h
theorem D2.ok (R : Rt) (fr : Fr) (h : Hp) (g : D2.g R fr h) : den prog E (cAt C [true, true, true]) (retQ E [.tmp 2] R) fr h := by
  obtain ⟨a0, l0, c0, e0, g⟩ := gSlice_elim g
  obtain ⟨x3, e3, g⟩ := gInt_elim g
  exact den_enter [(0, .slice a0 l0 c0), (3, .int .i64 x3)] ⟨e0, e3, trivial⟩ (by kernel_rfl) g
def L3.g (N : Option Addr → Nat → Nat → Int → Hp → Prop) (fr : Fr) (h : Hp) : Prop := gSlice (fr 0) fun a0 l0 c0 => gInt .i64 (fr 3) fun x3 => N a0 l0 c0 x3 h
def D4.t (R : Rt) (N3 : Option Addr → Nat → Nat → Int → Hp → Prop) (a0 : Option Addr) (l0 : Nat) (c0 : Nat) (x3 : Int) (h : Hp) : Prop :=
  cond (decide (x3 > 0)) (letK (IntKind.i64.wrap (x3 - 1)) fun n5 =>
  idxK a0 l0 n5 1 fun q6 =>
  ldK h q6 fun v7 =>
  gInt .u32 v7 fun x_8 =>
  cond (x_8 == 0) (letK (IntKind.i64.wrap (x3 - 1)) fun n9 =>
  N3 a0 l0 c0 n9 h) (D2.t R a0 l0 c0 x3 h)) (D2.t R a0 l0 c0 x3 h)
def D4.g (R : Rt) (N3 : Option Addr → Nat → Nat → Int → Hp → Prop) (fr : Fr) (h : Hp) : Prop := gSlice (fr 0) fun a0 l0 c0 => gInt .i64 (fr 3) fun x3 => D4.t R N3 a0 l0 c0 x3 h
theorem D4.ok (R : Rt) (N3 : Option Addr → Nat → Nat → Int → Hp → Prop) (fr : Fr) (h : Hp) (g : D4.g R N3 fr h) : den prog E (cAt C [true, true, false, false, false]) (Ex.then (L3.g N3) (Ex.inBlock 0 (Ex.then (D2.g R) (retQ E [.tmp 2] R)))) fr h := by
  obtain ⟨a0, l0, c0, e0, g⟩ := gSlice_elim g
  obtain ⟨x3, e3, g⟩ := gInt_elim g
  exact den_enter [(0, .slice a0 l0 c0), (3, .int .i64 x3)] ⟨e0, e3, trivial⟩ (by kernel_rfl) g
def L3.t (R : Rt) : Nat → Option Addr → Nat → Nat → Int → Hp → Prop
  | 0 => fun _ _ _ _ _ => False
  | n + 1 => fun a0 l0 c0 x3 h => D4.t R (L3.t R n) a0 l0 c0 x3 h
theorem L3.ok (R : Rt) (fr : Fr) (h : Hp) (g : L3.g (fun a0 l0 c0 x3 h => ∃ n, L3.t R n a0 l0 c0 x3 h) fr h) : den prog E (cAt C [true, true, false, false]) (Ex.inBlock 0 (Ex.then (D2.g R) (retQ E [.tmp 2] R))) fr h := by
  obtain ⟨a0, l0, c0, e0, g⟩ := gSlice_elim g
  obtain ⟨x3, e3, g⟩ := gInt_elim g
  obtain ⟨n, g⟩ := g
  refine loop_ok (fun n => L3.g (L3.t R n)) (b := (cAt C [true, true, false, false, false])) (by kernel_rfl) (fun fr h g => ?_) (fun n => D4.ok R (L3.t R n)) n fr h (gSlice_intro e0 (gInt_intro e3 (g)))
  obtain ⟨a0, l0, c0, e0, g⟩ := gSlice_elim g
  obtain ⟨x3, e3, g⟩ := gInt_elim g
  exact g
theorem B5.ok (R : Rt) (fr : Fr) (h : Hp) (g : L3.g (fun a0 l0 c0 x3 h => ∃ n, L3.t R n a0 l0 c0 x3 h) fr h) : den prog E (cAt C [true, true, false]) (Ex.then (D2.g R) (retQ E [.tmp 2] R)) fr h :=
  den_block (by kernel_rfl) (L3.ok R fr h g)
theorem W6.ok (R : Rt) (fr : Fr) (h : Hp) (g : L3.g (fun a0 l0 c0 x3 h => ∃ n, L3.t R n a0 l0 c0 x3 h) fr h) : den prog E (cAt C [true, true]) (retQ E [.tmp 2] R) fr h :=
  den_then (by kernel_rfl) (D2.ok R) (B5.ok R fr h g)
def D1.t (R : Rt) (a0 : Option Addr) (l0 : Nat) (c0 : Nat) (h : Hp) : Prop :=
  (∃ n, L3.t R n a0 l0 c0 (((l0 : Nat) : Int)) h)
def D1.g (R : Rt) (fr : Fr) (h : Hp) : Prop := gSlice (fr 0) fun a0 l0 c0 => D1.t R a0 l0 c0 h
theorem D1.ok (R : Rt) (fr : Fr) (h : Hp) (g : D1.g R fr h) : den prog E C (retQ E [.tmp 2] R) fr h := by
  obtain ⟨a0, l0, c0, e0, g⟩ := gSlice_elim g
  exact den_cut 2 (r := (cAt C [true, true])) (by kernel_rfl) (W6.ok R) (den_enter [(0, .slice a0 l0 c0)] ⟨e0, trivial⟩ (by kernel_rfl) g)
def t (a0 : Option Addr) (l0 : Nat) (c0 : Nat) (h : Hp) (R : Rt) : Prop := D1.t R a0 l0 c0 h
theorem ok {a0 : Option Addr} {l0 : Nat} {c0 : Nat} {h : Hp} {R : Rt} (g : t a0 l0 c0 h R) : HC id #[.slice a0 l0 c0] h R :=
  calls_of_den' envOk (c := C) (rs := [.tmp 2]) Tryz.func50 (by kernel_rfl) (by kernel_rfl) (by kernel_rfl) (args := [.slice a0 l0 c0]) (by kernel_rfl) (D1.ok R _ h (gSlice_intro rfl (g)))
end gnomonref01_Norm

namespace gnomonref01_Shl
noncomputable def C : Code := bodyOf Tryz.f51
def D2.t (R : Rt) (a0 : Option Addr) (l0 : Nat) (c0 : Nat) (x1 : Int) (h : Hp) : Prop :=
  (32 : Int) ≠ 0 ∧ letK (IntKind.i64.wrap (Int.tdiv x1 32)) fun n7 =>
  (32 : Int) ≠ 0 ∧ letK (IntKind.i64.wrap (Int.tdiv x1 32)) fun n8 =>
  letK (IntKind.i64.wrap (n8 + (((l0 : Nat) : Int)))) fun n9 =>
  letK (IntKind.i64.wrap (n9 + 1)) fun n10 =>
  mkK h 89 T89 n7 n10 fun q11 h12 =>
  (32 : Int) ≠ 0 ∧ letK (Int.tmod x1 32) fun n13 =>
  0 ≤ n13 ∧ letK (shlI .u32 1 n13) fun n14 =>
  HC gnomonref01_MulSmall.id #[.slice a0 l0 c0, .int .u32 n14, .int .u32 0] h12 fun v15 h16 =>
  gSlice v15 fun a_17 l_17 c_17 =>
  apK h16 89 T89 (some q11) n7.toNat n10.toNat (.slice a_17 l_17 c_17) fun a_18 l_18 c_18 h18 =>
  HC gnomonref01_Norm.id #[.slice a_18 l_18 c_18] h18 fun v19 h20 =>
  gSlice v19 fun a_21 l_21 c_21 =>
  R (.slice a_21 l_21 c_21) h20
def D2.g (R : Rt) (fr : Fr) (h : Hp) : Prop := gSlice (fr 0) fun a0 l0 c0 => gInt .i64 (fr 1) fun x1 => D2.t R a0 l0 c0 x1 h
theorem D2.ok (R : Rt) (fr : Fr) (h : Hp) (g : D2.g R fr h) : den prog E (cAt C [true, true]) (retQ E [.tmp 4] R) fr h := by
  obtain ⟨a0, l0, c0, e0, g⟩ := gSlice_elim g
  obtain ⟨x1, e1, g⟩ := gInt_elim g
  exact den_enter [(0, .slice a0 l0 c0), (1, .int .i64 x1)] ⟨e0, e1, trivial⟩ (by kernel_rfl) g
def D1.t (R : Rt) (a0 : Option Addr) (l0 : Nat) (c0 : Nat) (x1 : Int) (h : Hp) : Prop :=
  cond (decide (x1 ≤ 0)) (HC gnomonref01_Norm.id #[.slice a0 l0 c0] h fun v1 h2 =>
  gSlice v1 fun a_3 l_3 c_3 =>
  R (.slice a_3 l_3 c_3) h2) (cond ((((l0 : Nat) : Int)) == 0) (HC gnomonref01_Norm.id #[.slice a0 l0 c0] h fun v4 h5 =>
  gSlice v4 fun a_6 l_6 c_6 =>
  R (.slice a_6 l_6 c_6) h5) (D2.t R a0 l0 c0 x1 h))
def D1.g (R : Rt) (fr : Fr) (h : Hp) : Prop := gSlice (fr 0) fun a0 l0 c0 => gInt .i64 (fr 1) fun x1 => D1.t R a0 l0 c0 x1 h
theorem D1.ok (R : Rt) (fr : Fr) (h : Hp) (g : D1.g R fr h) : den prog E C (retQ E [.tmp 4] R) fr h := by
  obtain ⟨a0, l0, c0, e0, g⟩ := gSlice_elim g
  obtain ⟨x1, e1, g⟩ := gInt_elim g
  exact den_cut 2 (r := (cAt C [true, true])) (by kernel_rfl) (D2.ok R) (den_enter [(0, .slice a0 l0 c0), (1, .int .i64 x1)] ⟨e0, e1, trivial⟩ (by kernel_rfl) g)
def t (a0 : Option Addr) (l0 : Nat) (c0 : Nat) (x1 : Int) (h : Hp) (R : Rt) : Prop := D1.t R a0 l0 c0 x1 h
theorem ok {a0 : Option Addr} {l0 : Nat} {c0 : Nat} {x1 : Int} {h : Hp} {R : Rt} (g : t a0 l0 c0 x1 h R) : HC id #[.slice a0 l0 c0, .int .i64 x1] h R :=
  calls_of_den' envOk (c := C) (rs := [.tmp 4]) Tryz.func51 (by kernel_rfl) (by kernel_rfl) (by kernel_rfl) (args := [.slice a0 l0 c0, .int .i64 x1]) (by kernel_rfl) (D1.ok R _ h (gSlice_intro rfl (gInt_intro rfl (g))))
end gnomonref01_Shl

namespace nat_MulWord
noncomputable def C : Code := bodyOf Tryz.f53
def D2.t (R : Rt) (a0 : Option Addr) (l0 : Nat) (c0 : Nat) (a6 : Option Addr) (l6 : Nat) (c6 : Nat) (x7 : Int) (h : Hp) : Prop :=
  idxK a6 l6 (((l0 : Nat) : Int)) 1 fun q7 =>
  stK h q7 (.int .u64 x7) fun h8 =>
  HC nat_told.id #[.slice a6 l6 c6] h8 fun v9 h10 =>
  gTup v9 fun y11 =>
  uncons y11 fun v12 y12 =>
  gSlice v12 fun a_13 l_13 c_13 =>
  uncons y12 fun v14 y14 =>
  gInt .i64 v14 fun x_15 =>
  unnil y14 <| R (.tuple #[.slice a_13 l_13 c_13, .int .i64 x_15]) h10
def D2.g (R : Rt) (fr : Fr) (h : Hp) : Prop := gSlice (fr 0) fun a0 l0 c0 => gSlice (fr 6) fun a6 l6 c6 => gInt .u64 (fr 7) fun x7 => D2.t R a0 l0 c0 a6 l6 c6 x7 h
theorem D2.ok (R : Rt) (fr : Fr) (h : Hp) (g : D2.g R fr h) : den prog E (cAt C [true, true, true, true, true]) (retQ E [.tmp 4, .tmp 5] R) fr h := by
  obtain ⟨a0, l0, c0, e0, g⟩ := gSlice_elim g
  obtain ⟨a6, l6, c6, e6, g⟩ := gSlice_elim g
  obtain ⟨x7, e7, g⟩ := gInt_elim g
  exact den_enter [(0, .slice a0 l0 c0), (6, .slice a6 l6 c6), (7, .int .u64 x7)] ⟨e0, e6, e7, trivial⟩ (by kernel_rfl) g
def L4.g (N : Option Addr → Nat → Nat → Int → Option Addr → Nat → Nat → Int → Int → Int → Hp → Prop) (fr : Fr) (h : Hp) : Prop := gSlice (fr 0) fun a0 l0 c0 => gInt .u64 (fr 1) fun x1 => gSlice (fr 6) fun a6 l6 c6 => gInt .u64 (fr 7) fun x7 => gInt .i64 (fr 20) fun x20 => gInt .i64 (fr 21) fun x21 => N a0 l0 c0 x1 a6 l6 c6 x7 x20 x21 h
def D5.t (R : Rt) (N4 : Option Addr → Nat → Nat → Int → Option Addr → Nat → Nat → Int → Int → Int → Hp → Prop) (a0 : Option Addr) (l0 : Nat) (c0 : Nat) (x1 : Int) (a6 : Option Addr) (l6 : Nat) (c6 : Nat) (x7 : Int) (x20 : Int) (x21 : Int) (h : Hp) : Prop :=
  cond (decide (x21 < x20)) (idxK a0 l0 x21 1 fun q16 =>
  ldK h q16 fun v17 =>
  gInt .u64 v17 fun x_18 =>
  HC bits_Mul64.id #[.int .u64 x_18, .int .u64 x1] h fun v19 h20 =>
  gTup v19 fun y21 =>
  uncons y21 fun v22 y22 =>
  gInt .u64 v22 fun x_23 =>
  uncons y22 fun v24 y24 =>
  gInt .u64 v24 fun x_25 =>
  unnil y24 <| addK x_25 x7 0 fun n26 m26 =>
  idxK a6 l6 x21 1 fun q27 =>
  stK h20 q27 (.int .u64 n26) fun h28 =>
  letK (IntKind.u64.wrap (x_23 + m26)) fun n29 =>
  letK (IntKind.i64.wrap (x21 + 1)) fun n30 =>
  N4 a0 l0 c0 x1 a6 l6 c6 n29 x20 n30 h28) (D2.t R a0 l0 c0 a6 l6 c6 x7 h)
def D5.g (R : Rt) (N4 : Option Addr → Nat → Nat → Int → Option Addr → Nat → Nat → Int → Int → Int → Hp → Prop) (fr : Fr) (h : Hp) : Prop := gSlice (fr 0) fun a0 l0 c0 => gInt .u64 (fr 1) fun x1 => gSlice (fr 6) fun a6 l6 c6 => gInt .u64 (fr 7) fun x7 => gInt .i64 (fr 20) fun x20 => gInt .i64 (fr 21) fun x21 => D5.t R N4 a0 l0 c0 x1 a6 l6 c6 x7 x20 x21 h
theorem D5.ok (R : Rt) (N4 : Option Addr → Nat → Nat → Int → Option Addr → Nat → Nat → Int → Int → Int → Hp → Prop) (fr : Fr) (h : Hp) (g : D5.g R N4 fr h) : den prog E (cAt C [true, true, true, true, false, true, false, false]) (Ex.then (L4.g N4) (Ex.inBlock 0 (Ex.then (D2.g R) (retQ E [.tmp 4, .tmp 5] R)))) fr h := by
  obtain ⟨a0, l0, c0, e0, g⟩ := gSlice_elim g
  obtain ⟨x1, e1, g⟩ := gInt_elim g
  obtain ⟨a6, l6, c6, e6, g⟩ := gSlice_elim g
  obtain ⟨x7, e7, g⟩ := gInt_elim g
  obtain ⟨x20, e20, g⟩ := gInt_elim g
  obtain ⟨x21, e21, g⟩ := gInt_elim g
  exact den_enter [(0, .slice a0 l0 c0), (1, .int .u64 x1), (6, .slice a6 l6 c6), (7, .int .u64 x7), (20, .int .i64 x20), (21, .int .i64 x21)] ⟨e0, e1, e6, e7, e20, e21, trivial⟩ (by kernel_rfl) g
def L4.t (R : Rt) : Nat → Option Addr → Nat → Nat → Int → Option Addr → Nat → Nat → Int → Int → Int → Hp → Prop
  | 0 => fun _ _ _ _ _ _ _ _ _ _ _ => False
  | n + 1 => fun a0 l0 c0 x1 a6 l6 c6 x7 x20 x21 h => D5.t R (L4.t R n) a0 l0 c0 x1 a6 l6 c6 x7 x20 x21 h
theorem L4.ok (R : Rt) (fr : Fr) (h : Hp) (g : L4.g (fun a0 l0 c0 x1 a6 l6 c6 x7 x20 x21 h => ∃ n, L4.t R n a0 l0 c0 x1 a6 l6 c6 x7 x20 x21 h) fr h) : den prog E (cAt C [true, true, true, true, false, true, false]) (Ex.inBlock 0 (Ex.then (D2.g R) (retQ E [.tmp 4, .tmp 5] R))) fr h := by
  obtain ⟨a0, l0, c0, e0, g⟩ := gSlice_elim g
  obtain ⟨x1, e1, g⟩ := gInt_elim g
  obtain ⟨a6, l6, c6, e6, g⟩ := gSlice_elim g
  obtain ⟨x7, e7, g⟩ := gInt_elim g
  obtain ⟨x20, e20, g⟩ := gInt_elim g
  obtain ⟨x21, e21, g⟩ := gInt_elim g
  obtain ⟨n, g⟩ := g
  refine loop_ok (fun n => L4.g (L4.t R n)) (b := (cAt C [true, true, true, true, false, true, false, false])) (by kernel_rfl) (fun fr h g => ?_) (fun n => D5.ok R (L4.t R n)) n fr h (gSlice_intro e0 (gInt_intro e1 (gSlice_intro e6 (gInt_intro e7 (gInt_intro e20 (gInt_intro e21 (g)))))))
  obtain ⟨a0, l0, c0, e0, g⟩ := gSlice_elim g
  obtain ⟨x1, e1, g⟩ := gInt_elim g
  obtain ⟨a6, l6, c6, e6, g⟩ := gSlice_elim g
  obtain ⟨x7, e7, g⟩ := gInt_elim g
  obtain ⟨x20, e20, g⟩ := gInt_elim g
  obtain ⟨x21, e21, g⟩ := gInt_elim g
  exact g
theorem B6.ok (R : Rt) (fr : Fr) (h : Hp) (g : L4.g (fun a0 l0 c0 x1 a6 l6 c6 x7 x20 x21 h => ∃ n, L4.t R n a0 l0 c0 x1 a6 l6 c6 x7 x20 x21 h) fr h) : den prog E (cAt C [true, true, true, true, false, true]) (Ex.then (D2.g R) (retQ E [.tmp 4, .tmp 5] R)) fr h :=
  den_block (by kernel_rfl) (L4.ok R fr h g)
def D3.t (R : Rt) (a0 : Option Addr) (l0 : Nat) (c0 : Nat) (x1 : Int) (a6 : Option Addr) (l6 : Nat) (c6 : Nat) (x7 : Int) (h : Hp) : Prop :=
  (∃ n, L4.t R n a0 l0 c0 x1 a6 l6 c6 x7 (((l0 : Nat) : Int)) 0 h)
def D3.g (R : Rt) (fr : Fr) (h : Hp) : Prop := gSlice (fr 0) fun a0 l0 c0 => gInt .u64 (fr 1) fun x1 => gSlice (fr 6) fun a6 l6 c6 => gInt .u64 (fr 7) fun x7 => D3.t R a0 l0 c0 x1 a6 l6 c6 x7 h
theorem D3.ok (R : Rt) (fr : Fr) (h : Hp) (g : D3.g R fr h) : den prog E (cAt C [true, true, true, true, false]) (Ex.then (D2.g R) (retQ E [.tmp 4, .tmp 5] R)) fr h := by
  obtain ⟨a0, l0, c0, e0, g⟩ := gSlice_elim g
  obtain ⟨x1, e1, g⟩ := gInt_elim g
  obtain ⟨a6, l6, c6, e6, g⟩ := gSlice_elim g
  obtain ⟨x7, e7, g⟩ := gInt_elim g
  exact den_cut 1 (r := (cAt C [true, true, true, true, false, true])) (by kernel_rfl) (B6.ok R) (den_enter [(0, .slice a0 l0 c0), (1, .int .u64 x1), (6, .slice a6 l6 c6), (7, .int .u64 x7)] ⟨e0, e1, e6, e7, trivial⟩ (by kernel_rfl) g)
theorem W7.ok (R : Rt) (fr : Fr) (h : Hp) (g : D3.g R fr h) : den prog E (cAt C [true, true, true, true]) (retQ E [.tmp 4, .tmp 5] R) fr h :=
  den_then (by kernel_rfl) (D2.ok R) (D3.ok R fr h g)
def D1.t (R : Rt) (a0 : Option Addr) (l0 : Nat) (c0 : Nat) (x1 : Int) (h : Hp) : Prop :=
  HC nat_Form.id #[.slice a0 l0 c0] h fun v1 h2 =>
  gBool v1 fun b_3 =>
  cond (!b_3) (R (.tuple #[.slice none 0 0, .int .i64 2]) h2) (letK (IntKind.i64.wrap ((((l0 : Nat) : Int)) + 1)) fun n4 =>
  mkK h2 35 T35 n4 n4 fun q5 h6 =>
  D3.t R a0 l0 c0 x1 (some q5) n4.toNat n4.toNat 0 h6)
def D1.g (R : Rt) (fr : Fr) (h : Hp) : Prop := gSlice (fr 0) fun a0 l0 c0 => gInt .u64 (fr 1) fun x1 => D1.t R a0 l0 c0 x1 h
theorem D1.ok (R : Rt) (fr : Fr) (h : Hp) (g : D1.g R fr h) : den prog E C (retQ E [.tmp 4, .tmp 5] R) fr h := by
  obtain ⟨a0, l0, c0, e0, g⟩ := gSlice_elim g
  obtain ⟨x1, e1, g⟩ := gInt_elim g
  exact den_cut 4 (r := (cAt C [true, true, true, true])) (by kernel_rfl) (W7.ok R) (den_enter [(0, .slice a0 l0 c0), (1, .int .u64 x1)] ⟨e0, e1, trivial⟩ (by kernel_rfl) g)
def t (a0 : Option Addr) (l0 : Nat) (c0 : Nat) (x1 : Int) (h : Hp) (R : Rt) : Prop := D1.t R a0 l0 c0 x1 h
theorem ok {a0 : Option Addr} {l0 : Nat} {c0 : Nat} {x1 : Int} {h : Hp} {R : Rt} (g : t a0 l0 c0 x1 h R) : HC id #[.slice a0 l0 c0, .int .u64 x1] h R :=
  calls_of_den' envOk (c := C) (rs := [.tmp 4, .tmp 5]) Tryz.func53 (by kernel_rfl) (by kernel_rfl) (by kernel_rfl) (args := [.slice a0 l0 c0, .int .u64 x1]) (by kernel_rfl) (D1.ok R _ h (gSlice_intro rfl (gInt_intro rfl (g))))
end nat_MulWord

namespace nat_Add
noncomputable def C : Code := bodyOf Tryz.f54
def D4.t (R : Rt) (a0 : Option Addr) (l0 : Nat) (c0 : Nat) (a6 : Option Addr) (l6 : Nat) (c6 : Nat) (x7 : Int) (h : Hp) : Prop :=
  idxK a6 l6 (((l0 : Nat) : Int)) 1 fun q10 =>
  stK h q10 (.int .u64 x7) fun h11 =>
  HC nat_told.id #[.slice a6 l6 c6] h11 fun v12 h13 =>
  gTup v12 fun y14 =>
  uncons y14 fun v15 y15 =>
  gSlice v15 fun a_16 l_16 c_16 =>
  uncons y15 fun v17 y17 =>
  gInt .i64 v17 fun x_18 =>
  unnil y17 <| R (.tuple #[.slice a_16 l_16 c_16, .int .i64 x_18]) h13
def D4.g (R : Rt) (fr : Fr) (h : Hp) : Prop := gSlice (fr 0) fun a0 l0 c0 => gSlice (fr 6) fun a6 l6 c6 => gInt .u64 (fr 7) fun x7 => D4.t R a0 l0 c0 a6 l6 c6 x7 h
theorem D4.ok (R : Rt) (fr : Fr) (h : Hp) (g : D4.g R fr h) : den prog E (cAt C [true, true, true, true, true, true]) (retQ E [.tmp 4, .tmp 5] R) fr h := by
  obtain ⟨a0, l0, c0, e0, g⟩ := gSlice_elim g
  obtain ⟨a6, l6, c6, e6, g⟩ := gSlice_elim g
  obtain ⟨x7, e7, g⟩ := gInt_elim g
  exact den_enter [(0, .slice a0 l0 c0), (6, .slice a6 l6 c6), (7, .int .u64 x7)] ⟨e0, e6, e7, trivial⟩ (by kernel_rfl) g
def L6.g (N : Option Addr → Nat → Nat → Option Addr → Nat → Nat → Option Addr → Nat → Nat → Int → Int → Int → Hp → Prop) (fr : Fr) (h : Hp) : Prop := gSlice (fr 0) fun a0 l0 c0 => gSlice (fr 1) fun a1 l1 c1 => gSlice (fr 6) fun a6 l6 c6 => gInt .u64 (fr 7) fun x7 => gInt .i64 (fr 30) fun x30 => gInt .i64 (fr 31) fun x31 => N a0 l0 c0 a1 l1 c1 a6 l6 c6 x7 x30 x31 h
def D7.t (R : Rt) (N6 : Option Addr → Nat → Nat → Option Addr → Nat → Nat → Option Addr → Nat → Nat → Int → Int → Int → Hp → Prop) (a0 : Option Addr) (l0 : Nat) (c0 : Nat) (a1 : Option Addr) (l1 : Nat) (c1 : Nat) (a6 : Option Addr) (l6 : Nat) (c6 : Nat) (x7 : Int) (x30 : Int) (x31 : Int) (h : Hp) : Prop :=
  cond (decide (x31 < x30)) (cond (decide (x31 < (((l1 : Nat) : Int)))) (idxK a1 l1 x31 1 fun q19 =>
  ldK h q19 fun v20 =>
  gInt .u64 v20 fun x_21 =>
  idxK a0 l0 x31 1 fun q22 =>
  ldK h q22 fun v23 =>
  gInt .u64 v23 fun x_24 =>
  addK x_24 x_21 x7 fun n25 m25 =>
  idxK a6 l6 x31 1 fun q26 =>
  stK h q26 (.int .u64 n25) fun h27 =>
  letK (IntKind.i64.wrap (x31 + 1)) fun n28 =>
  N6 a0 l0 c0 a1 l1 c1 a6 l6 c6 m25 x30 n28 h27) (idxK a0 l0 x31 1 fun q29 =>
  ldK h q29 fun v30 =>
  gInt .u64 v30 fun x_31 =>
  addK x_31 0 x7 fun n32 m32 =>
  idxK a6 l6 x31 1 fun q33 =>
  stK h q33 (.int .u64 n32) fun h34 =>
  letK (IntKind.i64.wrap (x31 + 1)) fun n35 =>
  N6 a0 l0 c0 a1 l1 c1 a6 l6 c6 m32 x30 n35 h34)) (D4.t R a0 l0 c0 a6 l6 c6 x7 h)
def D7.g (R : Rt) (N6 : Option Addr → Nat → Nat → Option Addr → Nat → Nat → Option Addr → Nat → Nat → Int → Int → Int → Hp → Prop) (fr : Fr) (h : Hp) : Prop := gSlice (fr 0) fun a0 l0 c0 => gSlice (fr 1) fun a1 l1 c1 => gSlice (fr 6) fun a6 l6 c6 => gInt .u64 (fr 7) fun x7 => gInt .i64 (fr 30) fun x30 => gInt .i64 (fr 31) fun x31 => D7.t R N6 a0 l0 c0 a1 l1 c1 a6 l6 c6 x7 x30 x31 h
theorem D7.ok (R : Rt) (N6 : Option Addr → Nat → Nat → Option Addr → Nat → Nat → Option Addr → Nat → Nat → Int → Int → Int → Hp → Prop) (fr : Fr) (h : Hp) (g : D7.g R N6 fr h) : den prog E (cAt C [true, true, true, true, true, false, true, false, false]) (Ex.then (L6.g N6) (Ex.inBlock 0 (Ex.then (D4.g R) (retQ E [.tmp 4, .tmp 5] R)))) fr h := by
  obtain ⟨a0, l0, c0, e0, g⟩ := gSlice_elim g
  obtain ⟨a1, l1, c1, e1, g⟩ := gSlice_elim g
  obtain ⟨a6, l6, c6, e6, g⟩ := gSlice_elim g
  obtain ⟨x7, e7, g⟩ := gInt_elim g
  obtain ⟨x30, e30, g⟩ := gInt_elim g
  obtain ⟨x31, e31, g⟩ := gInt_elim g
  exact den_enter [(0, .slice a0 l0 c0), (1, .slice a1 l1 c1), (6, .slice a6 l6 c6), (7, .int .u64 x7), (30, .int .i64 x30), (31, .int .i64 x31)] ⟨e0, e1, e6, e7, e30, e31, trivial⟩ (by kernel_rfl) g
def L6.t (R : Rt) : Nat → Option Addr → Nat → Nat → Option Addr → Nat → Nat → Option Addr → Nat → Nat → Int → Int → Int → Hp → Prop
  | 0 => fun _ _ _ _ _ _ _ _ _ _ _ _ _ => False
  | n + 1 => fun a0 l0 c0 a1 l1 c1 a6 l6 c6 x7 x30 x31 h => D7.t R (L6.t R n) a0 l0 c0 a1 l1 c1 a6 l6 c6 x7 x30 x31 h
theorem L6.ok (R : Rt) (fr : Fr) (h : Hp) (g : L6.g (fun a0 l0 c0 a1 l1 c1 a6 l6 c6 x7 x30 x31 h => ∃ n, L6.t R n a0 l0 c0 a1 l1 c1 a6 l6 c6 x7 x30 x31 h) fr h) : den prog E (cAt C [true, true, true, true, true, false, true, false]) (Ex.inBlock 0 (Ex.then (D4.g R) (retQ E [.tmp 4, .tmp 5] R))) fr h := by
  obtain ⟨a0, l0, c0, e0, g⟩ := gSlice_elim g
  obtain ⟨a1, l1, c1, e1, g⟩ := gSlice_elim g
  obtain ⟨a6, l6, c6, e6, g⟩ := gSlice_elim g
  obtain ⟨x7, e7, g⟩ := gInt_elim g
  obtain ⟨x30, e30, g⟩ := gInt_elim g
  obtain ⟨x31, e31, g⟩ := gInt_elim g
  obtain ⟨n, g⟩ := g
  refine loop_ok (fun n => L6.g (L6.t R n)) (b := (cAt C [true, true, true, true, true, false, true, false, false])) (by kernel_rfl) (fun fr h g => ?_) (fun n => D7.ok R (L6.t R n)) n fr h (gSlice_intro e0 (gSlice_intro e1 (gSlice_intro e6 (gInt_intro e7 (gInt_intro e30 (gInt_intro e31 (g)))))))
  obtain ⟨a0, l0, c0, e0, g⟩ := gSlice_elim g
  obtain ⟨a1, l1, c1, e1, g⟩ := gSlice_elim g
  obtain ⟨a6, l6, c6, e6, g⟩ := gSlice_elim g
  obtain ⟨x7, e7, g⟩ := gInt_elim g
  obtain ⟨x30, e30, g⟩ := gInt_elim g
  obtain ⟨x31, e31, g⟩ := gInt_elim g
  exact g
theorem B8.ok (R : Rt) (fr : Fr) (h : Hp) (g : L6.g (fun a0 l0 c0 a1 l1 c1 a6 l6 c6 x7 x30 x31 h => ∃ n, L6.t R n a0 l0 c0 a1 l1 c1 a6 l6 c6 x7 x30 x31 h) fr h) : den prog E (cAt C [true, true, true, true, true, false, true]) (Ex.then (D4.g R) (retQ E [.tmp 4, .tmp 5] R)) fr h :=
  den_block (by kernel_rfl) (L6.ok R fr h g)
def D5.t (R : Rt) (a0 : Option Addr) (l0 : Nat) (c0 : Nat) (a1 : Option Addr) (l1 : Nat) (c1 : Nat) (a6 : Option Addr) (l6 : Nat) (c6 : Nat) (x7 : Int) (h : Hp) : Prop :=
  (∃ n, L6.t R n a0 l0 c0 a1 l1 c1 a6 l6 c6 x7 (((l0 : Nat) : Int)) 0 h)
def D5.g (R : Rt) (fr : Fr) (h : Hp) : Prop := gSlice (fr 0) fun a0 l0 c0 => gSlice (fr 1) fun a1 l1 c1 => gSlice (fr 6) fun a6 l6 c6 => gInt .u64 (fr 7) fun x7 => D5.t R a0 l0 c0 a1 l1 c1 a6 l6 c6 x7 h
theorem D5.ok (R : Rt) (fr : Fr) (h : Hp) (g : D5.g R fr h) : den prog E (cAt C [true, true, true, true, true, false]) (Ex.then (D4.g R) (retQ E [.tmp 4, .tmp 5] R)) fr h := by
  obtain ⟨a0, l0, c0, e0, g⟩ := gSlice_elim g
  obtain ⟨a1, l1, c1, e1, g⟩ := gSlice_elim g
  obtain ⟨a6, l6, c6, e6, g⟩ := gSlice_elim g
  obtain ⟨x7, e7, g⟩ := gInt_elim g
  exact den_cut 1 (r := (cAt C [true, true, true, true, true, false, true])) (by kernel_rfl) (B8.ok R) (den_enter [(0, .slice a0 l0 c0), (1, .slice a1 l1 c1), (6, .slice a6 l6 c6), (7, .int .u64 x7)] ⟨e0, e1, e6, e7, trivial⟩ (by kernel_rfl) g)
theorem W9.ok (R : Rt) (fr : Fr) (h : Hp) (g : D5.g R fr h) : den prog E (cAt C [true, true, true, true, true]) (retQ E [.tmp 4, .tmp 5] R) fr h :=
  den_then (by kernel_rfl) (D4.ok R) (D5.ok R fr h g)
def D3.t (R : Rt) (a0 : Option Addr) (l0 : Nat) (c0 : Nat) (a1 : Option Addr) (l1 : Nat) (c1 : Nat) (h : Hp) : Prop :=
  letK (IntKind.i64.wrap ((((l0 : Nat) : Int)) + 1)) fun n7 =>
  mkK h 35 T35 n7 n7 fun q8 h9 =>
  D5.t R a0 l0 c0 a1 l1 c1 (some q8) n7.toNat n7.toNat 0 h9
def D3.g (R : Rt) (fr : Fr) (h : Hp) : Prop := gSlice (fr 0) fun a0 l0 c0 => gSlice (fr 1) fun a1 l1 c1 => D3.t R a0 l0 c0 a1 l1 c1 h
theorem D3.ok (R : Rt) (fr : Fr) (h : Hp) (g : D3.g R fr h) : den prog E (cAt C [true, true, true]) (retQ E [.tmp 4, .tmp 5] R) fr h := by
  obtain ⟨a0, l0, c0, e0, g⟩ := gSlice_elim g
  obtain ⟨a1, l1, c1, e1, g⟩ := gSlice_elim g
  exact den_cut 2 (r := (cAt C [true, true, true, true, true])) (by kernel_rfl) (W9.ok R) (den_enter [(0, .slice a0 l0 c0), (1, .slice a1 l1 c1)] ⟨e0, e1, trivial⟩ (by kernel_rfl) g)
def D2.t (R : Rt) (a0 : Option Addr) (l0 : Nat) (c0 : Nat) (a1 : Option Addr) (l1 : Nat) (c1 : Nat) (h : Hp) : Prop :=
  cond (decide ((((l0 : Nat) : Int)) < (((l1 : Nat) : Int)))) (D3.t R a1 l1 c1 a0 l0 c0 h) (D3.t R a0 l0 c0 a1 l1 c1 h)
def D2.g (R : Rt) (fr : Fr) (h : Hp) : Prop := gSlice (fr 0) fun a0 l0 c0 => gSlice (fr 1) fun a1 l1 c1 => D2.t R a0 l0 c0 a1 l1 c1 h
theorem D2.ok (R : Rt) (fr : Fr) (h : Hp) (g : D2.g R fr h) : den prog E (cAt C [true, true]) (retQ E [.tmp 4, .tmp 5] R) fr h := by
  obtain ⟨a0, l0, c0, e0, g⟩ := gSlice_elim g
  obtain ⟨a1, l1, c1, e1, g⟩ := gSlice_elim g
  exact den_cut 1 (r := (cAt C [true, true, true])) (by kernel_rfl) (D3.ok R) (den_enter [(0, .slice a0 l0 c0), (1, .slice a1 l1 c1)] ⟨e0, e1, trivial⟩ (by kernel_rfl) g)
def D1.t (R : Rt) (a0 : Option Addr) (l0 : Nat) (c0 : Nat) (a1 : Option Addr) (l1 : Nat) (c1 : Nat) (h : Hp) : Prop :=
  HC nat_Form.id #[.slice a0 l0 c0] h fun v1 h2 =>
  gBool v1 fun b_3 =>
  cond (!b_3) (R (.tuple #[.slice none 0 0, .int .i64 2]) h2) (HC nat_Form.id #[.slice a1 l1 c1] h2 fun v4 h5 =>
  gBool v4 fun b_6 =>
  cond (!b_6) (R (.tuple #[.slice none 0 0, .int .i64 2]) h5) (D2.t R a0 l0 c0 a1 l1 c1 h5))
def D1.g (R : Rt) (fr : Fr) (h : Hp) : Prop := gSlice (fr 0) fun a0 l0 c0 => gSlice (fr 1) fun a1 l1 c1 => D1.t R a0 l0 c0 a1 l1 c1 h
theorem D1.ok (R : Rt) (fr : Fr) (h : Hp) (g : D1.g R fr h) : den prog E C (retQ E [.tmp 4, .tmp 5] R) fr h := by
  obtain ⟨a0, l0, c0, e0, g⟩ := gSlice_elim g
  obtain ⟨a1, l1, c1, e1, g⟩ := gSlice_elim g
  exact den_cut 2 (r := (cAt C [true, true])) (by kernel_rfl) (D2.ok R) (den_enter [(0, .slice a0 l0 c0), (1, .slice a1 l1 c1)] ⟨e0, e1, trivial⟩ (by kernel_rfl) g)
def t (a0 : Option Addr) (l0 : Nat) (c0 : Nat) (a1 : Option Addr) (l1 : Nat) (c1 : Nat) (h : Hp) (R : Rt) : Prop := D1.t R a0 l0 c0 a1 l1 c1 h
theorem ok {a0 : Option Addr} {l0 : Nat} {c0 : Nat} {a1 : Option Addr} {l1 : Nat} {c1 : Nat} {h : Hp} {R : Rt} (g : t a0 l0 c0 a1 l1 c1 h R) : HC id #[.slice a0 l0 c0, .slice a1 l1 c1] h R :=
  calls_of_den' envOk (c := C) (rs := [.tmp 4, .tmp 5]) Tryz.func54 (by kernel_rfl) (by kernel_rfl) (by kernel_rfl) (args := [.slice a0 l0 c0, .slice a1 l1 c1]) (by kernel_rfl) (D1.ok R _ h (gSlice_intro rfl (gSlice_intro rfl (g))))
end nat_Add

namespace piconst_FloorInv
noncomputable def C : Code := bodyOf Tryz.f55
def L3.g (N : Int → Int → Hp → Prop) (fr : Fr) (h : Hp) : Prop := gInt .i64 (fr 0) fun x0 => gInt .i64 (fr 4) fun x4 => N x0 x4 h
def D4.t (R : Rt) (N3 : Int → Int → Hp → Prop) (x0 : Int) (x4 : Int) (h : Hp) : Prop :=
  letK (IntKind.i64.wrap (x0 + x4)) fun n1 =>
  HC piconst_machin.id #[.int .i64 n1] h fun v2 h3 =>
  gTup v2 fun y4 =>
  uncons y4 fun v5 y5 =>
  gSlice v5 fun a_6 l_6 c_6 =>
  uncons y5 fun v7 y7 =>
  gSlice v7 fun a_8 l_8 c_8 =>
  unnil y7 <| HC nat_Word.id #[.int .u64 1] h3 fun v9 h10 =>
  gSlice v9 fun a_11 l_11 c_11 =>
  letK (IntKind.i64.wrap (2 * x0)) fun n12 =>
  letK (IntKind.i64.wrap (n12 + x4)) fun n13 =>
  letK (IntKind.i64.wrap (n13 + 1)) fun n14 =>
  HC nat_Shl.id #[.slice a_11 l_11 c_11, .int .i64 n14] h10 fun v15 h16 =>
  gTup v15 fun y17 =>
  uncons y17 fun v18 y18 =>
  gSlice v18 fun a_19 l_19 c_19 =>
  uncons y18 fun v20 y20 =>
  gInt .i64 v20 fun x_21 =>
  unnil y20 <| HC natdiv_QuoRem.id #[.slice a_19 l_19 c_19, .slice a_8 l_8 c_8] h16 fun v22 h23 =>
  gTup v22 fun y24 =>
  uncons y24 fun v25 y25 =>
  gSlice v25 fun a_26 l_26 c_26 =>
  uncons y25 fun v27 y27 =>
  gSlice v27 fun a_28 l_28 c_28 =>
  uncons y27 fun v29 y29 =>
  gInt .i64 v29 fun x_30 =>
  unnil y29 <| HC natdiv_QuoRem.id #[.slice a_19 l_19 c_19, .slice a_6 l_6 c_6] h23 fun v31 h32 =>
  gTup v31 fun y33 =>
  uncons y33 fun v34 y34 =>
  gSlice v34 fun a_35 l_35 c_35 =>
  uncons y34 fun v36 y36 =>
  gSlice v36 fun a_37 l_37 c_37 =>
  uncons y36 fun v38 y38 =>
  gInt .i64 v38 fun x_39 =>
  unnil y38 <| HC nat_Cmp.id #[.slice a_26 l_26 c_26, .slice a_35 l_35 c_35] h32 fun v40 h41 =>
  gInt .i64 v40 fun x_42 =>
  cond (x_42 == 0) (R (.tuple #[.slice a_26 l_26 c_26, .int .i64 0]) h41) (letK (IntKind.i64.wrap (x4 * 2)) fun n43 =>
  N3 x0 n43 h41)
def D4.g (R : Rt) (N3 : Int → Int → Hp → Prop) (fr : Fr) (h : Hp) : Prop := gInt .i64 (fr 0) fun x0 => gInt .i64 (fr 4) fun x4 => D4.t R N3 x0 x4 h
theorem D4.ok (R : Rt) (N3 : Int → Int → Hp → Prop) (fr : Fr) (h : Hp) (g : D4.g R N3 fr h) : den prog E (cAt C [true, true, true, false, false]) (Ex.then (L3.g N3) (Ex.inBlock 0 (retQ E [.tmp 2, .tmp 3] R))) fr h := by
  obtain ⟨x0, e0, g⟩ := gInt_elim g
  obtain ⟨x4, e4, g⟩ := gInt_elim g
  exact den_enter [(0, .int .i64 x0), (4, .int .i64 x4)] ⟨e0, e4, trivial⟩ (by kernel_rfl) g
def L3.t (R : Rt) : Nat → Int → Int → Hp → Prop
  | 0 => fun _ _ _ => False
  | n + 1 => fun x0 x4 h => D4.t R (L3.t R n) x0 x4 h
theorem L3.ok (R : Rt) (fr : Fr) (h : Hp) (g : L3.g (fun x0 x4 h => ∃ n, L3.t R n x0 x4 h) fr h) : den prog E (cAt C [true, true, true, false]) (Ex.inBlock 0 (retQ E [.tmp 2, .tmp 3] R)) fr h := by
  obtain ⟨x0, e0, g⟩ := gInt_elim g
  obtain ⟨x4, e4, g⟩ := gInt_elim g
  obtain ⟨n, g⟩ := g
  refine loop_ok (fun n => L3.g (L3.t R n)) (b := (cAt C [true, true, true, false, false])) (by kernel_rfl) (fun fr h g => ?_) (fun n => D4.ok R (L3.t R n)) n fr h (gInt_intro e0 (gInt_intro e4 (g)))
  obtain ⟨x0, e0, g⟩ := gInt_elim g
  obtain ⟨x4, e4, g⟩ := gInt_elim g
  exact g
theorem B5.ok (R : Rt) (fr : Fr) (h : Hp) (g : L3.g (fun x0 x4 h => ∃ n, L3.t R n x0 x4 h) fr h) : den prog E (cAt C [true, true, true]) (retQ E [.tmp 2, .tmp 3] R) fr h :=
  den_block (by kernel_rfl) (L3.ok R fr h g)
def D2.t (R : Rt) (x0 : Int) (h : Hp) : Prop :=
  (∃ n, L3.t R n x0 48 h)
def D2.g (R : Rt) (fr : Fr) (h : Hp) : Prop := gInt .i64 (fr 0) fun x0 => D2.t R x0 h
theorem D2.ok (R : Rt) (fr : Fr) (h : Hp) (g : D2.g R fr h) : den prog E (cAt C [true, true]) (retQ E [.tmp 2, .tmp 3] R) fr h := by
  obtain ⟨x0, e0, g⟩ := gInt_elim g
  exact den_cut 1 (r := (cAt C [true, true, true])) (by kernel_rfl) (B5.ok R) (den_enter [(0, .int .i64 x0)] ⟨e0, trivial⟩ (by kernel_rfl) g)
def D1.t (R : Rt) (x0 : Int) (h : Hp) : Prop :=
  cond (decide (x0 < 1)) (R (.tuple #[.slice none 0 0, .int .i64 1]) h) (cond (decide (x0 > 70000)) (R (.tuple #[.slice none 0 0, .int .i64 1]) h) (D2.t R x0 h))
def D1.g (R : Rt) (fr : Fr) (h : Hp) : Prop := gInt .i64 (fr 0) fun x0 => D1.t R x0 h
theorem D1.ok (R : Rt) (fr : Fr) (h : Hp) (g : D1.g R fr h) : den prog E C (retQ E [.tmp 2, .tmp 3] R) fr h := by
  obtain ⟨x0, e0, g⟩ := gInt_elim g
  exact den_cut 2 (r := (cAt C [true, true])) (by kernel_rfl) (D2.ok R) (den_enter [(0, .int .i64 x0)] ⟨e0, trivial⟩ (by kernel_rfl) g)
def t (x0 : Int) (h : Hp) (R : Rt) : Prop := D1.t R x0 h
theorem ok {x0 : Int} {h : Hp} {R : Rt} (g : t x0 h R) : HC id #[.int .i64 x0] h R :=
  calls_of_den' envOk (c := C) (rs := [.tmp 2, .tmp 3]) Tryz.func55 (by kernel_rfl) (by kernel_rfl) (by kernel_rfl) (args := [.int .i64 x0]) (by kernel_rfl) (D1.ok R _ h (gInt_intro rfl (g)))
end piconst_FloorInv

namespace nat_Low
noncomputable def C : Code := bodyOf Tryz.f56
def D2.t (R : Rt) (a8 : Option Addr) (l8 : Nat) (c8 : Nat) (h : Hp) : Prop :=
  HC nat_told.id #[.slice a8 l8 c8] h fun v19 h20 =>
  gTup v19 fun y21 =>
  uncons y21 fun v22 y22 =>
  gSlice v22 fun a_23 l_23 c_23 =>
  uncons y22 fun v24 y24 =>
  gInt .i64 v24 fun x_25 =>
  unnil y24 <| R (.tuple #[.slice a_23 l_23 c_23, .int .i64 x_25]) h20
def D2.g (R : Rt) (fr : Fr) (h : Hp) : Prop := gSlice (fr 8) fun a8 l8 c8 => D2.t R a8 l8 c8 h
theorem D2.ok (R : Rt) (fr : Fr) (h : Hp) (g : D2.g R fr h) : den prog E (cAt C [true, true, true, true, true, true, true]) (retQ E [.tmp 4, .tmp 5] R) fr h := by
  obtain ⟨a8, l8, c8, e8, g⟩ := gSlice_elim g
  exact den_enter [(8, .slice a8 l8 c8)] ⟨e8, trivial⟩ (by kernel_rfl) g
def D1.t (R : Rt) (a0 : Option Addr) (l0 : Nat) (c0 : Nat) (x1 : Int) (h : Hp) : Prop :=
  cond (decide (x1 < 0)) (R (.tuple #[.slice none 0 0, .int .i64 1]) h) (HC nat_Form.id #[.slice a0 l0 c0] h fun v1 h2 =>
  gBool v1 fun b_3 =>
  cond (!b_3) (R (.tuple #[.slice none 0 0, .int .i64 2]) h2) ((64 : Int) ≠ 0 ∧ letK (IntKind.i64.wrap (Int.tdiv x1 64)) fun n4 =>
  (64 : Int) ≠ 0 ∧ letK (Int.tmod x1 64) fun n5 =>
  mkK h2 35 T35 (((l0 : Nat) : Int)) (((l0 : Nat) : Int)) fun q6 h7 =>
  cpK h7 1 (some q6) ((((l0 : Nat) : Int)).toNat) (.slice a0 l0 c0) fun n8 h8 =>
  cond (decide (n4 < (((l0 : Nat) : Int)))) (idxK (some q6) ((((l0 : Nat) : Int)).toNat) n4 1 fun q9 =>
  ldK h8 q9 fun v10 =>
  gInt .u64 v10 fun x_11 =>
  0 ≤ n5 ∧ letK (shlI .u64 1 n5) fun n12 =>
  letK (IntKind.u64.wrap (n12 - 1)) fun n13 =>
  letK (andI .u64 x_11 n13) fun n14 =>
  idxK (some q6) ((((l0 : Nat) : Int)).toNat) n4 1 fun q15 =>
  stK h8 q15 (.int .u64 n14) fun h16 =>
  letK (IntKind.i64.wrap (n4 + 1)) fun n17 =>
  slK 1 (some q6) ((((l0 : Nat) : Int)).toNat) ((((l0 : Nat) : Int)).toNat) none (some (.int .i64 n17)) none fun a_18 l_18 c_18 =>
  D2.t R a_18 l_18 c_18 h16) (D2.t R (some q6) ((((l0 : Nat) : Int)).toNat) ((((l0 : Nat) : Int)).toNat) h8)))
def D1.g (R : Rt) (fr : Fr) (h : Hp) : Prop := gSlice (fr 0) fun a0 l0 c0 => gInt .i64 (fr 1) fun x1 => D1.t R a0 l0 c0 x1 h
theorem D1.ok (R : Rt) (fr : Fr) (h : Hp) (g : D1.g R fr h) : den prog E C (retQ E [.tmp 4, .tmp 5] R) fr h := by
  obtain ⟨a0, l0, c0, e0, g⟩ := gSlice_elim g
  obtain ⟨x1, e1, g⟩ := gInt_elim g
  exact den_cut 7 (r := (cAt C [true, true, true, true, true, true, true])) (by kernel_rfl) (D2.ok R) (den_enter [(0, .slice a0 l0 c0), (1, .int .i64 x1)] ⟨e0, e1, trivial⟩ (by kernel_rfl) g)
def t (a0 : Option Addr) (l0 : Nat) (c0 : Nat) (x1 : Int) (h : Hp) (R : Rt) : Prop := D1.t R a0 l0 c0 x1 h
theorem ok {a0 : Option Addr} {l0 : Nat} {c0 : Nat} {x1 : Int} {h : Hp} {R : Rt} (g : t a0 l0 c0 x1 h R) : HC id #[.slice a0 l0 c0, .int .i64 x1] h R :=
  calls_of_den' envOk (c := C) (rs := [.tmp 4, .tmp 5]) Tryz.func56 (by kernel_rfl) (by kernel_rfl) (by kernel_rfl) (args := [.slice a0 l0 c0, .int .i64 x1]) (by kernel_rfl) (D1.ok R _ h (gSlice_intro rfl (gInt_intro rfl (g))))
end nat_Low

namespace nearpi_opposite
noncomputable def C : Code := bodyOf Tryz.f57
def D1.t (R : Rt) (a0 : Option Addr) (l0 : Nat) (c0 : Nat) (h : Hp) : Prop :=
  cond ((((l0 : Nat) : Int)) == 0) (R (.slice none 0 0) h) (HC nearpi_whole.id #[] h fun v1 h2 =>
  gSlice v1 fun a_3 l_3 c_3 =>
  HC nearpi_less.id #[.slice a_3 l_3 c_3, .slice a0 l0 c0, .int .u64 1] h2 fun v4 h5 =>
  gSlice v4 fun a_6 l_6 c_6 =>
  R (.slice a_6 l_6 c_6) h5)
def D1.g (R : Rt) (fr : Fr) (h : Hp) : Prop := gSlice (fr 0) fun a0 l0 c0 => D1.t R a0 l0 c0 h
theorem D1.ok (R : Rt) (fr : Fr) (h : Hp) (g : D1.g R fr h) : den prog E C (retQ E [.tmp 2] R) fr h := by
  obtain ⟨a0, l0, c0, e0, g⟩ := gSlice_elim g
  exact den_enter [(0, .slice a0 l0 c0)] ⟨e0, trivial⟩ (by kernel_rfl) g
def t (a0 : Option Addr) (l0 : Nat) (c0 : Nat) (h : Hp) (R : Rt) : Prop := D1.t R a0 l0 c0 h
theorem ok {a0 : Option Addr} {l0 : Nat} {c0 : Nat} {h : Hp} {R : Rt} (g : t a0 l0 c0 h R) : HC id #[.slice a0 l0 c0] h R :=
  calls_of_den' envOk (c := C) (rs := [.tmp 2]) Tryz.func57 (by kernel_rfl) (by kernel_rfl) (by kernel_rfl) (args := [.slice a0 l0 c0]) (by kernel_rfl) (D1.ok R _ h (gSlice_intro rfl (g)))
end nearpi_opposite

namespace nearpi_ring_least
noncomputable def C : Code := bodyOf Tryz.f58
def L2.g (N : Int → Option Addr → Nat → Nat → Int → Option Addr → Nat → Nat → Int → Option Addr → Nat → Nat → Int → Hp → Prop) (fr : Fr) (h : Hp) : Prop := gInt .u64 (fr 1) fun x1 => gSlice (fr 6) fun a6 l6 c6 => gInt .u64 (fr 7) fun x7 => gSlice (fr 8) fun a8 l8 c8 => gInt .u64 (fr 9) fun x9 => gSlice (fr 10) fun a10 l10 c10 => gInt .u64 (fr 11) fun x11 => N x1 a6 l6 c6 x7 a8 l8 c8 x9 a10 l10 c10 x11 h
def D10.t (R : Rt) (N2 : Int → Option Addr → Nat → Nat → Int → Option Addr → Nat → Nat → Int → Option Addr → Nat → Nat → Int → Hp → Prop) (x1 : Int) (a6 : Option Addr) (l6 : Nat) (c6 : Nat) (x7 : Int) (a8 : Option Addr) (l8 : Nat) (c8 : Nat) (x9 : Int) (a10 : Option Addr) (l10 : Nat) (c10 : Nat) (x11 : Int) (b144 : Bool) (h : Hp) : Prop :=
  cond b144 (R (.tuple #[.int .u64 x7, .slice a6 l6 c6]) h) (N2 x1 a6 l6 c6 x7 a8 l8 c8 x9 a10 l10 c10 x11 h)
def D10.g (R : Rt) (N2 : Int → Option Addr → Nat → Nat → Int → Option Addr → Nat → Nat → Int → Option Addr → Nat → Nat → Int → Hp → Prop) (fr : Fr) (h : Hp) : Prop := gInt .u64 (fr 1) fun x1 => gSlice (fr 6) fun a6 l6 c6 => gInt .u64 (fr 7) fun x7 => gSlice (fr 8) fun a8 l8 c8 => gInt .u64 (fr 9) fun x9 => gSlice (fr 10) fun a10 l10 c10 => gInt .u64 (fr 11) fun x11 => gBool (fr 144) fun b144 => D10.t R N2 x1 a6 l6 c6 x7 a8 l8 c8 x9 a10 l10 c10 x11 b144 h
theorem D10.ok (R : Rt) (N2 : Int → Option Addr → Nat → Nat → Int → Option Addr → Nat → Nat → Int → Option Addr → Nat → Nat → Int → Hp → Prop) (fr : Fr) (h : Hp) (g : D10.g R N2 fr h) : den prog E (cAt C [true, true, true, true, true, false, false, false, true, true, true, true, true, true, true, true, true, true, true]) (Ex.inBlock 1 (Ex.then (L2.g N2) (Ex.inBlock 0 (retQ E [.tmp 4, .tmp 5] R)))) fr h := by
  obtain ⟨x1, e1, g⟩ := gInt_elim g
  obtain ⟨a6, l6, c6, e6, g⟩ := gSlice_elim g
  obtain ⟨x7, e7, g⟩ := gInt_elim g
  obtain ⟨a8, l8, c8, e8, g⟩ := gSlice_elim g
  obtain ⟨x9, e9, g⟩ := gInt_elim g
  obtain ⟨a10, l10, c10, e10, g⟩ := gSlice_elim g
  obtain ⟨x11, e11, g⟩ := gInt_elim g
  obtain ⟨b144, e144, g⟩ := gBool_elim g
  exact den_enter [(1, .int .u64 x1), (6, .slice a6 l6 c6), (7, .int .u64 x7), (8, .slice a8 l8 c8), (9, .int .u64 x9), (10, .slice a10 l10 c10), (11, .int .u64 x11), (144, .bool b144)] ⟨e1, e6, e7, e8, e9, e10, e11, e144, trivial⟩ (by kernel_rfl) g
def D9.t (R : Rt) (N2 : Int → Option Addr → Nat → Nat → Int → Option Addr → Nat → Nat → Int → Option Addr → Nat → Nat → Int → Hp → Prop) (x1 : Int) (a6 : Option Addr) (l6 : Nat) (c6 : Nat) (x7 : Int) (a8 : Option Addr) (l8 : Nat) (c8 : Nat) (x9 : Int) (a10 : Option Addr) (l10 : Nat) (c10 : Nat) (x11 : Int) (x16 : Int) (h : Hp) : Prop :=
  cond (x16 == 0) (R (.tuple #[.int .u64 x7, .slice a6 l6 c6]) h) (HC nearpi_less.id #[.slice a8 l8 c8, .slice a10 l10 c10, .int .u64 x16] h fun v64 h65 =>
  gSlice v64 fun a_66 l_66 c_66 =>
  HC nearpi_add.id #[.int .u64 x9, .int .u64 x16, .int .u64 x11, .int .u64 x1] h65 fun v67 h68 =>
  gInt .u64 v67 fun x_69 =>
  cond ((((l_66 : Nat) : Int)) == 0) (D10.t R N2 x1 a6 l6 c6 x7 a_66 l_66 c_66 x_69 a10 l10 c10 x11 true h68) (D10.t R N2 x1 a6 l6 c6 x7 a_66 l_66 c_66 x_69 a10 l10 c10 x11 (decide (x_69 > x1)) h68))
def D9.g (R : Rt) (N2 : Int → Option Addr → Nat → Nat → Int → Option Addr → Nat → Nat → Int → Option Addr → Nat → Nat → Int → Hp → Prop) (fr : Fr) (h : Hp) : Prop := gInt .u64 (fr 1) fun x1 => gSlice (fr 6) fun a6 l6 c6 => gInt .u64 (fr 7) fun x7 => gSlice (fr 8) fun a8 l8 c8 => gInt .u64 (fr 9) fun x9 => gSlice (fr 10) fun a10 l10 c10 => gInt .u64 (fr 11) fun x11 => gInt .u64 (fr 16) fun x16 => D9.t R N2 x1 a6 l6 c6 x7 a8 l8 c8 x9 a10 l10 c10 x11 x16 h
theorem D9.ok (R : Rt) (N2 : Int → Option Addr → Nat → Nat → Int → Option Addr → Nat → Nat → Int → Option Addr → Nat → Nat → Int → Hp → Prop) (fr : Fr) (h : Hp) (g : D9.g R N2 fr h) : den prog E (cAt C [true, true, true, true, true, false, false, false, true, true, true, true, true, true, true, true]) (Ex.inBlock 1 (Ex.then (L2.g N2) (Ex.inBlock 0 (retQ E [.tmp 4, .tmp 5] R)))) fr h := by
  obtain ⟨x1, e1, g⟩ := gInt_elim g
  obtain ⟨a6, l6, c6, e6, g⟩ := gSlice_elim g
  obtain ⟨x7, e7, g⟩ := gInt_elim g
  obtain ⟨a8, l8, c8, e8, g⟩ := gSlice_elim g
  obtain ⟨x9, e9, g⟩ := gInt_elim g
  obtain ⟨a10, l10, c10, e10, g⟩ := gSlice_elim g
  obtain ⟨x11, e11, g⟩ := gInt_elim g
  obtain ⟨x16, e16, g⟩ := gInt_elim g
  exact den_cut 3 (r := (cAt C [true, true, true, true, true, false, false, false, true, true, true, true, true, true, true, true, true, true, true])) (by kernel_rfl) (D10.ok R N2) (den_enter [(1, .int .u64 x1), (6, .slice a6 l6 c6), (7, .int .u64 x7), (8, .slice a8 l8 c8), (9, .int .u64 x9), (10, .slice a10 l10 c10), (11, .int .u64 x11), (16, .int .u64 x16)] ⟨e1, e6, e7, e8, e9, e10, e11, e16, trivial⟩ (by kernel_rfl) g)
def D8.t (R : Rt) (N2 : Int → Option Addr → Nat → Nat → Int → Option Addr → Nat → Nat → Int → Option Addr → Nat → Nat → Int → Hp → Prop) (x1 : Int) (a6 : Option Addr) (l6 : Nat) (c6 : Nat) (x7 : Int) (a8 : Option Addr) (l8 : Nat) (c8 : Nat) (x9 : Int) (a10 : Option Addr) (l10 : Nat) (c10 : Nat) (x11 : Int) (x16 : Int) (h : Hp) : Prop :=
  HC nearpi_times.id #[.slice a8 l8 c8, .slice a10 l10 c10, .int .u64 x1] h fun v61 h62 =>
  gInt .u64 v61 fun x_63 =>
  cond (decide (x16 > x_63)) (D9.t R N2 x1 a6 l6 c6 x7 a8 l8 c8 x9 a10 l10 c10 x11 x_63 h62) (D9.t R N2 x1 a6 l6 c6 x7 a8 l8 c8 x9 a10 l10 c10 x11 x16 h62)
def D8.g (R : Rt) (N2 : Int → Option Addr → Nat → Nat → Int → Option Addr → Nat → Nat → Int → Option Addr → Nat → Nat → Int → Hp → Prop) (fr : Fr) (h : Hp) : Prop := gInt .u64 (fr 1) fun x1 => gSlice (fr 6) fun a6 l6 c6 => gInt .u64 (fr 7) fun x7 => gSlice (fr 8) fun a8 l8 c8 => gInt .u64 (fr 9) fun x9 => gSlice (fr 10) fun a10 l10 c10 => gInt .u64 (fr 11) fun x11 => gInt .u64 (fr 16) fun x16 => D8.t R N2 x1 a6 l6 c6 x7 a8 l8 c8 x9 a10 l10 c10 x11 x16 h
theorem D8.ok (R : Rt) (N2 : Int → Option Addr → Nat → Nat → Int → Option Addr → Nat → Nat → Int → Option Addr → Nat → Nat → Int → Hp → Prop) (fr : Fr) (h : Hp) (g : D8.g R N2 fr h) : den prog E (cAt C [true, true, true, true, true, false, false, false, true, true, true, true, true, true, true]) (Ex.inBlock 1 (Ex.then (L2.g N2) (Ex.inBlock 0 (retQ E [.tmp 4, .tmp 5] R)))) fr h := by
  obtain ⟨x1, e1, g⟩ := gInt_elim g
  obtain ⟨a6, l6, c6, e6, g⟩ := gSlice_elim g
  obtain ⟨x7, e7, g⟩ := gInt_elim g
  obtain ⟨a8, l8, c8, e8, g⟩ := gSlice_elim g
  obtain ⟨x9, e9, g⟩ := gInt_elim g
  obtain ⟨a10, l10, c10, e10, g⟩ := gSlice_elim g
  obtain ⟨x11, e11, g⟩ := gInt_elim g
  obtain ⟨x16, e16, g⟩ := gInt_elim g
  exact den_cut 1 (r := (cAt C [true, true, true, true, true, false, false, false, true, true, true, true, true, true, true, true])) (by kernel_rfl) (D9.ok R N2) (den_enter [(1, .int .u64 x1), (6, .slice a6 l6 c6), (7, .int .u64 x7), (8, .slice a8 l8 c8), (9, .int .u64 x9), (10, .slice a10 l10 c10), (11, .int .u64 x11), (16, .int .u64 x16)] ⟨e1, e6, e7, e8, e9, e10, e11, e16, trivial⟩ (by kernel_rfl) g)
def D7.t (R : Rt) (N2 : Int → Option Addr → Nat → Nat → Int → Option Addr → Nat → Nat → Int → Option Addr → Nat → Nat → Int → Hp → Prop) (x1 : Int) (a6 : Option Addr) (l6 : Nat) (c6 : Nat) (x7 : Int) (a8 : Option Addr) (l8 : Nat) (c8 : Nat) (x9 : Int) (a10 : Option Addr) (l10 : Nat) (c10 : Nat) (x11 : Int) (h : Hp) : Prop :=
  HC nat_Sub.id #[.slice a8 l8 c8, .slice a6 l6 c6] h fun v40 h41 =>
  gTup v40 fun y42 =>
  uncons y42 fun v43 y43 =>
  gSlice v43 fun a_44 l_44 c_44 =>
  uncons y43 fun v45 y45 =>
  gInt .i64 v45 fun x_46 =>
  unnil y45 <| HC nearpi_times.id #[.slice a_44 l_44 c_44, .slice a10 l10 c10, .int .u64 x1] h41 fun v47 h48 =>
  gInt .u64 v47 fun x_49 =>
  HC nat_MulWord.id #[.slice a10 l10 c10, .int .u64 x_49] h48 fun v50 h51 =>
  gTup v50 fun y52 =>
  uncons y52 fun v53 y53 =>
  gSlice v53 fun a_54 l_54 c_54 =>
  uncons y53 fun v55 y55 =>
  gInt .i64 v55 fun x_56 =>
  unnil y55 <| HC nat_Cmp.id #[.slice a_54 l_54 c_54, .slice a_44 l_44 c_44] h51 fun v57 h58 =>
  gInt .i64 v57 fun x_59 =>
  cond (decide (x_59 < 0)) (letK (IntKind.u64.wrap (x_49 + 1)) fun n60 =>
  D8.t R N2 x1 a6 l6 c6 x7 a8 l8 c8 x9 a10 l10 c10 x11 n60 h58) (D8.t R N2 x1 a6 l6 c6 x7 a8 l8 c8 x9 a10 l10 c10 x11 x_49 h58)
def D7.g (R : Rt) (N2 : Int → Option Addr → Nat → Nat → Int → Option Addr → Nat → Nat → Int → Option Addr → Nat → Nat → Int → Hp → Prop) (fr : Fr) (h : Hp) : Prop := gInt .u64 (fr 1) fun x1 => gSlice (fr 6) fun a6 l6 c6 => gInt .u64 (fr 7) fun x7 => gSlice (fr 8) fun a8 l8 c8 => gInt .u64 (fr 9) fun x9 => gSlice (fr 10) fun a10 l10 c10 => gInt .u64 (fr 11) fun x11 => D7.t R N2 x1 a6 l6 c6 x7 a8 l8 c8 x9 a10 l10 c10 x11 h
theorem D7.ok (R : Rt) (N2 : Int → Option Addr → Nat → Nat → Int → Option Addr → Nat → Nat → Int → Option Addr → Nat → Nat → Int → Hp → Prop) (fr : Fr) (h : Hp) (g : D7.g R N2 fr h) : den prog E (cAt C [true, true, true, true, true, false, false, false, true, true, true, true]) (Ex.inBlock 1 (Ex.then (L2.g N2) (Ex.inBlock 0 (retQ E [.tmp 4, .tmp 5] R)))) fr h := by
  obtain ⟨x1, e1, g⟩ := gInt_elim g
  obtain ⟨a6, l6, c6, e6, g⟩ := gSlice_elim g
  obtain ⟨x7, e7, g⟩ := gInt_elim g
  obtain ⟨a8, l8, c8, e8, g⟩ := gSlice_elim g
  obtain ⟨x9, e9, g⟩ := gInt_elim g
  obtain ⟨a10, l10, c10, e10, g⟩ := gSlice_elim g
  obtain ⟨x11, e11, g⟩ := gInt_elim g
  exact den_cut 3 (r := (cAt C [true, true, true, true, true, false, false, false, true, true, true, true, true, true, true])) (by kernel_rfl) (D8.ok R N2) (den_enter [(1, .int .u64 x1), (6, .slice a6 l6 c6), (7, .int .u64 x7), (8, .slice a8 l8 c8), (9, .int .u64 x9), (10, .slice a10 l10 c10), (11, .int .u64 x11)] ⟨e1, e6, e7, e8, e9, e10, e11, trivial⟩ (by kernel_rfl) g)
def D6.t (R : Rt) (N2 : Int → Option Addr → Nat → Nat → Int → Option Addr → Nat → Nat → Int → Option Addr → Nat → Nat → Int → Hp → Prop) (x1 : Int) (a6 : Option Addr) (l6 : Nat) (c6 : Nat) (x7 : Int) (a8 : Option Addr) (l8 : Nat) (c8 : Nat) (x9 : Int) (a10 : Option Addr) (l10 : Nat) (c10 : Nat) (x11 : Int) (h : Hp) : Prop :=
  cond ((((l10 : Nat) : Int)) == 0) (R (.tuple #[.int .u64 x7, .slice a6 l6 c6]) h) (cond (decide (x11 > x1)) (R (.tuple #[.int .u64 x7, .slice a6 l6 c6]) h) (D7.t R N2 x1 a6 l6 c6 x7 a8 l8 c8 x9 a10 l10 c10 x11 h))
def D6.g (R : Rt) (N2 : Int → Option Addr → Nat → Nat → Int → Option Addr → Nat → Nat → Int → Option Addr → Nat → Nat → Int → Hp → Prop) (fr : Fr) (h : Hp) : Prop := gInt .u64 (fr 1) fun x1 => gSlice (fr 6) fun a6 l6 c6 => gInt .u64 (fr 7) fun x7 => gSlice (fr 8) fun a8 l8 c8 => gInt .u64 (fr 9) fun x9 => gSlice (fr 10) fun a10 l10 c10 => gInt .u64 (fr 11) fun x11 => D6.t R N2 x1 a6 l6 c6 x7 a8 l8 c8 x9 a10 l10 c10 x11 h
theorem D6.ok (R : Rt) (N2 : Int → Option Addr → Nat → Nat → Int → Option Addr → Nat → Nat → Int → Option Addr → Nat → Nat → Int → Hp → Prop) (fr : Fr) (h : Hp) (g : D6.g R N2 fr h) : den prog E (cAt C [true, true, true, true, true, false, false, false, true, true, true]) (Ex.inBlock 1 (Ex.then (L2.g N2) (Ex.inBlock 0 (retQ E [.tmp 4, .tmp 5] R)))) fr h := by
  obtain ⟨x1, e1, g⟩ := gInt_elim g
  obtain ⟨a6, l6, c6, e6, g⟩ := gSlice_elim g
  obtain ⟨x7, e7, g⟩ := gInt_elim g
  obtain ⟨a8, l8, c8, e8, g⟩ := gSlice_elim g
  obtain ⟨x9, e9, g⟩ := gInt_elim g
  obtain ⟨a10, l10, c10, e10, g⟩ := gSlice_elim g
  obtain ⟨x11, e11, g⟩ := gInt_elim g
  exact den_cut 1 (r := (cAt C [true, true, true, true, true, false, false, false, true, true, true, true])) (by kernel_rfl) (D7.ok R N2) (den_enter [(1, .int .u64 x1), (6, .slice a6 l6 c6), (7, .int .u64 x7), (8, .slice a8 l8 c8), (9, .int .u64 x9), (10, .slice a10 l10 c10), (11, .int .u64 x11)] ⟨e1, e6, e7, e8, e9, e10, e11, trivial⟩ (by kernel_rfl) g)
def D5.t (R : Rt) (N2 : Int → Option Addr → Nat → Nat → Int → Option Addr → Nat → Nat → Int → Option Addr → Nat → Nat → Int → Hp → Prop) (x1 : Int) (a6 : Option Addr) (l6 : Nat) (c6 : Nat) (x7 : Int) (a8 : Option Addr) (l8 : Nat) (c8 : Nat) (x9 : Int) (a10 : Option Addr) (l10 : Nat) (c10 : Nat) (x11 : Int) (h : Hp) : Prop :=
  HC nearpi_times.id #[.slice a10 l10 c10, .slice a8 l8 c8, .int .u64 x1] h fun v31 h32 =>
  gInt .u64 v31 fun x_33 =>
  cond (decide (x_33 > 0)) (HC nearpi_less.id #[.slice a10 l10 c10, .slice a8 l8 c8, .int .u64 x_33] h32 fun v34 h35 =>
  gSlice v34 fun a_36 l_36 c_36 =>
  HC nearpi_add.id #[.int .u64 x11, .int .u64 x_33, .int .u64 x9, .int .u64 x1] h35 fun v37 h38 =>
  gInt .u64 v37 fun x_39 =>
  D6.t R N2 x1 a6 l6 c6 x7 a8 l8 c8 x9 a_36 l_36 c_36 x_39 h38) (D6.t R N2 x1 a6 l6 c6 x7 a8 l8 c8 x9 a10 l10 c10 x11 h32)
def D5.g (R : Rt) (N2 : Int → Option Addr → Nat → Nat → Int → Option Addr → Nat → Nat → Int → Option Addr → Nat → Nat → Int → Hp → Prop) (fr : Fr) (h : Hp) : Prop := gInt .u64 (fr 1) fun x1 => gSlice (fr 6) fun a6 l6 c6 => gInt .u64 (fr 7) fun x7 => gSlice (fr 8) fun a8 l8 c8 => gInt .u64 (fr 9) fun x9 => gSlice (fr 10) fun a10 l10 c10 => gInt .u64 (fr 11) fun x11 => D5.t R N2 x1 a6 l6 c6 x7 a8 l8 c8 x9 a10 l10 c10 x11 h
theorem D5.ok (R : Rt) (N2 : Int → Option Addr → Nat → Nat → Int → Option Addr → Nat → Nat → Int → Option Addr → Nat → Nat → Int → Hp → Prop) (fr : Fr) (h : Hp) (g : D5.g R N2 fr h) : den prog E (cAt C [true, true, true, true, true, false, false, false, true, true]) (Ex.inBlock 1 (Ex.then (L2.g N2) (Ex.inBlock 0 (retQ E [.tmp 4, .tmp 5] R)))) fr h := by
  obtain ⟨x1, e1, g⟩ := gInt_elim g
  obtain ⟨a6, l6, c6, e6, g⟩ := gSlice_elim g
  obtain ⟨x7, e7, g⟩ := gInt_elim g
  obtain ⟨a8, l8, c8, e8, g⟩ := gSlice_elim g
  obtain ⟨x9, e9, g⟩ := gInt_elim g
  obtain ⟨a10, l10, c10, e10, g⟩ := gSlice_elim g
  obtain ⟨x11, e11, g⟩ := gInt_elim g
  exact den_cut 1 (r := (cAt C [true, true, true, true, true, false, false, false, true, true, true])) (by kernel_rfl) (D6.ok R N2) (den_enter [(1, .int .u64 x1), (6, .slice a6 l6 c6), (7, .int .u64 x7), (8, .slice a8 l8 c8), (9, .int .u64 x9), (10, .slice a10 l10 c10), (11, .int .u64 x11)] ⟨e1, e6, e7, e8, e9, e10, e11, trivial⟩ (by kernel_rfl) g)
def D4.t (R : Rt) (N2 : Int → Option Addr → Nat → Nat → Int → Option Addr → Nat → Nat → Int → Option Addr → Nat → Nat → Int → Hp → Prop) (x1 : Int) (a6 : Option Addr) (l6 : Nat) (c6 : Nat) (x7 : Int) (a8 : Option Addr) (l8 : Nat) (c8 : Nat) (x9 : Int) (a10 : Option Addr) (l10 : Nat) (c10 : Nat) (x11 : Int) (h : Hp) : Prop :=
  letK (IntKind.u64.wrap (x7 + x9)) fun n26 =>
  letK (IntKind.u64.wrap (x1 - 1)) fun n27 =>
  cond (decide (n26 > n27)) (R (.tuple #[.int .u64 x7, .slice a6 l6 c6]) h) (cond ((((l6 : Nat) : Int)) == 0) (R (.tuple #[.int .u64 x7, .slice a6 l6 c6]) h) (HC nat_Cmp.id #[.slice a8 l8 c8, .slice a6 l6 c6] h fun v28 h29 =>
  gInt .i64 v28 fun x_30 =>
  cond (decide (x_30 ≤ 0)) (R (.tuple #[.int .u64 x7, .slice a6 l6 c6]) h29) (D5.t R N2 x1 a6 l6 c6 x7 a8 l8 c8 x9 a10 l10 c10 x11 h29)))
def D4.g (R : Rt) (N2 : Int → Option Addr → Nat → Nat → Int → Option Addr → Nat → Nat → Int → Option Addr → Nat → Nat → Int → Hp → Prop) (fr : Fr) (h : Hp) : Prop := gInt .u64 (fr 1) fun x1 => gSlice (fr 6) fun a6 l6 c6 => gInt .u64 (fr 7) fun x7 => gSlice (fr 8) fun a8 l8 c8 => gInt .u64 (fr 9) fun x9 => gSlice (fr 10) fun a10 l10 c10 => gInt .u64 (fr 11) fun x11 => D4.t R N2 x1 a6 l6 c6 x7 a8 l8 c8 x9 a10 l10 c10 x11 h
theorem D4.ok (R : Rt) (N2 : Int → Option Addr → Nat → Nat → Int → Option Addr → Nat → Nat → Int → Option Addr → Nat → Nat → Int → Hp → Prop) (fr : Fr) (h : Hp) (g : D4.g R N2 fr h) : den prog E (cAt C [true, true, true, true, true, false, false, false, true]) (Ex.inBlock 1 (Ex.then (L2.g N2) (Ex.inBlock 0 (retQ E [.tmp 4, .tmp 5] R)))) fr h := by
  obtain ⟨x1, e1, g⟩ := gInt_elim g
  obtain ⟨a6, l6, c6, e6, g⟩ := gSlice_elim g
  obtain ⟨x7, e7, g⟩ := gInt_elim g
  obtain ⟨a8, l8, c8, e8, g⟩ := gSlice_elim g
  obtain ⟨x9, e9, g⟩ := gInt_elim g
  obtain ⟨a10, l10, c10, e10, g⟩ := gSlice_elim g
  obtain ⟨x11, e11, g⟩ := gInt_elim g
  exact den_cut 1 (r := (cAt C [true, true, true, true, true, false, false, false, true, true])) (by kernel_rfl) (D5.ok R N2) (den_enter [(1, .int .u64 x1), (6, .slice a6 l6 c6), (7, .int .u64 x7), (8, .slice a8 l8 c8), (9, .int .u64 x9), (10, .slice a10 l10 c10), (11, .int .u64 x11)] ⟨e1, e6, e7, e8, e9, e10, e11, trivial⟩ (by kernel_rfl) g)
def D3.t (R : Rt) (N2 : Int → Option Addr → Nat → Nat → Int → Option Addr → Nat → Nat → Int → Option Addr → Nat → Nat → Int → Hp → Prop) (x1 : Int) (a6 : Option Addr) (l6 : Nat) (c6 : Nat) (x7 : Int) (a8 : Option Addr) (l8 : Nat) (c8 : Nat) (x9 : Int) (a10 : Option Addr) (l10 : Nat) (c10 : Nat) (x11 : Int) (h : Hp) : Prop :=
  HC nearpi_times.id #[.slice a6 l6 c6, .slice a8 l8 c8, .int .u64 x1] h fun v15 h16 =>
  gInt .u64 v15 fun x_17 =>
  letK (IntKind.u64.wrap (x1 - 1)) fun n18 =>
  letK (IntKind.u64.wrap (n18 - x7)) fun n19 =>
  x9 ≠ 0 ∧ letK (IntKind.u64.wrap (Int.tdiv n19 x9)) fun n20 =>
  cond (decide ((if n20 < x_17 then n20 else x_17) > 0)) (HC nearpi_less.id #[.slice a6 l6 c6, .slice a8 l8 c8, .int .u64 (if n20 < x_17 then n20 else x_17)] h16 fun v21 h22 =>
  gSlice v21 fun a_23 l_23 c_23 =>
  letK (IntKind.u64.wrap ((if n20 < x_17 then n20 else x_17) * x9)) fun n24 =>
  letK (IntKind.u64.wrap (x7 + n24)) fun n25 =>
  D4.t R N2 x1 a_23 l_23 c_23 n25 a8 l8 c8 x9 a10 l10 c10 x11 h22) (D4.t R N2 x1 a6 l6 c6 x7 a8 l8 c8 x9 a10 l10 c10 x11 h16)
def D3.g (R : Rt) (N2 : Int → Option Addr → Nat → Nat → Int → Option Addr → Nat → Nat → Int → Option Addr → Nat → Nat → Int → Hp → Prop) (fr : Fr) (h : Hp) : Prop := gInt .u64 (fr 1) fun x1 => gSlice (fr 6) fun a6 l6 c6 => gInt .u64 (fr 7) fun x7 => gSlice (fr 8) fun a8 l8 c8 => gInt .u64 (fr 9) fun x9 => gSlice (fr 10) fun a10 l10 c10 => gInt .u64 (fr 11) fun x11 => D3.t R N2 x1 a6 l6 c6 x7 a8 l8 c8 x9 a10 l10 c10 x11 h
theorem D3.ok (R : Rt) (N2 : Int → Option Addr → Nat → Nat → Int → Option Addr → Nat → Nat → Int → Option Addr → Nat → Nat → Int → Hp → Prop) (fr : Fr) (h : Hp) (g : D3.g R N2 fr h) : den prog E (cAt C [true, true, true, true, true, false, false, false]) (Ex.inBlock 1 (Ex.then (L2.g N2) (Ex.inBlock 0 (retQ E [.tmp 4, .tmp 5] R)))) fr h := by
  obtain ⟨x1, e1, g⟩ := gInt_elim g
  obtain ⟨a6, l6, c6, e6, g⟩ := gSlice_elim g
  obtain ⟨x7, e7, g⟩ := gInt_elim g
  obtain ⟨a8, l8, c8, e8, g⟩ := gSlice_elim g
  obtain ⟨x9, e9, g⟩ := gInt_elim g
  obtain ⟨a10, l10, c10, e10, g⟩ := gSlice_elim g
  obtain ⟨x11, e11, g⟩ := gInt_elim g
  exact den_cut 1 (r := (cAt C [true, true, true, true, true, false, false, false, true])) (by kernel_rfl) (D4.ok R N2) (den_enter [(1, .int .u64 x1), (6, .slice a6 l6 c6), (7, .int .u64 x7), (8, .slice a8 l8 c8), (9, .int .u64 x9), (10, .slice a10 l10 c10), (11, .int .u64 x11)] ⟨e1, e6, e7, e8, e9, e10, e11, trivial⟩ (by kernel_rfl) g)
theorem B11.ok (R : Rt) (N2 : Int → Option Addr → Nat → Nat → Int → Option Addr → Nat → Nat → Int → Option Addr → Nat → Nat → Int → Hp → Prop) (fr : Fr) (h : Hp) (g : D3.g R N2 fr h) : den prog E (cAt C [true, true, true, true, true, false, false]) (Ex.then (L2.g N2) (Ex.inBlock 0 (retQ E [.tmp 4, .tmp 5] R))) fr h :=
  den_block (by kernel_rfl) (D3.ok R N2 fr h g)
def L2.t (R : Rt) : Nat → Int → Option Addr → Nat → Nat → Int → Option Addr → Nat → Nat → Int → Option Addr → Nat → Nat → Int → Hp → Prop
  | 0 => fun _ _ _ _ _ _ _ _ _ _ _ _ _ _ => False
  | n + 1 => fun x1 a6 l6 c6 x7 a8 l8 c8 x9 a10 l10 c10 x11 h => D3.t R (L2.t R n) x1 a6 l6 c6 x7 a8 l8 c8 x9 a10 l10 c10 x11 h
theorem L2.ok (R : Rt) (fr : Fr) (h : Hp) (g : L2.g (fun x1 a6 l6 c6 x7 a8 l8 c8 x9 a10 l10 c10 x11 h => ∃ n, L2.t R n x1 a6 l6 c6 x7 a8 l8 c8 x9 a10 l10 c10 x11 h) fr h) : den prog E (cAt C [true, true, true, true, true, false]) (Ex.inBlock 0 (retQ E [.tmp 4, .tmp 5] R)) fr h := by
  obtain ⟨x1, e1, g⟩ := gInt_elim g
  obtain ⟨a6, l6, c6, e6, g⟩ := gSlice_elim g
  obtain ⟨x7, e7, g⟩ := gInt_elim g
  obtain ⟨a8, l8, c8, e8, g⟩ := gSlice_elim g
  obtain ⟨x9, e9, g⟩ := gInt_elim g
  obtain ⟨a10, l10, c10, e10, g⟩ := gSlice_elim g
  obtain ⟨x11, e11, g⟩ := gInt_elim g
  obtain ⟨n, g⟩ := g
  refine loop_ok (fun n => L2.g (L2.t R n)) (b := (cAt C [true, true, true, true, true, false, false])) (by kernel_rfl) (fun fr h g => ?_) (fun n => B11.ok R (L2.t R n)) n fr h (gInt_intro e1 (gSlice_intro e6 (gInt_intro e7 (gSlice_intro e8 (gInt_intro e9 (gSlice_intro e10 (gInt_intro e11 (g))))))))
  obtain ⟨x1, e1, g⟩ := gInt_elim g
  obtain ⟨a6, l6, c6, e6, g⟩ := gSlice_elim g
  obtain ⟨x7, e7, g⟩ := gInt_elim g
  obtain ⟨a8, l8, c8, e8, g⟩ := gSlice_elim g
  obtain ⟨x9, e9, g⟩ := gInt_elim g
  obtain ⟨a10, l10, c10, e10, g⟩ := gSlice_elim g
  obtain ⟨x11, e11, g⟩ := gInt_elim g
  exact g
theorem B12.ok (R : Rt) (fr : Fr) (h : Hp) (g : L2.g (fun x1 a6 l6 c6 x7 a8 l8 c8 x9 a10 l10 c10 x11 h => ∃ n, L2.t R n x1 a6 l6 c6 x7 a8 l8 c8 x9 a10 l10 c10 x11 h) fr h) : den prog E (cAt C [true, true, true, true, true]) (retQ E [.tmp 4, .tmp 5] R) fr h :=
  den_block (by kernel_rfl) (L2.ok R fr h g)
def D1.t (R : Rt) (a0_0 : Option Addr) (l0_0 : Nat) (c0_0 : Nat) (a0_1 : Option Addr) (l0_1 : Nat) (c0_1 : Nat) (x1 : Int) (h : Hp) : Prop :=
  boxK h 99 [.slice a0_0 l0_0 c0_0, .slice a0_1 l0_1 c0_1] fun q1 h2 =>
  ldK h2 (q1.add 0) fun v3 =>
  gSlice v3 fun a_4 l_4 c_4 =>
  HC nearpi_whole.id #[] h2 fun v5 h6 =>
  gSlice v5 fun a_7 l_7 c_7 =>
  (Pre h2.size h2 h6) ∧ (q1.add 1).block < h2.size ∧ ldK h6 (q1.add 1) fun v8 =>
  gSlice v8 fun a_9 l_9 c_9 =>
  HC nearpi_less.id #[.slice a_7 l_7 c_7, .slice a_9 l_9 c_9, .int .u64 1] h6 fun v10 h11 =>
  gSlice v10 fun a_12 l_12 c_12 =>
  (Pre h2.size h6 h11) ∧ ldK h11 (q1.add 1) fun v13 =>
  gSlice v13 fun a_14 l_14 c_14 =>
  (∃ n, L2.t R n x1 a_4 l_4 c_4 0 a_12 l_12 c_12 1 a_14 l_14 c_14 1 h11)
def D1.g (R : Rt) (fr : Fr) (h : Hp) : Prop := gAgg (fr 0) fun z0 => uncons z0 fun w0_0 z0_0 => gSlice w0_0 fun a0_0 l0_0 c0_0 => uncons z0_0 fun w0_1 z0_1 => gSlice w0_1 fun a0_1 l0_1 c0_1 => unnil z0_1 <| gInt .u64 (fr 1) fun x1 => D1.t R a0_0 l0_0 c0_0 a0_1 l0_1 c0_1 x1 h
theorem D1.ok (R : Rt) (fr : Fr) (h : Hp) (g : D1.g R fr h) : den prog E C (retQ E [.tmp 4, .tmp 5] R) fr h := by
  obtain ⟨z0, e0, g0_0⟩ := gAgg_elim' g
  obtain ⟨w0_0, z0_0, rfl, g0_0x⟩ := uncons_elim g0_0
  obtain ⟨a0_0, l0_0, c0_0, rfl, g0_1⟩ := gSlice_elim g0_0x
  obtain ⟨w0_1, z0_1, rfl, g0_1x⟩ := uncons_elim g0_1
  obtain ⟨a0_1, l0_1, c0_1, rfl, g0_2⟩ := gSlice_elim g0_1x
  obtain ⟨rfl, g⟩ := unnil_elim g0_2
  obtain ⟨x1, e1, g⟩ := gInt_elim g
  exact den_cut 5 (r := (cAt C [true, true, true, true, true])) (by kernel_rfl) (B12.ok R) (den_enter [(0, .agg #[.slice a0_0 l0_0 c0_0, .slice a0_1 l0_1 c0_1]), (1, .int .u64 x1)] ⟨e0, e1, trivial⟩ (by kernel_rfl) g)
def t (a0_0 : Option Addr) (l0_0 : Nat) (c0_0 : Nat) (a0_1 : Option Addr) (l0_1 : Nat) (c0_1 : Nat) (x1 : Int) (h : Hp) (R : Rt) : Prop := D1.t R a0_0 l0_0 c0_0 a0_1 l0_1 c0_1 x1 h
theorem ok {a0_0 : Option Addr} {l0_0 : Nat} {c0_0 : Nat} {a0_1 : Option Addr} {l0_1 : Nat} {c0_1 : Nat} {x1 : Int} {h : Hp} {R : Rt} (g : t a0_0 l0_0 c0_0 a0_1 l0_1 c0_1 x1 h R) : HC id #[.agg #[.slice a0_0 l0_0 c0_0, .slice a0_1 l0_1 c0_1], .int .u64 x1] h R :=
  calls_of_den' envOk (c := C) (rs := [.tmp 4, .tmp 5]) Tryz.func58 (by kernel_rfl) (by kernel_rfl) (by kernel_rfl) (args := [.agg #[.slice a0_0 l0_0 c0_0, .slice a0_1 l0_1 c0_1], .int .u64 x1]) (by kernel_rfl) (D1.ok R _ h (gAgg_intro rfl (uncons_intro (gSlice_intro rfl (uncons_intro (gSlice_intro rfl (unnil_intro (gInt_intro rfl (g)))))))))
end nearpi_ring_least

namespace nat_trim
noncomputable def C : Code := bodyOf Tryz.f59
def D2.t (R : Rt) (a0 : Option Addr) (l0 : Nat) (c0 : Nat) (x3 : Int) (h : Hp) : Prop :=
  slK 1 a0 l0 c0 none (some (.int .i64 x3)) none fun a_1 l_1 c_1 => R (.slice a_1 l_1 c_1) h
def D2.g (R : Rt) (fr : Fr) (h : Hp) : Prop := gSlice (fr 0) fun a0 l0 c0 => gInt .i64 (fr 3) fun x3 => D2.t R a0 l0 c0 x3 h
theorem D2.ok (R : Rt) (fr : Fr) (h : Hp) (g : D2.g R fr h) : den prog E (cAt C [true, true, true]) (retQ E [.tmp 2] R) fr h := by
  obtain ⟨a0, l0, c0, e0, g⟩ := gSlice_elim g
  obtain ⟨x3, e3, g⟩ := gInt_elim g
  exact den_enter [(0, .slice a0 l0 c0), (3, .int .i64 x3)] ⟨e0, e3, trivial⟩ (by kernel_rfl) g
def L3.g (N : Option Addr → Nat → Nat → Int → Hp → Prop) (fr : Fr) (h : Hp) : Prop := gSlice (fr 0) fun a0 l0 c0 => gInt .i64 (fr 3) fun x3 => N a0 l0 c0 x3 h
def D4.t (R : Rt) (N3 : Option Addr → Nat → Nat → Int → Hp → Prop) (a0 : Option Addr) (l0 : Nat) (c0 : Nat) (x3 : Int) (h : Hp) : Prop :=
  cond (decide (x3 > 0)) (letK (IntKind.i64.wrap (x3 - 1)) fun n2 =>
  idxK a0 l0 n2 1 fun q3 =>
  ldK h q3 fun v4 =>
  gInt .u64 v4 fun x_5 =>
  cond (x_5 == 0) (letK (IntKind.i64.wrap (x3 - 1)) fun n6 =>
  N3 a0 l0 c0 n6 h) (D2.t R a0 l0 c0 x3 h)) (D2.t R a0 l0 c0 x3 h)
def D4.g (R : Rt) (N3 : Option Addr → Nat → Nat → Int → Hp → Prop) (fr : Fr) (h : Hp) : Prop := gSlice (fr 0) fun a0 l0 c0 => gInt .i64 (fr 3) fun x3 => D4.t R N3 a0 l0 c0 x3 h
theorem D4.ok (R : Rt) (N3 : Option Addr → Nat → Nat → Int → Hp → Prop) (fr : Fr) (h : Hp) (g : D4.g R N3 fr h) : den prog E (cAt C [true, true, false, false, false]) (Ex.then (L3.g N3) (Ex.inBlock 0 (Ex.then (D2.g R) (retQ E [.tmp 2] R)))) fr h := by
  obtain ⟨a0, l0, c0, e0, g⟩ := gSlice_elim g
  obtain ⟨x3, e3, g⟩ := gInt_elim g
  exact den_enter [(0, .slice a0 l0 c0), (3, .int .i64 x3)] ⟨e0, e3, trivial⟩ (by kernel_rfl) g
def L3.t (R : Rt) : Nat → Option Addr → Nat → Nat → Int → Hp → Prop
  | 0 => fun _ _ _ _ _ => False
  | n + 1 => fun a0 l0 c0 x3 h => D4.t R (L3.t R n) a0 l0 c0 x3 h
theorem L3.ok (R : Rt) (fr : Fr) (h : Hp) (g : L3.g (fun a0 l0 c0 x3 h => ∃ n, L3.t R n a0 l0 c0 x3 h) fr h) : den prog E (cAt C [true, true, false, false]) (Ex.inBlock 0 (Ex.then (D2.g R) (retQ E [.tmp 2] R))) fr h := by
  obtain ⟨a0, l0, c0, e0, g⟩ := gSlice_elim g
  obtain ⟨x3, e3, g⟩ := gInt_elim g
  obtain ⟨n, g⟩ := g
  refine loop_ok (fun n => L3.g (L3.t R n)) (b := (cAt C [true, true, false, false, false])) (by kernel_rfl) (fun fr h g => ?_) (fun n => D4.ok R (L3.t R n)) n fr h (gSlice_intro e0 (gInt_intro e3 (g)))
  obtain ⟨a0, l0, c0, e0, g⟩ := gSlice_elim g
  obtain ⟨x3, e3, g⟩ := gInt_elim g
  exact g
theorem B5.ok (R : Rt) (fr : Fr) (h : Hp) (g : L3.g (fun a0 l0 c0 x3 h => ∃ n, L3.t R n a0 l0 c0 x3 h) fr h) : den prog E (cAt C [true, true, false]) (Ex.then (D2.g R) (retQ E [.tmp 2] R)) fr h :=
  den_block (by kernel_rfl) (L3.ok R fr h g)
theorem W6.ok (R : Rt) (fr : Fr) (h : Hp) (g : L3.g (fun a0 l0 c0 x3 h => ∃ n, L3.t R n a0 l0 c0 x3 h) fr h) : den prog E (cAt C [true, true]) (retQ E [.tmp 2] R) fr h :=
  den_then (by kernel_rfl) (D2.ok R) (B5.ok R fr h g)
def D1.t (R : Rt) (a0 : Option Addr) (l0 : Nat) (c0 : Nat) (h : Hp) : Prop :=
  (∃ n, L3.t R n a0 l0 c0 (((l0 : Nat) : Int)) h)
def D1.g (R : Rt) (fr : Fr) (h : Hp) : Prop := gSlice (fr 0) fun a0 l0 c0 => D1.t R a0 l0 c0 h
theorem D1.ok (R : Rt) (fr : Fr) (h : Hp) (g : D1.g R fr h) : den prog E C (retQ E [.tmp 2] R) fr h := by
  obtain ⟨a0, l0, c0, e0, g⟩ := gSlice_elim g
  exact den_cut 2 (r := (cAt C [true, true])) (by kernel_rfl) (W6.ok R) (den_enter [(0, .slice a0 l0 c0)] ⟨e0, trivial⟩ (by kernel_rfl) g)
def t (a0 : Option Addr) (l0 : Nat) (c0 : Nat) (h : Hp) (R : Rt) : Prop := D1.t R a0 l0 c0 h
theorem ok {a0 : Option Addr} {l0 : Nat} {c0 : Nat} {h : Hp} {R : Rt} (g : t a0 l0 c0 h R) : HC id #[.slice a0 l0 c0] h R :=
  calls_of_den' envOk (c := C) (rs := [.tmp 2]) Tryz.func59 (by kernel_rfl) (by kernel_rfl) (by kernel_rfl) (args := [.slice a0 l0 c0]) (by kernel_rfl) (D1.ok R _ h (gSlice_intro rfl (g)))
end nat_trim

namespace nat_Shr
noncomputable def C : Code := bodyOf Tryz.f60
def D2.t (R : Rt) (a8 : Option Addr) (l8 : Nat) (c8 : Nat) (h : Hp) : Prop :=
  HC nat_told.id #[.slice a8 l8 c8] h fun v9 h10 =>
  gTup v9 fun y11 =>
  uncons y11 fun v12 y12 =>
  gSlice v12 fun a_13 l_13 c_13 =>
  uncons y12 fun v14 y14 =>
  gInt .i64 v14 fun x_15 =>
  unnil y14 <| R (.tuple #[.slice a_13 l_13 c_13, .int .i64 x_15]) h10
def D2.g (R : Rt) (fr : Fr) (h : Hp) : Prop := gSlice (fr 8) fun a8 l8 c8 => D2.t R a8 l8 c8 h
theorem D2.ok (R : Rt) (fr : Fr) (h : Hp) (g : D2.g R fr h) : den prog E (cAt C [true, true, true, true, true, true, true]) (retQ E [.tmp 4, .tmp 5] R) fr h := by
  obtain ⟨a8, l8, c8, e8, g⟩ := gSlice_elim g
  exact den_enter [(8, .slice a8 l8 c8)] ⟨e8, trivial⟩ (by kernel_rfl) g
def L4.g (N : Option Addr → Nat → Nat → Int → Int → Option Addr → Nat → Nat → Int → Int → Hp → Prop) (fr : Fr) (h : Hp) : Prop := gSlice (fr 0) fun a0 l0 c0 => gInt .i64 (fr 6) fun x6 => gInt .i64 (fr 7) fun x7 => gSlice (fr 8) fun a8 l8 c8 => gInt .i64 (fr 29) fun x29 => gInt .i64 (fr 30) fun x30 => N a0 l0 c0 x6 x7 a8 l8 c8 x29 x30 h
def D5.t (R : Rt) (N4 : Option Addr → Nat → Nat → Int → Int → Option Addr → Nat → Nat → Int → Int → Hp → Prop) (a0 : Option Addr) (l0 : Nat) (c0 : Nat) (x6 : Int) (x7 : Int) (a8 : Option Addr) (l8 : Nat) (c8 : Nat) (x29 : Int) (x30 : Int) (h : Hp) : Prop :=
  cond (decide (x30 < x29)) (letK (IntKind.i64.wrap (x6 + x30)) fun n16 =>
  idxK a0 l0 n16 1 fun q17 =>
  ldK h q17 fun v18 =>
  gInt .u64 v18 fun x_19 =>
  0 ≤ x7 ∧ letK (shrI .u64 x_19 x7) fun n20 =>
  idxK a8 l8 x30 1 fun q21 =>
  stK h q21 (.int .u64 n20) fun h22 =>
  letK (IntKind.i64.wrap (x6 + x30)) fun n23 =>
  letK (IntKind.i64.wrap (n23 + 1)) fun n24 =>
  cond (decide (n24 < (((l0 : Nat) : Int)))) (idxK a8 l8 x30 1 fun q25 =>
  ldK h22 q25 fun v26 =>
  gInt .u64 v26 fun x_27 =>
  letK (IntKind.i64.wrap (x6 + x30)) fun n28 =>
  letK (IntKind.i64.wrap (n28 + 1)) fun n29 =>
  idxK a0 l0 n29 1 fun q30 =>
  ldK h22 q30 fun v31 =>
  gInt .u64 v31 fun x_32 =>
  0 ≤ (1 : Int) ∧ letK (shlI .u64 x_32 1) fun n33 =>
  letK (IntKind.i64.wrap (63 - x7)) fun n34 =>
  0 ≤ n34 ∧ letK (shlI .u64 n33 n34) fun n35 =>
  letK (orI .u64 x_27 n35) fun n36 =>
  idxK a8 l8 x30 1 fun q37 =>
  stK h22 q37 (.int .u64 n36) fun h38 =>
  letK (IntKind.i64.wrap (x30 + 1)) fun n39 =>
  N4 a0 l0 c0 x6 x7 a8 l8 c8 x29 n39 h38) (letK (IntKind.i64.wrap (x30 + 1)) fun n40 =>
  N4 a0 l0 c0 x6 x7 a8 l8 c8 x29 n40 h22)) (D2.t R a8 l8 c8 h)
def D5.g (R : Rt) (N4 : Option Addr → Nat → Nat → Int → Int → Option Addr → Nat → Nat → Int → Int → Hp → Prop) (fr : Fr) (h : Hp) : Prop := gSlice (fr 0) fun a0 l0 c0 => gInt .i64 (fr 6) fun x6 => gInt .i64 (fr 7) fun x7 => gSlice (fr 8) fun a8 l8 c8 => gInt .i64 (fr 29) fun x29 => gInt .i64 (fr 30) fun x30 => D5.t R N4 a0 l0 c0 x6 x7 a8 l8 c8 x29 x30 h
theorem D5.ok (R : Rt) (N4 : Option Addr → Nat → Nat → Int → Int → Option Addr → Nat → Nat → Int → Int → Hp → Prop) (fr : Fr) (h : Hp) (g : D5.g R N4 fr h) : den prog E (cAt C [true, true, true, true, true, true, false, true, false, false]) (Ex.then (L4.g N4) (Ex.inBlock 0 (Ex.then (D2.g R) (retQ E [.tmp 4, .tmp 5] R)))) fr h := by
  obtain ⟨a0, l0, c0, e0, g⟩ := gSlice_elim g
  obtain ⟨x6, e6, g⟩ := gInt_elim g
  obtain ⟨x7, e7, g⟩ := gInt_elim g
  obtain ⟨a8, l8, c8, e8, g⟩ := gSlice_elim g
  obtain ⟨x29, e29, g⟩ := gInt_elim g
  obtain ⟨x30, e30, g⟩ := gInt_elim g
  exact den_enter [(0, .slice a0 l0 c0), (6, .int .i64 x6), (7, .int .i64 x7), (8, .slice a8 l8 c8), (29, .int .i64 x29), (30, .int .i64 x30)] ⟨e0, e6, e7, e8, e29, e30, trivial⟩ (by kernel_rfl) g
def L4.t (R : Rt) : Nat → Option Addr → Nat → Nat → Int → Int → Option Addr → Nat → Nat → Int → Int → Hp → Prop
  | 0 => fun _ _ _ _ _ _ _ _ _ _ _ => False
  | n + 1 => fun a0 l0 c0 x6 x7 a8 l8 c8 x29 x30 h => D5.t R (L4.t R n) a0 l0 c0 x6 x7 a8 l8 c8 x29 x30 h
theorem L4.ok (R : Rt) (fr : Fr) (h : Hp) (g : L4.g (fun a0 l0 c0 x6 x7 a8 l8 c8 x29 x30 h => ∃ n, L4.t R n a0 l0 c0 x6 x7 a8 l8 c8 x29 x30 h) fr h) : den prog E (cAt C [true, true, true, true, true, true, false, true, false]) (Ex.inBlock 0 (Ex.then (D2.g R) (retQ E [.tmp 4, .tmp 5] R))) fr h := by
  obtain ⟨a0, l0, c0, e0, g⟩ := gSlice_elim g
  obtain ⟨x6, e6, g⟩ := gInt_elim g
  obtain ⟨x7, e7, g⟩ := gInt_elim g
  obtain ⟨a8, l8, c8, e8, g⟩ := gSlice_elim g
  obtain ⟨x29, e29, g⟩ := gInt_elim g
  obtain ⟨x30, e30, g⟩ := gInt_elim g
  obtain ⟨n, g⟩ := g
  refine loop_ok (fun n => L4.g (L4.t R n)) (b := (cAt C [true, true, true, true, true, true, false, true, false, false])) (by kernel_rfl) (fun fr h g => ?_) (fun n => D5.ok R (L4.t R n)) n fr h (gSlice_intro e0 (gInt_intro e6 (gInt_intro e7 (gSlice_intro e8 (gInt_intro e29 (gInt_intro e30 (g)))))))
  obtain ⟨a0, l0, c0, e0, g⟩ := gSlice_elim g
  obtain ⟨x6, e6, g⟩ := gInt_elim g
  obtain ⟨x7, e7, g⟩ := gInt_elim g
  obtain ⟨a8, l8, c8, e8, g⟩ := gSlice_elim g
  obtain ⟨x29, e29, g⟩ := gInt_elim g
  obtain ⟨x30, e30, g⟩ := gInt_elim g
  exact g
theorem B6.ok (R : Rt) (fr : Fr) (h : Hp) (g : L4.g (fun a0 l0 c0 x6 x7 a8 l8 c8 x29 x30 h => ∃ n, L4.t R n a0 l0 c0 x6 x7 a8 l8 c8 x29 x30 h) fr h) : den prog E (cAt C [true, true, true, true, true, true, false, true]) (Ex.then (D2.g R) (retQ E [.tmp 4, .tmp 5] R)) fr h :=
  den_block (by kernel_rfl) (L4.ok R fr h g)
def D3.t (R : Rt) (a0 : Option Addr) (l0 : Nat) (c0 : Nat) (x6 : Int) (x7 : Int) (a8 : Option Addr) (l8 : Nat) (c8 : Nat) (h : Hp) : Prop :=
  (∃ n, L4.t R n a0 l0 c0 x6 x7 a8 l8 c8 (((l8 : Nat) : Int)) 0 h)
def D3.g (R : Rt) (fr : Fr) (h : Hp) : Prop := gSlice (fr 0) fun a0 l0 c0 => gInt .i64 (fr 6) fun x6 => gInt .i64 (fr 7) fun x7 => gSlice (fr 8) fun a8 l8 c8 => D3.t R a0 l0 c0 x6 x7 a8 l8 c8 h
theorem D3.ok (R : Rt) (fr : Fr) (h : Hp) (g : D3.g R fr h) : den prog E (cAt C [true, true, true, true, true, true, false]) (Ex.then (D2.g R) (retQ E [.tmp 4, .tmp 5] R)) fr h := by
  obtain ⟨a0, l0, c0, e0, g⟩ := gSlice_elim g
  obtain ⟨x6, e6, g⟩ := gInt_elim g
  obtain ⟨x7, e7, g⟩ := gInt_elim g
  obtain ⟨a8, l8, c8, e8, g⟩ := gSlice_elim g
  exact den_cut 1 (r := (cAt C [true, true, true, true, true, true, false, true])) (by kernel_rfl) (B6.ok R) (den_enter [(0, .slice a0 l0 c0), (6, .int .i64 x6), (7, .int .i64 x7), (8, .slice a8 l8 c8)] ⟨e0, e6, e7, e8, trivial⟩ (by kernel_rfl) g)
theorem W7.ok (R : Rt) (fr : Fr) (h : Hp) (g : D3.g R fr h) : den prog E (cAt C [true, true, true, true, true, true]) (retQ E [.tmp 4, .tmp 5] R) fr h :=
  den_then (by kernel_rfl) (D2.ok R) (D3.ok R fr h g)
def D1.t (R : Rt) (a0 : Option Addr) (l0 : Nat) (c0 : Nat) (x1 : Int) (h : Hp) : Prop :=
  cond (decide (x1 < 0)) (R (.tuple #[.slice none 0 0, .int .i64 1]) h) (HC nat_Form.id #[.slice a0 l0 c0] h fun v1 h2 =>
  gBool v1 fun b_3 =>
  cond (!b_3) (R (.tuple #[.slice none 0 0, .int .i64 2]) h2) ((64 : Int) ≠ 0 ∧ letK (IntKind.i64.wrap (Int.tdiv x1 64)) fun n4 =>
  (64 : Int) ≠ 0 ∧ letK (Int.tmod x1 64) fun n5 =>
  cond (decide (n4 ≥ (((l0 : Nat) : Int)))) (R (.tuple #[.slice none 0 0, .int .i64 0]) h2) (letK (IntKind.i64.wrap ((((l0 : Nat) : Int)) - n4)) fun n6 =>
  mkK h2 35 T35 n6 n6 fun q7 h8 =>
  D3.t R a0 l0 c0 n4 n5 (some q7) n6.toNat n6.toNat h8)))
def D1.g (R : Rt) (fr : Fr) (h : Hp) : Prop := gSlice (fr 0) fun a0 l0 c0 => gInt .i64 (fr 1) fun x1 => D1.t R a0 l0 c0 x1 h
theorem D1.ok (R : Rt) (fr : Fr) (h : Hp) (g : D1.g R fr h) : den prog E C (retQ E [.tmp 4, .tmp 5] R) fr h := by
  obtain ⟨a0, l0, c0, e0, g⟩ := gSlice_elim g
  obtain ⟨x1, e1, g⟩ := gInt_elim g
  exact den_cut 6 (r := (cAt C [true, true, true, true, true, true])) (by kernel_rfl) (W7.ok R) (den_enter [(0, .slice a0 l0 c0), (1, .int .i64 x1)] ⟨e0, e1, trivial⟩ (by kernel_rfl) g)
def t (a0 : Option Addr) (l0 : Nat) (c0 : Nat) (x1 : Int) (h : Hp) (R : Rt) : Prop := D1.t R a0 l0 c0 x1 h
theorem ok {a0 : Option Addr} {l0 : Nat} {c0 : Nat} {x1 : Int} {h : Hp} {R : Rt} (g : t a0 l0 c0 x1 h R) : HC id #[.slice a0 l0 c0, .int .i64 x1] h R :=
  calls_of_den' envOk (c := C) (rs := [.tmp 4, .tmp 5]) Tryz.func60 (by kernel_rfl) (by kernel_rfl) (by kernel_rfl) (args := [.slice a0 l0 c0, .int .i64 x1]) (by kernel_rfl) (D1.ok R _ h (gSlice_intro rfl (gInt_intro rfl (g))))
end nat_Shr

namespace piconst_FloorPi
noncomputable def C : Code := bodyOf Tryz.f61
def L3.g (N : Int → Int → Hp → Prop) (fr : Fr) (h : Hp) : Prop := gInt .i64 (fr 0) fun x0 => gInt .i64 (fr 4) fun x4 => N x0 x4 h
def D4.t (R : Rt) (N3 : Int → Int → Hp → Prop) (x0 : Int) (x4 : Int) (h : Hp) : Prop :=
  letK (IntKind.i64.wrap (x0 + x4)) fun n1 =>
  HC piconst_machin.id #[.int .i64 n1] h fun v2 h3 =>
  gTup v2 fun y4 =>
  uncons y4 fun v5 y5 =>
  gSlice v5 fun a_6 l_6 c_6 =>
  uncons y5 fun v7 y7 =>
  gSlice v7 fun a_8 l_8 c_8 =>
  unnil y7 <| HC nat_Shr.id #[.slice a_6 l_6 c_6, .int .i64 x4] h3 fun v9 h10 =>
  gTup v9 fun y11 =>
  uncons y11 fun v12 y12 =>
  gSlice v12 fun a_13 l_13 c_13 =>
  uncons y12 fun v14 y14 =>
  gInt .i64 v14 fun x_15 =>
  unnil y14 <| HC nat_Shr.id #[.slice a_8 l_8 c_8, .int .i64 x4] h10 fun v16 h17 =>
  gTup v16 fun y18 =>
  uncons y18 fun v19 y19 =>
  gSlice v19 fun a_20 l_20 c_20 =>
  uncons y19 fun v21 y21 =>
  gInt .i64 v21 fun x_22 =>
  unnil y21 <| HC nat_Cmp.id #[.slice a_13 l_13 c_13, .slice a_20 l_20 c_20] h17 fun v23 h24 =>
  gInt .i64 v23 fun x_25 =>
  cond (x_25 == 0) (R (.tuple #[.slice a_13 l_13 c_13, .int .i64 0]) h24) (letK (IntKind.i64.wrap (x4 * 2)) fun n26 =>
  N3 x0 n26 h24)
def D4.g (R : Rt) (N3 : Int → Int → Hp → Prop) (fr : Fr) (h : Hp) : Prop := gInt .i64 (fr 0) fun x0 => gInt .i64 (fr 4) fun x4 => D4.t R N3 x0 x4 h
theorem D4.ok (R : Rt) (N3 : Int → Int → Hp → Prop) (fr : Fr) (h : Hp) (g : D4.g R N3 fr h) : den prog E (cAt C [true, true, true, false, false]) (Ex.then (L3.g N3) (Ex.inBlock 0 (retQ E [.tmp 2, .tmp 3] R))) fr h := by
  obtain ⟨x0, e0, g⟩ := gInt_elim g
  obtain ⟨x4, e4, g⟩ := gInt_elim g
  exact den_enter [(0, .int .i64 x0), (4, .int .i64 x4)] ⟨e0, e4, trivial⟩ (by kernel_rfl) g
def L3.t (R : Rt) : Nat → Int → Int → Hp → Prop
  | 0 => fun _ _ _ => False
  | n + 1 => fun x0 x4 h => D4.t R (L3.t R n) x0 x4 h
theorem L3.ok (R : Rt) (fr : Fr) (h : Hp) (g : L3.g (fun x0 x4 h => ∃ n, L3.t R n x0 x4 h) fr h) : den prog E (cAt C [true, true, true, false]) (Ex.inBlock 0 (retQ E [.tmp 2, .tmp 3] R)) fr h := by
  obtain ⟨x0, e0, g⟩ := gInt_elim g
  obtain ⟨x4, e4, g⟩ := gInt_elim g
  obtain ⟨n, g⟩ := g
  refine loop_ok (fun n => L3.g (L3.t R n)) (b := (cAt C [true, true, true, false, false])) (by kernel_rfl) (fun fr h g => ?_) (fun n => D4.ok R (L3.t R n)) n fr h (gInt_intro e0 (gInt_intro e4 (g)))
  obtain ⟨x0, e0, g⟩ := gInt_elim g
  obtain ⟨x4, e4, g⟩ := gInt_elim g
  exact g
theorem B5.ok (R : Rt) (fr : Fr) (h : Hp) (g : L3.g (fun x0 x4 h => ∃ n, L3.t R n x0 x4 h) fr h) : den prog E (cAt C [true, true, true]) (retQ E [.tmp 2, .tmp 3] R) fr h :=
  den_block (by kernel_rfl) (L3.ok R fr h g)
def D2.t (R : Rt) (x0 : Int) (h : Hp) : Prop :=
  (∃ n, L3.t R n x0 48 h)
def D2.g (R : Rt) (fr : Fr) (h : Hp) : Prop := gInt .i64 (fr 0) fun x0 => D2.t R x0 h
theorem D2.ok (R : Rt) (fr : Fr) (h : Hp) (g : D2.g R fr h) : den prog E (cAt C [true, true]) (retQ E [.tmp 2, .tmp 3] R) fr h := by
  obtain ⟨x0, e0, g⟩ := gInt_elim g
  exact den_cut 1 (r := (cAt C [true, true, true])) (by kernel_rfl) (B5.ok R) (den_enter [(0, .int .i64 x0)] ⟨e0, trivial⟩ (by kernel_rfl) g)
def D1.t (R : Rt) (x0 : Int) (h : Hp) : Prop :=
  cond (decide (x0 < 1)) (R (.tuple #[.slice none 0 0, .int .i64 1]) h) (cond (decide (x0 > 70000)) (R (.tuple #[.slice none 0 0, .int .i64 1]) h) (D2.t R x0 h))
def D1.g (R : Rt) (fr : Fr) (h : Hp) : Prop := gInt .i64 (fr 0) fun x0 => D1.t R x0 h
theorem D1.ok (R : Rt) (fr : Fr) (h : Hp) (g : D1.g R fr h) : den prog E C (retQ E [.tmp 2, .tmp 3] R) fr h := by
  obtain ⟨x0, e0, g⟩ := gInt_elim g
  exact den_cut 2 (r := (cAt C [true, true])) (by kernel_rfl) (D2.ok R) (den_enter [(0, .int .i64 x0)] ⟨e0, trivial⟩ (by kernel_rfl) g)
def t (x0 : Int) (h : Hp) (R : Rt) : Prop := D1.t R x0 h
theorem ok {x0 : Int} {h : Hp} {R : Rt} (g : t x0 h R) : HC id #[.int .i64 x0] h R :=
  calls_of_den' envOk (c := C) (rs := [.tmp 2, .tmp 3]) Tryz.func61 (by kernel_rfl) (by kernel_rfl) (by kernel_rfl) (args := [.int .i64 x0]) (by kernel_rfl) (D1.ok R _ h (gInt_intro rfl (g)))
end piconst_FloorPi

namespace natmul_Mul
noncomputable def C : Code := bodyOf Tryz.f62
def D2.t (R : Rt) (a0 : Option Addr) (l0 : Nat) (c0 : Nat) (a1 : Option Addr) (l1 : Nat) (c1 : Nat) (h : Hp) : Prop :=
  HC natmul_product.id #[.slice a0 l0 c0, .slice a1 l1 c1] h fun v7 h8 =>
  gSlice v7 fun a_9 l_9 c_9 =>
  HC natmul_told.id #[.slice a_9 l_9 c_9] h8 fun v10 h11 =>
  gTup v10 fun y12 =>
  uncons y12 fun v13 y13 =>
  gSlice v13 fun a_14 l_14 c_14 =>
  uncons y13 fun v15 y15 =>
  gInt .i64 v15 fun x_16 =>
  unnil y15 <| R (.tuple #[.slice a_14 l_14 c_14, .int .i64 x_16]) h11
def D2.g (R : Rt) (fr : Fr) (h : Hp) : Prop := gSlice (fr 0) fun a0 l0 c0 => gSlice (fr 1) fun a1 l1 c1 => D2.t R a0 l0 c0 a1 l1 c1 h
theorem D2.ok (R : Rt) (fr : Fr) (h : Hp) (g : D2.g R fr h) : den prog E (cAt C [true, true]) (retQ E [.tmp 4, .tmp 5] R) fr h := by
  obtain ⟨a0, l0, c0, e0, g⟩ := gSlice_elim g
  obtain ⟨a1, l1, c1, e1, g⟩ := gSlice_elim g
  exact den_enter [(0, .slice a0 l0 c0), (1, .slice a1 l1 c1)] ⟨e0, e1, trivial⟩ (by kernel_rfl) g
def D1.t (R : Rt) (a0 : Option Addr) (l0 : Nat) (c0 : Nat) (a1 : Option Addr) (l1 : Nat) (c1 : Nat) (h : Hp) : Prop :=
  HC nat_Form.id #[.slice a0 l0 c0] h fun v1 h2 =>
  gBool v1 fun b_3 =>
  cond (!b_3) (R (.tuple #[.slice none 0 0, .int .i64 2]) h2) (HC nat_Form.id #[.slice a1 l1 c1] h2 fun v4 h5 =>
  gBool v4 fun b_6 =>
  cond (!b_6) (R (.tuple #[.slice none 0 0, .int .i64 2]) h5) (D2.t R a0 l0 c0 a1 l1 c1 h5))
def D1.g (R : Rt) (fr : Fr) (h : Hp) : Prop := gSlice (fr 0) fun a0 l0 c0 => gSlice (fr 1) fun a1 l1 c1 => D1.t R a0 l0 c0 a1 l1 c1 h
theorem D1.ok (R : Rt) (fr : Fr) (h : Hp) (g : D1.g R fr h) : den prog E C (retQ E [.tmp 4, .tmp 5] R) fr h := by
  obtain ⟨a0, l0, c0, e0, g⟩ := gSlice_elim g
  obtain ⟨a1, l1, c1, e1, g⟩ := gSlice_elim g
  exact den_cut 2 (r := (cAt C [true, true])) (by kernel_rfl) (D2.ok R) (den_enter [(0, .slice a0 l0 c0), (1, .slice a1 l1 c1)] ⟨e0, e1, trivial⟩ (by kernel_rfl) g)
def t (a0 : Option Addr) (l0 : Nat) (c0 : Nat) (a1 : Option Addr) (l1 : Nat) (c1 : Nat) (h : Hp) (R : Rt) : Prop := D1.t R a0 l0 c0 a1 l1 c1 h
theorem ok {a0 : Option Addr} {l0 : Nat} {c0 : Nat} {a1 : Option Addr} {l1 : Nat} {c1 : Nat} {h : Hp} {R : Rt} (g : t a0 l0 c0 a1 l1 c1 h R) : HC id #[.slice a0 l0 c0, .slice a1 l1 c1] h R :=
  calls_of_den' envOk (c := C) (rs := [.tmp 4, .tmp 5]) Tryz.func62 (by kernel_rfl) (by kernel_rfl) (by kernel_rfl) (args := [.slice a0 l0 c0, .slice a1 l1 c1]) (by kernel_rfl) (D1.ok R _ h (gSlice_intro rfl (gSlice_intro rfl (g))))
end natmul_Mul

namespace nat_Shl
noncomputable def C : Code := bodyOf Tryz.f63
def D2.t (R : Rt) (a8 : Option Addr) (l8 : Nat) (c8 : Nat) (h : Hp) : Prop :=
  HC nat_told.id #[.slice a8 l8 c8] h fun v14 h15 =>
  gTup v14 fun y16 =>
  uncons y16 fun v17 y17 =>
  gSlice v17 fun a_18 l_18 c_18 =>
  uncons y17 fun v19 y19 =>
  gInt .i64 v19 fun x_20 =>
  unnil y19 <| R (.tuple #[.slice a_18 l_18 c_18, .int .i64 x_20]) h15
def D2.g (R : Rt) (fr : Fr) (h : Hp) : Prop := gSlice (fr 8) fun a8 l8 c8 => D2.t R a8 l8 c8 h
theorem D2.ok (R : Rt) (fr : Fr) (h : Hp) (g : D2.g R fr h) : den prog E (cAt C [true, true, true, true, true, true, true, true]) (retQ E [.tmp 4, .tmp 5] R) fr h := by
  obtain ⟨a8, l8, c8, e8, g⟩ := gSlice_elim g
  exact den_enter [(8, .slice a8 l8 c8)] ⟨e8, trivial⟩ (by kernel_rfl) g
def L4.g (N : Option Addr → Nat → Nat → Int → Int → Option Addr → Nat → Nat → Int → Int → Hp → Prop) (fr : Fr) (h : Hp) : Prop := gSlice (fr 0) fun a0 l0 c0 => gInt .i64 (fr 6) fun x6 => gInt .i64 (fr 7) fun x7 => gSlice (fr 8) fun a8 l8 c8 => gInt .i64 (fr 34) fun x34 => gInt .i64 (fr 35) fun x35 => N a0 l0 c0 x6 x7 a8 l8 c8 x34 x35 h
def D5.t (R : Rt) (N4 : Option Addr → Nat → Nat → Int → Int → Option Addr → Nat → Nat → Int → Int → Hp → Prop) (a0 : Option Addr) (l0 : Nat) (c0 : Nat) (x6 : Int) (x7 : Int) (a8 : Option Addr) (l8 : Nat) (c8 : Nat) (x34 : Int) (x35 : Int) (h : Hp) : Prop :=
  cond (decide (x35 < x34)) (letK (IntKind.i64.wrap (x6 + x35)) fun n21 =>
  idxK a8 l8 n21 1 fun q22 =>
  ldK h q22 fun v23 =>
  gInt .u64 v23 fun x_24 =>
  idxK a0 l0 x35 1 fun q25 =>
  ldK h q25 fun v26 =>
  gInt .u64 v26 fun x_27 =>
  0 ≤ x7 ∧ letK (shlI .u64 x_27 x7) fun n28 =>
  letK (orI .u64 x_24 n28) fun n29 =>
  idxK a8 l8 n21 1 fun q30 =>
  stK h q30 (.int .u64 n29) fun h31 =>
  letK (IntKind.i64.wrap (x6 + x35)) fun n32 =>
  letK (IntKind.i64.wrap (n32 + 1)) fun n33 =>
  idxK a0 l0 x35 1 fun q34 =>
  ldK h31 q34 fun v35 =>
  gInt .u64 v35 fun x_36 =>
  0 ≤ (1 : Int) ∧ letK (shrI .u64 x_36 1) fun n37 =>
  letK (IntKind.i64.wrap (63 - x7)) fun n38 =>
  0 ≤ n38 ∧ letK (shrI .u64 n37 n38) fun n39 =>
  idxK a8 l8 n33 1 fun q40 =>
  stK h31 q40 (.int .u64 n39) fun h41 =>
  letK (IntKind.i64.wrap (x35 + 1)) fun n42 =>
  N4 a0 l0 c0 x6 x7 a8 l8 c8 x34 n42 h41) (D2.t R a8 l8 c8 h)
def D5.g (R : Rt) (N4 : Option Addr → Nat → Nat → Int → Int → Option Addr → Nat → Nat → Int → Int → Hp → Prop) (fr : Fr) (h : Hp) : Prop := gSlice (fr 0) fun a0 l0 c0 => gInt .i64 (fr 6) fun x6 => gInt .i64 (fr 7) fun x7 => gSlice (fr 8) fun a8 l8 c8 => gInt .i64 (fr 34) fun x34 => gInt .i64 (fr 35) fun x35 => D5.t R N4 a0 l0 c0 x6 x7 a8 l8 c8 x34 x35 h
theorem D5.ok (R : Rt) (N4 : Option Addr → Nat → Nat → Int → Int → Option Addr → Nat → Nat → Int → Int → Hp → Prop) (fr : Fr) (h : Hp) (g : D5.g R N4 fr h) : den prog E (cAt C [true, true, true, true, true, true, true, false, true, false, false]) (Ex.then (L4.g N4) (Ex.inBlock 0 (Ex.then (D2.g R) (retQ E [.tmp 4, .tmp 5] R)))) fr h := by
  obtain ⟨a0, l0, c0, e0, g⟩ := gSlice_elim g
  obtain ⟨x6, e6, g⟩ := gInt_elim g
  obtain ⟨x7, e7, g⟩ := gInt_elim g
  obtain ⟨a8, l8, c8, e8, g⟩ := gSlice_elim g
  obtain ⟨x34, e34, g⟩ := gInt_elim g
  obtain ⟨x35, e35, g⟩ := gInt_elim g
  exact den_enter [(0, .slice a0 l0 c0), (6, .int .i64 x6), (7, .int .i64 x7), (8, .slice a8 l8 c8), (34, .int .i64 x34), (35, .int .i64 x35)] ⟨e0, e6, e7, e8, e34, e35, trivial⟩ (by kernel_rfl) g
def L4.t (R : Rt) : Nat → Option Addr → Nat → Nat → Int → Int → Option Addr → Nat → Nat → Int → Int → Hp → Prop
  | 0 => fun _ _ _ _ _ _ _ _ _ _ _ => False
  | n + 1 => fun a0 l0 c0 x6 x7 a8 l8 c8 x34 x35 h => D5.t R (L4.t R n) a0 l0 c0 x6 x7 a8 l8 c8 x34 x35 h
theorem L4.ok (R : Rt) (fr : Fr) (h : Hp) (g : L4.g (fun a0 l0 c0 x6 x7 a8 l8 c8 x34 x35 h => ∃ n, L4.t R n a0 l0 c0 x6 x7 a8 l8 c8 x34 x35 h) fr h) : den prog E (cAt C [true, true, true, true, true, true, true, false, true, false]) (Ex.inBlock 0 (Ex.then (D2.g R) (retQ E [.tmp 4, .tmp 5] R))) fr h := by
  obtain ⟨a0, l0, c0, e0, g⟩ := gSlice_elim g
  obtain ⟨x6, e6, g⟩ := gInt_elim g
  obtain ⟨x7, e7, g⟩ := gInt_elim g
  obtain ⟨a8, l8, c8, e8, g⟩ := gSlice_elim g
  obtain ⟨x34, e34, g⟩ := gInt_elim g
  obtain ⟨x35, e35, g⟩ := gInt_elim g
  obtain ⟨n, g⟩ := g
  refine loop_ok (fun n => L4.g (L4.t R n)) (b := (cAt C [true, true, true, true, true, true, true, false, true, false, false])) (by kernel_rfl) (fun fr h g => ?_) (fun n => D5.ok R (L4.t R n)) n fr h (gSlice_intro e0 (gInt_intro e6 (gInt_intro e7 (gSlice_intro e8 (gInt_intro e34 (gInt_intro e35 (g)))))))
  obtain ⟨a0, l0, c0, e0, g⟩ := gSlice_elim g
  obtain ⟨x6, e6, g⟩ := gInt_elim g
  obtain ⟨x7, e7, g⟩ := gInt_elim g
  obtain ⟨a8, l8, c8, e8, g⟩ := gSlice_elim g
  obtain ⟨x34, e34, g⟩ := gInt_elim g
  obtain ⟨x35, e35, g⟩ := gInt_elim g
  exact g
theorem B6.ok (R : Rt) (fr : Fr) (h : Hp) (g : L4.g (fun a0 l0 c0 x6 x7 a8 l8 c8 x34 x35 h => ∃ n, L4.t R n a0 l0 c0 x6 x7 a8 l8 c8 x34 x35 h) fr h) : den prog E (cAt C [true, true, true, true, true, true, true, false, true]) (Ex.then (D2.g R) (retQ E [.tmp 4, .tmp 5] R)) fr h :=
  den_block (by kernel_rfl) (L4.ok R fr h g)
def D3.t (R : Rt) (a0 : Option Addr) (l0 : Nat) (c0 : Nat) (x6 : Int) (x7 : Int) (a8 : Option Addr) (l8 : Nat) (c8 : Nat) (h : Hp) : Prop :=
  (∃ n, L4.t R n a0 l0 c0 x6 x7 a8 l8 c8 (((l0 : Nat) : Int)) 0 h)
def D3.g (R : Rt) (fr : Fr) (h : Hp) : Prop := gSlice (fr 0) fun a0 l0 c0 => gInt .i64 (fr 6) fun x6 => gInt .i64 (fr 7) fun x7 => gSlice (fr 8) fun a8 l8 c8 => D3.t R a0 l0 c0 x6 x7 a8 l8 c8 h
theorem D3.ok (R : Rt) (fr : Fr) (h : Hp) (g : D3.g R fr h) : den prog E (cAt C [true, true, true, true, true, true, true, false]) (Ex.then (D2.g R) (retQ E [.tmp 4, .tmp 5] R)) fr h := by
  obtain ⟨a0, l0, c0, e0, g⟩ := gSlice_elim g
  obtain ⟨x6, e6, g⟩ := gInt_elim g
  obtain ⟨x7, e7, g⟩ := gInt_elim g
  obtain ⟨a8, l8, c8, e8, g⟩ := gSlice_elim g
  exact den_cut 1 (r := (cAt C [true, true, true, true, true, true, true, false, true])) (by kernel_rfl) (B6.ok R) (den_enter [(0, .slice a0 l0 c0), (6, .int .i64 x6), (7, .int .i64 x7), (8, .slice a8 l8 c8)] ⟨e0, e6, e7, e8, trivial⟩ (by kernel_rfl) g)
theorem W7.ok (R : Rt) (fr : Fr) (h : Hp) (g : D3.g R fr h) : den prog E (cAt C [true, true, true, true, true, true, true]) (retQ E [.tmp 4, .tmp 5] R) fr h :=
  den_then (by kernel_rfl) (D2.ok R) (D3.ok R fr h g)
def D1.t (R : Rt) (a0 : Option Addr) (l0 : Nat) (c0 : Nat) (x1 : Int) (h : Hp) : Prop :=
  cond (decide (x1 < 0)) (R (.tuple #[.slice none 0 0, .int .i64 1]) h) (HC nat_Form.id #[.slice a0 l0 c0] h fun v1 h2 =>
  gBool v1 fun b_3 =>
  cond (!b_3) (R (.tuple #[.slice none 0 0, .int .i64 2]) h2) (cond ((((l0 : Nat) : Int)) == 0) (R (.tuple #[.slice none 0 0, .int .i64 0]) h2) (HC nat_Bits.id #[.slice a0 l0 c0] h2 fun v4 h5 =>
  gInt .i64 v4 fun x_6 =>
  letK (IntKind.i64.wrap (524288 - x_6)) fun n7 =>
  cond (decide (x1 > n7)) (R (.tuple #[.slice none 0 0, .int .i64 5]) h5) ((64 : Int) ≠ 0 ∧ letK (IntKind.i64.wrap (Int.tdiv x1 64)) fun n8 =>
  (64 : Int) ≠ 0 ∧ letK (Int.tmod x1 64) fun n9 =>
  letK (IntKind.i64.wrap (n8 + (((l0 : Nat) : Int)))) fun n10 =>
  letK (IntKind.i64.wrap (n10 + 1)) fun n11 =>
  mkK h5 35 T35 n11 n11 fun q12 h13 =>
  D3.t R a0 l0 c0 n8 n9 (some q12) n11.toNat n11.toNat h13))))
def D1.g (R : Rt) (fr : Fr) (h : Hp) : Prop := gSlice (fr 0) fun a0 l0 c0 => gInt .i64 (fr 1) fun x1 => D1.t R a0 l0 c0 x1 h
theorem D1.ok (R : Rt) (fr : Fr) (h : Hp) (g : D1.g R fr h) : den prog E C (retQ E [.tmp 4, .tmp 5] R) fr h := by
  obtain ⟨a0, l0, c0, e0, g⟩ := gSlice_elim g
  obtain ⟨x1, e1, g⟩ := gInt_elim g
  exact den_cut 7 (r := (cAt C [true, true, true, true, true, true, true])) (by kernel_rfl) (W7.ok R) (den_enter [(0, .slice a0 l0 c0), (1, .int .i64 x1)] ⟨e0, e1, trivial⟩ (by kernel_rfl) g)
def t (a0 : Option Addr) (l0 : Nat) (c0 : Nat) (x1 : Int) (h : Hp) (R : Rt) : Prop := D1.t R a0 l0 c0 x1 h
theorem ok {a0 : Option Addr} {l0 : Nat} {c0 : Nat} {x1 : Int} {h : Hp} {R : Rt} (g : t a0 l0 c0 x1 h R) : HC id #[.slice a0 l0 c0, .int .i64 x1] h R :=
  calls_of_den' envOk (c := C) (rs := [.tmp 4, .tmp 5]) Tryz.func63 (by kernel_rfl) (by kernel_rfl) (by kernel_rfl) (args := [.slice a0 l0 c0, .int .i64 x1]) (by kernel_rfl) (D1.ok R _ h (gSlice_intro rfl (gInt_intro rfl (g))))
end nat_Shl

namespace nearpi_apart
noncomputable def C : Code := bodyOf Tryz.f64
def D2.t (R : Rt) (a0 : Option Addr) (l0 : Nat) (c0 : Nat) (a1 : Option Addr) (l1 : Nat) (c1 : Nat) (h : Hp) : Prop :=
  HC nat_Sub.id #[.slice a0 l0 c0, .slice a1 l1 c1] h fun v4 h5 =>
  gTup v4 fun y6 =>
  uncons y6 fun v7 y7 =>
  gSlice v7 fun a_8 l_8 c_8 =>
  uncons y7 fun v9 y9 =>
  gInt .i64 v9 fun x_10 =>
  unnil y9 <| R (.slice a_8 l_8 c_8) h5
def D2.g (R : Rt) (fr : Fr) (h : Hp) : Prop := gSlice (fr 0) fun a0 l0 c0 => gSlice (fr 1) fun a1 l1 c1 => D2.t R a0 l0 c0 a1 l1 c1 h
theorem D2.ok (R : Rt) (fr : Fr) (h : Hp) (g : D2.g R fr h) : den prog E (cAt C [true, true]) (retQ E [.tmp 4] R) fr h := by
  obtain ⟨a0, l0, c0, e0, g⟩ := gSlice_elim g
  obtain ⟨a1, l1, c1, e1, g⟩ := gSlice_elim g
  exact den_enter [(0, .slice a0 l0 c0), (1, .slice a1 l1 c1)] ⟨e0, e1, trivial⟩ (by kernel_rfl) g
def D1.t (R : Rt) (a0 : Option Addr) (l0 : Nat) (c0 : Nat) (a1 : Option Addr) (l1 : Nat) (c1 : Nat) (h : Hp) : Prop :=
  HC nat_Cmp.id #[.slice a0 l0 c0, .slice a1 l1 c1] h fun v1 h2 =>
  gInt .i64 v1 fun x_3 =>
  cond (decide (x_3 < 0)) (D2.t R a1 l1 c1 a0 l0 c0 h2) (D2.t R a0 l0 c0 a1 l1 c1 h2)
def D1.g (R : Rt) (fr : Fr) (h : Hp) : Prop := gSlice (fr 0) fun a0 l0 c0 => gSlice (fr 1) fun a1 l1 c1 => D1.t R a0 l0 c0 a1 l1 c1 h
theorem D1.ok (R : Rt) (fr : Fr) (h : Hp) (g : D1.g R fr h) : den prog E C (retQ E [.tmp 4] R) fr h := by
  obtain ⟨a0, l0, c0, e0, g⟩ := gSlice_elim g
  obtain ⟨a1, l1, c1, e1, g⟩ := gSlice_elim g
  exact den_cut 2 (r := (cAt C [true, true])) (by kernel_rfl) (D2.ok R) (den_enter [(0, .slice a0 l0 c0), (1, .slice a1 l1 c1)] ⟨e0, e1, trivial⟩ (by kernel_rfl) g)
def t (a0 : Option Addr) (l0 : Nat) (c0 : Nat) (a1 : Option Addr) (l1 : Nat) (c1 : Nat) (h : Hp) (R : Rt) : Prop := D1.t R a0 l0 c0 a1 l1 c1 h
theorem ok {a0 : Option Addr} {l0 : Nat} {c0 : Nat} {a1 : Option Addr} {l1 : Nat} {c1 : Nat} {h : Hp} {R : Rt} (g : t a0 l0 c0 a1 l1 c1 h R) : HC id #[.slice a0 l0 c0, .slice a1 l1 c1] h R :=
  calls_of_den' envOk (c := C) (rs := [.tmp 4]) Tryz.func64 (by kernel_rfl) (by kernel_rfl) (by kernel_rfl) (args := [.slice a0 l0 c0, .slice a1 l1 c1]) (by kernel_rfl) (D1.ok R _ h (gSlice_intro rfl (gSlice_intro rfl (g))))
end nearpi_apart

namespace nat_Bits
noncomputable def C : Code := bodyOf Tryz.f65
def D1.t (R : Rt) (a0 : Option Addr) (l0 : Nat) (c0 : Nat) (h : Hp) : Prop :=
  HC nat_trim.id #[.slice a0 l0 c0] h fun v1 h2 =>
  gSlice v1 fun a_3 l_3 c_3 =>
  cond ((((l_3 : Nat) : Int)) == 0) (R (.int .i64 0) h2) (letK (IntKind.i64.wrap ((((l_3 : Nat) : Int)) - 1)) fun n4 =>
  letK (IntKind.i64.wrap (64 * n4)) fun n5 =>
  letK (IntKind.i64.wrap ((((l_3 : Nat) : Int)) - 1)) fun n6 =>
  idxK a_3 l_3 n6 1 fun q7 =>
  ldK h2 q7 fun v8 =>
  gInt .u64 v8 fun x_9 =>
  HC bits_Len64.id #[.int .u64 x_9] h2 fun v10 h11 =>
  gInt .i64 v10 fun x_12 =>
  letK (IntKind.i64.wrap (n5 + x_12)) fun n13 =>
  R (.int .i64 n13) h11)
def D1.g (R : Rt) (fr : Fr) (h : Hp) : Prop := gSlice (fr 0) fun a0 l0 c0 => D1.t R a0 l0 c0 h
theorem D1.ok (R : Rt) (fr : Fr) (h : Hp) (g : D1.g R fr h) : den prog E C (retQ E [.tmp 2] R) fr h := by
  obtain ⟨a0, l0, c0, e0, g⟩ := gSlice_elim g
  exact den_enter [(0, .slice a0 l0 c0)] ⟨e0, trivial⟩ (by kernel_rfl) g
def t (a0 : Option Addr) (l0 : Nat) (c0 : Nat) (h : Hp) (R : Rt) : Prop := D1.t R a0 l0 c0 h
theorem ok {a0 : Option Addr} {l0 : Nat} {c0 : Nat} {h : Hp} {R : Rt} (g : t a0 l0 c0 h R) : HC id #[.slice a0 l0 c0] h R :=
  calls_of_den' envOk (c := C) (rs := [.tmp 2]) Tryz.func65 (by kernel_rfl) (by kernel_rfl) (by kernel_rfl) (args := [.slice a0 l0 c0]) (by kernel_rfl) (D1.ok R _ h (gSlice_intro rfl (g)))
end nat_Bits

namespace gnomonref13_euclid
noncomputable def C : Code := bodyOf Tryz.f66
def D2.t (R : Rt) (a7 : Option Addr) (l7 : Nat) (c7 : Nat) (h : Hp) : Prop :=
  R (.slice a7 l7 c7) h
def D2.g (R : Rt) (fr : Fr) (h : Hp) : Prop := gSlice (fr 7) fun a7 l7 c7 => D2.t R a7 l7 c7 h
theorem D2.ok (R : Rt) (fr : Fr) (h : Hp) (g : D2.g R fr h) : den prog E (cAt C [true, true, true]) (retQ E [.tmp 6] R) fr h := by
  obtain ⟨a7, l7, c7, e7, g⟩ := gSlice_elim g
  exact den_enter [(7, .slice a7 l7 c7)] ⟨e7, trivial⟩ (by kernel_rfl) g
def L3.g (N : Option Addr → Nat → Nat → Option Addr → Nat → Nat → Int → Option Addr → Nat → Nat → Hp → Prop) (fr : Fr) (h : Hp) : Prop := gSlice (fr 0) fun a0 l0 c0 => gSlice (fr 1) fun a1 l1 c1 => gInt .i64 (fr 2) fun x2 => gSlice (fr 7) fun a7 l7 c7 => N a0 l0 c0 a1 l1 c1 x2 a7 l7 c7 h
def D5.t (R : Rt) (N3 : Option Addr → Nat → Nat → Option Addr → Nat → Nat → Int → Option Addr → Nat → Nat → Hp → Prop) (a0 : Option Addr) (l0 : Nat) (c0 : Nat) (a1 : Option Addr) (l1 : Nat) (c1 : Nat) (x2 : Int) (a7 : Option Addr) (l7 : Nat) (c7 : Nat) (h : Hp) : Prop :=
  HC gnomonref01_DivMod.id #[.slice a0 l0 c0, .slice a1 l1 c1] h fun v1 h2 =>
  gTup v1 fun y3 =>
  uncons y3 fun v4 y4 =>
  gSlice v4 fun a_5 l_5 c_5 =>
  uncons y4 fun v6 y6 =>
  gSlice v6 fun a_7 l_7 c_7 =>
  unnil y6 <| boxK h2 51 [.slice a_5 l_5 c_5] fun q8 h9 =>
  apK h9 51 T51 a7 l7 c7 (.slice (some q8) 1 1) fun a_10 l_10 c_10 h10 =>
  N3 a1 l1 c1 a_7 l_7 c_7 x2 a_10 l_10 c_10 h10
def D5.g (R : Rt) (N3 : Option Addr → Nat → Nat → Option Addr → Nat → Nat → Int → Option Addr → Nat → Nat → Hp → Prop) (fr : Fr) (h : Hp) : Prop := gSlice (fr 0) fun a0 l0 c0 => gSlice (fr 1) fun a1 l1 c1 => gInt .i64 (fr 2) fun x2 => gSlice (fr 7) fun a7 l7 c7 => D5.t R N3 a0 l0 c0 a1 l1 c1 x2 a7 l7 c7 h
theorem D5.ok (R : Rt) (N3 : Option Addr → Nat → Nat → Option Addr → Nat → Nat → Int → Option Addr → Nat → Nat → Hp → Prop) (fr : Fr) (h : Hp) (g : D5.g R N3 fr h) : den prog E (cAt C [true, true, false, false, false, true]) (Ex.then (L3.g N3) (Ex.inBlock 0 (Ex.then (D2.g R) (retQ E [.tmp 6] R)))) fr h := by
  obtain ⟨a0, l0, c0, e0, g⟩ := gSlice_elim g
  obtain ⟨a1, l1, c1, e1, g⟩ := gSlice_elim g
  obtain ⟨x2, e2, g⟩ := gInt_elim g
  obtain ⟨a7, l7, c7, e7, g⟩ := gSlice_elim g
  exact den_enter [(0, .slice a0 l0 c0), (1, .slice a1 l1 c1), (2, .int .i64 x2), (7, .slice a7 l7 c7)] ⟨e0, e1, e2, e7, trivial⟩ (by kernel_rfl) g
def D4.t (R : Rt) (N3 : Option Addr → Nat → Nat → Option Addr → Nat → Nat → Int → Option Addr → Nat → Nat → Hp → Prop) (a0 : Option Addr) (l0 : Nat) (c0 : Nat) (a1 : Option Addr) (l1 : Nat) (c1 : Nat) (x2 : Int) (a7 : Option Addr) (l7 : Nat) (c7 : Nat) (h : Hp) : Prop :=
  cond (decide ((((l1 : Nat) : Int)) > 0)) (cond (decide ((((l7 : Nat) : Int)) < x2)) (D5.t R N3 a0 l0 c0 a1 l1 c1 x2 a7 l7 c7 h) (D2.t R a7 l7 c7 h)) (D2.t R a7 l7 c7 h)
def D4.g (R : Rt) (N3 : Option Addr → Nat → Nat → Option Addr → Nat → Nat → Int → Option Addr → Nat → Nat → Hp → Prop) (fr : Fr) (h : Hp) : Prop := gSlice (fr 0) fun a0 l0 c0 => gSlice (fr 1) fun a1 l1 c1 => gInt .i64 (fr 2) fun x2 => gSlice (fr 7) fun a7 l7 c7 => D4.t R N3 a0 l0 c0 a1 l1 c1 x2 a7 l7 c7 h
theorem D4.ok (R : Rt) (N3 : Option Addr → Nat → Nat → Option Addr → Nat → Nat → Int → Option Addr → Nat → Nat → Hp → Prop) (fr : Fr) (h : Hp) (g : D4.g R N3 fr h) : den prog E (cAt C [true, true, false, false, false]) (Ex.then (L3.g N3) (Ex.inBlock 0 (Ex.then (D2.g R) (retQ E [.tmp 6] R)))) fr h := by
  obtain ⟨a0, l0, c0, e0, g⟩ := gSlice_elim g
  obtain ⟨a1, l1, c1, e1, g⟩ := gSlice_elim g
  obtain ⟨x2, e2, g⟩ := gInt_elim g
  obtain ⟨a7, l7, c7, e7, g⟩ := gSlice_elim g
  exact den_cut 1 (r := (cAt C [true, true, false, false, false, true])) (by kernel_rfl) (D5.ok R N3) (den_enter [(0, .slice a0 l0 c0), (1, .slice a1 l1 c1), (2, .int .i64 x2), (7, .slice a7 l7 c7)] ⟨e0, e1, e2, e7, trivial⟩ (by kernel_rfl) g)
def L3.t (R : Rt) : Nat → Option Addr → Nat → Nat → Option Addr → Nat → Nat → Int → Option Addr → Nat → Nat → Hp → Prop
  | 0 => fun _ _ _ _ _ _ _ _ _ _ _ => False
  | n + 1 => fun a0 l0 c0 a1 l1 c1 x2 a7 l7 c7 h => D4.t R (L3.t R n) a0 l0 c0 a1 l1 c1 x2 a7 l7 c7 h
theorem L3.ok (R : Rt) (fr : Fr) (h : Hp) (g : L3.g (fun a0 l0 c0 a1 l1 c1 x2 a7 l7 c7 h => ∃ n, L3.t R n a0 l0 c0 a1 l1 c1 x2 a7 l7 c7 h) fr h) : den prog E (cAt C [true, true, false, false]) (Ex.inBlock 0 (Ex.then (D2.g R) (retQ E [.tmp 6] R))) fr h := by
  obtain ⟨a0, l0, c0, e0, g⟩ := gSlice_elim g
  obtain ⟨a1, l1, c1, e1, g⟩ := gSlice_elim g
  obtain ⟨x2, e2, g⟩ := gInt_elim g
  obtain ⟨a7, l7, c7, e7, g⟩ := gSlice_elim g
  obtain ⟨n, g⟩ := g
  refine loop_ok (fun n => L3.g (L3.t R n)) (b := (cAt C [true, true, false, false, false])) (by kernel_rfl) (fun fr h g => ?_) (fun n => D4.ok R (L3.t R n)) n fr h (gSlice_intro e0 (gSlice_intro e1 (gInt_intro e2 (gSlice_intro e7 (g)))))
  obtain ⟨a0, l0, c0, e0, g⟩ := gSlice_elim g
  obtain ⟨a1, l1, c1, e1, g⟩ := gSlice_elim g
  obtain ⟨x2, e2, g⟩ := gInt_elim g
  obtain ⟨a7, l7, c7, e7, g⟩ := gSlice_elim g
  exact g
theorem B6.ok (R : Rt) (fr : Fr) (h : Hp) (g : L3.g (fun a0 l0 c0 a1 l1 c1 x2 a7 l7 c7 h => ∃ n, L3.t R n a0 l0 c0 a1 l1 c1 x2 a7 l7 c7 h) fr h) : den prog E (cAt C [true, true, false]) (Ex.then (D2.g R) (retQ E [.tmp 6] R)) fr h :=
  den_block (by kernel_rfl) (L3.ok R fr h g)
theorem W7.ok (R : Rt) (fr : Fr) (h : Hp) (g : L3.g (fun a0 l0 c0 a1 l1 c1 x2 a7 l7 c7 h => ∃ n, L3.t R n a0 l0 c0 a1 l1 c1 x2 a7 l7 c7 h) fr h) : den prog E (cAt C [true, true]) (retQ E [.tmp 6] R) fr h :=
  den_then (by kernel_rfl) (D2.ok R) (B6.ok R fr h g)
def D1.t (R : Rt) (a0 : Option Addr) (l0 : Nat) (c0 : Nat) (a1 : Option Addr) (l1 : Nat) (c1 : Nat) (x2 : Int) (h : Hp) : Prop :=
  (∃ n, L3.t R n a0 l0 c0 a1 l1 c1 x2 none 0 0 h)
def D1.g (R : Rt) (fr : Fr) (h : Hp) : Prop := gSlice (fr 0) fun a0 l0 c0 => gSlice (fr 1) fun a1 l1 c1 => gInt .i64 (fr 2) fun x2 => D1.t R a0 l0 c0 a1 l1 c1 x2 h
theorem D1.ok (R : Rt) (fr : Fr) (h : Hp) (g : D1.g R fr h) : den prog E C (retQ E [.tmp 6] R) fr h := by
  obtain ⟨a0, l0, c0, e0, g⟩ := gSlice_elim g
  obtain ⟨a1, l1, c1, e1, g⟩ := gSlice_elim g
  obtain ⟨x2, e2, g⟩ := gInt_elim g
  exact den_cut 2 (r := (cAt C [true, true])) (by kernel_rfl) (W7.ok R) (den_enter [(0, .slice a0 l0 c0), (1, .slice a1 l1 c1), (2, .int .i64 x2)] ⟨e0, e1, e2, trivial⟩ (by kernel_rfl) g)
def t (a0 : Option Addr) (l0 : Nat) (c0 : Nat) (a1 : Option Addr) (l1 : Nat) (c1 : Nat) (x2 : Int) (h : Hp) (R : Rt) : Prop := D1.t R a0 l0 c0 a1 l1 c1 x2 h
theorem ok {a0 : Option Addr} {l0 : Nat} {c0 : Nat} {a1 : Option Addr} {l1 : Nat} {c1 : Nat} {x2 : Int} {h : Hp} {R : Rt} (g : t a0 l0 c0 a1 l1 c1 x2 h R) : HC id #[.slice a0 l0 c0, .slice a1 l1 c1, .int .i64 x2] h R :=
  calls_of_den' envOk (c := C) (rs := [.tmp 6]) Tryz.func66 (by kernel_rfl) (by kernel_rfl) (by kernel_rfl) (args := [.slice a0 l0 c0, .slice a1 l1 c1, .int .i64 x2]) (by kernel_rfl) (D1.ok R _ h (gSlice_intro rfl (gSlice_intro rfl (gInt_intro rfl (g)))))
end gnomonref13_euclid

namespace gnomonref01_Fits
noncomputable def C : Code := bodyOf Tryz.f67
def D1.t (R : Rt) (a0 : Option Addr) (l0 : Nat) (c0 : Nat) (h : Hp) : Prop :=
  HC gnomonref01_To.id #[.slice a0 l0 c0] h fun v1 h2 =>
  gSlice v1 fun a_3 l_3 c_3 =>
  cond ((((l_3 : Nat) : Int)) == 0) (R (.tuple #[.int .u64 0, .bool true]) h2) (cond ((((l_3 : Nat) : Int)) == 1) (idxK a_3 l_3 0 1 fun q4 =>
  ldK h2 q4 fun v5 =>
  gInt .u64 v5 fun x_6 =>
  R (.tuple #[.int .u64 x_6, .bool true]) h2) (R (.tuple #[.int .u64 0, .bool false]) h2))
def D1.g (R : Rt) (fr : Fr) (h : Hp) : Prop := gSlice (fr 0) fun a0 l0 c0 => D1.t R a0 l0 c0 h
theorem D1.ok (R : Rt) (fr : Fr) (h : Hp) (g : D1.g R fr h) : den prog E C (retQ E [.tmp 2, .tmp 3] R) fr h := by
  obtain ⟨a0, l0, c0, e0, g⟩ := gSlice_elim g
  exact den_enter [(0, .slice a0 l0 c0)] ⟨e0, trivial⟩ (by kernel_rfl) g
def t (a0 : Option Addr) (l0 : Nat) (c0 : Nat) (h : Hp) (R : Rt) : Prop := D1.t R a0 l0 c0 h
theorem ok {a0 : Option Addr} {l0 : Nat} {c0 : Nat} {h : Hp} {R : Rt} (g : t a0 l0 c0 h R) : HC id #[.slice a0 l0 c0] h R :=
  calls_of_den' envOk (c := C) (rs := [.tmp 2, .tmp 3]) Tryz.func67 (by kernel_rfl) (by kernel_rfl) (by kernel_rfl) (args := [.slice a0 l0 c0]) (by kernel_rfl) (D1.ok R _ h (gSlice_intro rfl (g)))
end gnomonref01_Fits

namespace gnomonref01_DivMod
noncomputable def C : Code := bodyOf Tryz.f68
def D3.t (R : Rt) (x8 : Int) (a10 : Option Addr) (l10 : Nat) (c10 : Nat) (x11 : Int) (a12 : Option Addr) (l12 : Nat) (c12 : Nat) (h : Hp) : Prop :=
  HC gnomonref01_Norm.id #[.slice a12 l12 c12] h fun v45 h46 =>
  gSlice v45 fun a_47 l_47 c_47 =>
  slK 1 a10 l10 c10 none (some (.int .i64 x11)) none fun a_48 l_48 c_48 =>
  HC gnomonref01_Norm.id #[.slice a_48 l_48 c_48] h46 fun v49 h50 =>
  gSlice v49 fun a_51 l_51 c_51 =>
  HC gnomonref01_Shr.id #[.slice a_51 l_51 c_51, .int .i64 x8] h50 fun v52 h53 =>
  gSlice v52 fun a_54 l_54 c_54 =>
  R (.tuple #[.slice a_47 l_47 c_47, .slice a_54 l_54 c_54]) h53
def D3.g (R : Rt) (fr : Fr) (h : Hp) : Prop := gInt .i64 (fr 8) fun x8 => gSlice (fr 10) fun a10 l10 c10 => gInt .i64 (fr 11) fun x11 => gSlice (fr 12) fun a12 l12 c12 => D3.t R x8 a10 l10 c10 x11 a12 l12 c12 h
theorem D3.ok (R : Rt) (fr : Fr) (h : Hp) (g : D3.g R fr h) : den prog E (cAt C [true, true, true, true, true, true, true, true, true, true, true]) (retQ E [.tmp 4, .tmp 5] R) fr h := by
  obtain ⟨x8, e8, g⟩ := gInt_elim g
  obtain ⟨a10, l10, c10, e10, g⟩ := gSlice_elim g
  obtain ⟨x11, e11, g⟩ := gInt_elim g
  obtain ⟨a12, l12, c12, e12, g⟩ := gSlice_elim g
  exact den_enter [(8, .int .i64 x8), (10, .slice a10 l10 c10), (11, .int .i64 x11), (12, .slice a12 l12 c12)] ⟨e8, e10, e11, e12, trivial⟩ (by kernel_rfl) g
def L5.g (N : Int → Option Addr → Nat → Nat → Option Addr → Nat → Nat → Int → Option Addr → Nat → Nat → Int → Hp → Prop) (fr : Fr) (h : Hp) : Prop := gInt .i64 (fr 8) fun x8 => gSlice (fr 9) fun a9 l9 c9 => gSlice (fr 10) fun a10 l10 c10 => gInt .i64 (fr 11) fun x11 => gSlice (fr 12) fun a12 l12 c12 => gInt .i64 (fr 13) fun x13 => N x8 a9 l9 c9 a10 l10 c10 x11 a12 l12 c12 x13 h
def D6.t (R : Rt) (N5 : Int → Option Addr → Nat → Nat → Option Addr → Nat → Nat → Int → Option Addr → Nat → Nat → Int → Hp → Prop) (x8 : Int) (a9 : Option Addr) (l9 : Nat) (c9 : Nat) (a10 : Option Addr) (l10 : Nat) (c10 : Nat) (x11 : Int) (a12 : Option Addr) (l12 : Nat) (c12 : Nat) (x13 : Int) (h : Hp) : Prop :=
  cond (decide (x13 ≥ 0)) (letK (IntKind.i64.wrap (x13 + x11)) fun n57 =>
  letK (IntKind.i64.wrap (n57 + 1)) fun n58 =>
  slK 1 a10 l10 c10 (some (.int .i64 x13)) (some (.int .i64 n58)) none fun a_59 l_59 c_59 =>
  HC gnomonref01_digit.id #[.slice a_59 l_59 c_59, .slice a9 l9 c9] h fun v60 h61 =>
  gInt .u32 v60 fun x_62 =>
  idxK a12 l12 x13 1 fun q63 =>
  stK h61 q63 (.int .u32 x_62) fun h64 =>
  letK (IntKind.i64.wrap (x13 - 1)) fun n65 =>
  N5 x8 a9 l9 c9 a10 l10 c10 x11 a12 l12 c12 n65 h64) (D3.t R x8 a10 l10 c10 x11 a12 l12 c12 h)
def D6.g (R : Rt) (N5 : Int → Option Addr → Nat → Nat → Option Addr → Nat → Nat → Int → Option Addr → Nat → Nat → Int → Hp → Prop) (fr : Fr) (h : Hp) : Prop := gInt .i64 (fr 8) fun x8 => gSlice (fr 9) fun a9 l9 c9 => gSlice (fr 10) fun a10 l10 c10 => gInt .i64 (fr 11) fun x11 => gSlice (fr 12) fun a12 l12 c12 => gInt .i64 (fr 13) fun x13 => D6.t R N5 x8 a9 l9 c9 a10 l10 c10 x11 a12 l12 c12 x13 h
theorem D6.ok (R : Rt) (N5 : Int → Option Addr → Nat → Nat → Option Addr → Nat → Nat → Int → Option Addr → Nat → Nat → Int → Hp → Prop) (fr : Fr) (h : Hp) (g : D6.g R N5 fr h) : den prog E (cAt C [true, true, true, true, true, true, true, true, true, true, false, true, false, false]) (Ex.then (L5.g N5) (Ex.inBlock 2 (Ex.then (D3.g R) (retQ E [.tmp 4, .tmp 5] R)))) fr h := by
  obtain ⟨x8, e8, g⟩ := gInt_elim g
  obtain ⟨a9, l9, c9, e9, g⟩ := gSlice_elim g
  obtain ⟨a10, l10, c10, e10, g⟩ := gSlice_elim g
  obtain ⟨x11, e11, g⟩ := gInt_elim g
  obtain ⟨a12, l12, c12, e12, g⟩ := gSlice_elim g
  obtain ⟨x13, e13, g⟩ := gInt_elim g
  exact den_enter [(8, .int .i64 x8), (9, .slice a9 l9 c9), (10, .slice a10 l10 c10), (11, .int .i64 x11), (12, .slice a12 l12 c12), (13, .int .i64 x13)] ⟨e8, e9, e10, e11, e12, e13, trivial⟩ (by kernel_rfl) g
def L5.t (R : Rt) : Nat → Int → Option Addr → Nat → Nat → Option Addr → Nat → Nat → Int → Option Addr → Nat → Nat → Int → Hp → Prop
  | 0 => fun _ _ _ _ _ _ _ _ _ _ _ _ _ => False
  | n + 1 => fun x8 a9 l9 c9 a10 l10 c10 x11 a12 l12 c12 x13 h => D6.t R (L5.t R n) x8 a9 l9 c9 a10 l10 c10 x11 a12 l12 c12 x13 h
theorem L5.ok (R : Rt) (fr : Fr) (h : Hp) (g : L5.g (fun x8 a9 l9 c9 a10 l10 c10 x11 a12 l12 c12 x13 h => ∃ n, L5.t R n x8 a9 l9 c9 a10 l10 c10 x11 a12 l12 c12 x13 h) fr h) : den prog E (cAt C [true, true, true, true, true, true, true, true, true, true, false, true, false]) (Ex.inBlock 2 (Ex.then (D3.g R) (retQ E [.tmp 4, .tmp 5] R))) fr h := by
  obtain ⟨x8, e8, g⟩ := gInt_elim g
  obtain ⟨a9, l9, c9, e9, g⟩ := gSlice_elim g
  obtain ⟨a10, l10, c10, e10, g⟩ := gSlice_elim g
  obtain ⟨x11, e11, g⟩ := gInt_elim g
  obtain ⟨a12, l12, c12, e12, g⟩ := gSlice_elim g
  obtain ⟨x13, e13, g⟩ := gInt_elim g
  obtain ⟨n, g⟩ := g
  refine loop_ok (fun n => L5.g (L5.t R n)) (b := (cAt C [true, true, true, true, true, true, true, true, true, true, false, true, false, false])) (by kernel_rfl) (fun fr h g => ?_) (fun n => D6.ok R (L5.t R n)) n fr h (gInt_intro e8 (gSlice_intro e9 (gSlice_intro e10 (gInt_intro e11 (gSlice_intro e12 (gInt_intro e13 (g)))))))
  obtain ⟨x8, e8, g⟩ := gInt_elim g
  obtain ⟨a9, l9, c9, e9, g⟩ := gSlice_elim g
  obtain ⟨a10, l10, c10, e10, g⟩ := gSlice_elim g
  obtain ⟨x11, e11, g⟩ := gInt_elim g
  obtain ⟨a12, l12, c12, e12, g⟩ := gSlice_elim g
  obtain ⟨x13, e13, g⟩ := gInt_elim g
  exact g
theorem B7.ok (R : Rt) (fr : Fr) (h : Hp) (g : L5.g (fun x8 a9 l9 c9 a10 l10 c10 x11 a12 l12 c12 x13 h => ∃ n, L5.t R n x8 a9 l9 c9 a10 l10 c10 x11 a12 l12 c12 x13 h) fr h) : den prog E (cAt C [true, true, true, true, true, true, true, true, true, true, false, true]) (Ex.then (D3.g R) (retQ E [.tmp 4, .tmp 5] R)) fr h :=
  den_block (by kernel_rfl) (L5.ok R fr h g)
def D4.t (R : Rt) (x8 : Int) (a9 : Option Addr) (l9 : Nat) (c9 : Nat) (a10 : Option Addr) (l10 : Nat) (c10 : Nat) (x11 : Int) (a12 : Option Addr) (l12 : Nat) (c12 : Nat) (h : Hp) : Prop :=
  letK (IntKind.i64.wrap ((((l10 : Nat) : Int)) - x11)) fun n55 =>
  letK (IntKind.i64.wrap (n55 - 1)) fun n56 =>
  (∃ n, L5.t R n x8 a9 l9 c9 a10 l10 c10 x11 a12 l12 c12 n56 h)
def D4.g (R : Rt) (fr : Fr) (h : Hp) : Prop := gInt .i64 (fr 8) fun x8 => gSlice (fr 9) fun a9 l9 c9 => gSlice (fr 10) fun a10 l10 c10 => gInt .i64 (fr 11) fun x11 => gSlice (fr 12) fun a12 l12 c12 => D4.t R x8 a9 l9 c9 a10 l10 c10 x11 a12 l12 c12 h
theorem D4.ok (R : Rt) (fr : Fr) (h : Hp) (g : D4.g R fr h) : den prog E (cAt C [true, true, true, true, true, true, true, true, true, true, false]) (Ex.then (D3.g R) (retQ E [.tmp 4, .tmp 5] R)) fr h := by
  obtain ⟨x8, e8, g⟩ := gInt_elim g
  obtain ⟨a9, l9, c9, e9, g⟩ := gSlice_elim g
  obtain ⟨a10, l10, c10, e10, g⟩ := gSlice_elim g
  obtain ⟨x11, e11, g⟩ := gInt_elim g
  obtain ⟨a12, l12, c12, e12, g⟩ := gSlice_elim g
  exact den_cut 1 (r := (cAt C [true, true, true, true, true, true, true, true, true, true, false, true])) (by kernel_rfl) (B7.ok R) (den_enter [(8, .int .i64 x8), (9, .slice a9 l9 c9), (10, .slice a10 l10 c10), (11, .int .i64 x11), (12, .slice a12 l12 c12)] ⟨e8, e9, e10, e11, e12, trivial⟩ (by kernel_rfl) g)
theorem W8.ok (R : Rt) (fr : Fr) (h : Hp) (g : D4.g R fr h) : den prog E (cAt C [true, true, true, true, true, true, true, true, true, true]) (retQ E [.tmp 4, .tmp 5] R) fr h :=
  den_then (by kernel_rfl) (D3.ok R) (D4.ok R fr h g)
def D2.t (R : Rt) (x8 : Int) (a9 : Option Addr) (l9 : Nat) (c9 : Nat) (a10 : Option Addr) (l10 : Nat) (c10 : Nat) (h : Hp) : Prop :=
  letK (IntKind.i64.wrap ((((l10 : Nat) : Int)) - (((l9 : Nat) : Int)))) fun n42 =>
  mkK h 89 T89 n42 n42 fun q43 h44 =>
  D4.t R x8 a9 l9 c9 a10 l10 c10 (((l9 : Nat) : Int)) (some q43) n42.toNat n42.toNat h44
def D2.g (R : Rt) (fr : Fr) (h : Hp) : Prop := gInt .i64 (fr 8) fun x8 => gSlice (fr 9) fun a9 l9 c9 => gSlice (fr 10) fun a10 l10 c10 => D2.t R x8 a9 l9 c9 a10 l10 c10 h
theorem D2.ok (R : Rt) (fr : Fr) (h : Hp) (g : D2.g R fr h) : den prog E (cAt C [true, true, true, true, true, true, true, true]) (retQ E [.tmp 4, .tmp 5] R) fr h := by
  obtain ⟨x8, e8, g⟩ := gInt_elim g
  obtain ⟨a9, l9, c9, e9, g⟩ := gSlice_elim g
  obtain ⟨a10, l10, c10, e10, g⟩ := gSlice_elim g
  exact den_cut 2 (r := (cAt C [true, true, true, true, true, true, true, true, true, true])) (by kernel_rfl) (W8.ok R) (den_enter [(8, .int .i64 x8), (9, .slice a9 l9 c9), (10, .slice a10 l10 c10)] ⟨e8, e9, e10, trivial⟩ (by kernel_rfl) g)
def L9.g (N : Option Addr → Nat → Nat → Int → Option Addr → Nat → Nat → Option Addr → Nat → Nat → Hp → Prop) (fr : Fr) (h : Hp) : Prop := gSlice (fr 0) fun a0 l0 c0 => gInt .i64 (fr 8) fun x8 => gSlice (fr 9) fun a9 l9 c9 => gSlice (fr 10) fun a10 l10 c10 => N a0 l0 c0 x8 a9 l9 c9 a10 l10 c10 h
def D10.t (R : Rt) (N9 : Option Addr → Nat → Nat → Int → Option Addr → Nat → Nat → Option Addr → Nat → Nat → Hp → Prop) (a0 : Option Addr) (l0 : Nat) (c0 : Nat) (x8 : Int) (a9 : Option Addr) (l9 : Nat) (c9 : Nat) (a10 : Option Addr) (l10 : Nat) (c10 : Nat) (h : Hp) : Prop :=
  cond (decide ((((l10 : Nat) : Int)) ≤ (((l0 : Nat) : Int)))) (boxK h 89 [.int .u32 0] fun q66 h67 =>
  apK h67 89 T89 a10 l10 c10 (.slice (some q66) 1 1) fun a_68 l_68 c_68 h68 =>
  N9 a0 l0 c0 x8 a9 l9 c9 a_68 l_68 c_68 h68) (D2.t R x8 a9 l9 c9 a10 l10 c10 h)
def D10.g (R : Rt) (N9 : Option Addr → Nat → Nat → Int → Option Addr → Nat → Nat → Option Addr → Nat → Nat → Hp → Prop) (fr : Fr) (h : Hp) : Prop := gSlice (fr 0) fun a0 l0 c0 => gInt .i64 (fr 8) fun x8 => gSlice (fr 9) fun a9 l9 c9 => gSlice (fr 10) fun a10 l10 c10 => D10.t R N9 a0 l0 c0 x8 a9 l9 c9 a10 l10 c10 h
theorem D10.ok (R : Rt) (N9 : Option Addr → Nat → Nat → Int → Option Addr → Nat → Nat → Option Addr → Nat → Nat → Hp → Prop) (fr : Fr) (h : Hp) (g : D10.g R N9 fr h) : den prog E (cAt C [true, true, true, true, true, true, true, false, false, false]) (Ex.then (L9.g N9) (Ex.inBlock 0 (Ex.then (D2.g R) (retQ E [.tmp 4, .tmp 5] R)))) fr h := by
  obtain ⟨a0, l0, c0, e0, g⟩ := gSlice_elim g
  obtain ⟨x8, e8, g⟩ := gInt_elim g
  obtain ⟨a9, l9, c9, e9, g⟩ := gSlice_elim g
  obtain ⟨a10, l10, c10, e10, g⟩ := gSlice_elim g
  exact den_enter [(0, .slice a0 l0 c0), (8, .int .i64 x8), (9, .slice a9 l9 c9), (10, .slice a10 l10 c10)] ⟨e0, e8, e9, e10, trivial⟩ (by kernel_rfl) g
def L9.t (R : Rt) : Nat → Option Addr → Nat → Nat → Int → Option Addr → Nat → Nat → Option Addr → Nat → Nat → Hp → Prop
  | 0 => fun _ _ _ _ _ _ _ _ _ _ _ => False
  | n + 1 => fun a0 l0 c0 x8 a9 l9 c9 a10 l10 c10 h => D10.t R (L9.t R n) a0 l0 c0 x8 a9 l9 c9 a10 l10 c10 h
theorem L9.ok (R : Rt) (fr : Fr) (h : Hp) (g : L9.g (fun a0 l0 c0 x8 a9 l9 c9 a10 l10 c10 h => ∃ n, L9.t R n a0 l0 c0 x8 a9 l9 c9 a10 l10 c10 h) fr h) : den prog E (cAt C [true, true, true, true, true, true, true, false, false]) (Ex.inBlock 0 (Ex.then (D2.g R) (retQ E [.tmp 4, .tmp 5] R))) fr h := by
  obtain ⟨a0, l0, c0, e0, g⟩ := gSlice_elim g
  obtain ⟨x8, e8, g⟩ := gInt_elim g
  obtain ⟨a9, l9, c9, e9, g⟩ := gSlice_elim g
  obtain ⟨a10, l10, c10, e10, g⟩ := gSlice_elim g
  obtain ⟨n, g⟩ := g
  refine loop_ok (fun n => L9.g (L9.t R n)) (b := (cAt C [true, true, true, true, true, true, true, false, false, false])) (by kernel_rfl) (fun fr h g => ?_) (fun n => D10.ok R (L9.t R n)) n fr h (gSlice_intro e0 (gInt_intro e8 (gSlice_intro e9 (gSlice_intro e10 (g)))))
  obtain ⟨a0, l0, c0, e0, g⟩ := gSlice_elim g
  obtain ⟨x8, e8, g⟩ := gInt_elim g
  obtain ⟨a9, l9, c9, e9, g⟩ := gSlice_elim g
  obtain ⟨a10, l10, c10, e10, g⟩ := gSlice_elim g
  exact g
theorem B11.ok (R : Rt) (fr : Fr) (h : Hp) (g : L9.g (fun a0 l0 c0 x8 a9 l9 c9 a10 l10 c10 h => ∃ n, L9.t R n a0 l0 c0 x8 a9 l9 c9 a10 l10 c10 h) fr h) : den prog E (cAt C [true, true, true, true, true, true, true, false]) (Ex.then (D2.g R) (retQ E [.tmp 4, .tmp 5] R)) fr h :=
  den_block (by kernel_rfl) (L9.ok R fr h g)
theorem W12.ok (R : Rt) (fr : Fr) (h : Hp) (g : L9.g (fun a0 l0 c0 x8 a9 l9 c9 a10 l10 c10 h => ∃ n, L9.t R n a0 l0 c0 x8 a9 l9 c9 a10 l10 c10 h) fr h) : den prog E (cAt C [true, true, true, true, true, true, true]) (retQ E [.tmp 4, .tmp 5] R) fr h :=
  den_then (by kernel_rfl) (D2.ok R) (B11.ok R fr h g)
def D1.t (R : Rt) (a0 : Option Addr) (l0 : Nat) (c0 : Nat) (a1 : Option Addr) (l1 : Nat) (c1 : Nat) (h : Hp) : Prop :=
  cond ((((l1 : Nat) : Int)) == 0) (HC gnomonref01_Word.id #[.int .u64 0] h fun v1 h2 =>
  gSlice v1 fun a_3 l_3 c_3 =>
  HC gnomonref01_Word.id #[.int .u64 0] h2 fun v4 h5 =>
  gSlice v4 fun a_6 l_6 c_6 =>
  R (.tuple #[.slice a_3 l_3 c_3, .slice a_6 l_6 c_6]) h5) (HC gnomonref01_Cmp.id #[.slice a0 l0 c0, .slice a1 l1 c1] h fun v7 h8 =>
  gInt .i64 v7 fun x_9 =>
  cond (decide (x_9 < 0)) (HC gnomonref01_Word.id #[.int .u64 0] h8 fun v10 h11 =>
  gSlice v10 fun a_12 l_12 c_12 =>
  HC gnomonref01_Norm.id #[.slice a0 l0 c0] h11 fun v13 h14 =>
  gSlice v13 fun a_15 l_15 c_15 =>
  R (.tuple #[.slice a_12 l_12 c_12, .slice a_15 l_15 c_15]) h14) (cond ((((l1 : Nat) : Int)) == 1) (idxK a1 l1 0 1 fun q16 =>
  ldK h8 q16 fun v17 =>
  gInt .u32 v17 fun x_18 =>
  HC gnomonref01_DivSmall.id #[.slice a0 l0 c0, .int .u32 x_18] h8 fun v19 h20 =>
  gTup v19 fun y21 =>
  uncons y21 fun v22 y22 =>
  gSlice v22 fun a_23 l_23 c_23 =>
  uncons y22 fun v24 y24 =>
  gInt .u32 v24 fun x_25 =>
  unnil y24 <| letK (IntKind.u64.wrap x_25) fun n26 =>
  HC gnomonref01_Word.id #[.int .u64 n26] h20 fun v27 h28 =>
  gSlice v27 fun a_29 l_29 c_29 =>
  R (.tuple #[.slice a_23 l_23 c_23, .slice a_29 l_29 c_29]) h28) (letK (IntKind.i64.wrap ((((l1 : Nat) : Int)) - 1)) fun n30 =>
  slK 1 a1 l1 c1 (some (.int .i64 n30)) none none fun a_31 l_31 c_31 =>
  HC gnomonref01_Bits.id #[.slice a_31 l_31 c_31] h8 fun v32 h33 =>
  gInt .i64 v32 fun x_34 =>
  letK (IntKind.i64.wrap (32 - x_34)) fun n35 =>
  HC gnomonref01_Shl.id #[.slice a1 l1 c1, .int .i64 n35] h33 fun v36 h37 =>
  gSlice v36 fun a_38 l_38 c_38 =>
  HC gnomonref01_Shl.id #[.slice a0 l0 c0, .int .i64 n35] h37 fun v39 h40 =>
  gSlice v39 fun a_41 l_41 c_41 =>
  (∃ n, L9.t R n a0 l0 c0 n35 a_38 l_38 c_38 a_41 l_41 c_41 h40))))
def D1.g (R : Rt) (fr : Fr) (h : Hp) : Prop := gSlice (fr 0) fun a0 l0 c0 => gSlice (fr 1) fun a1 l1 c1 => D1.t R a0 l0 c0 a1 l1 c1 h
theorem D1.ok (R : Rt) (fr : Fr) (h : Hp) (g : D1.g R fr h) : den prog E C (retQ E [.tmp 4, .tmp 5] R) fr h := by
  obtain ⟨a0, l0, c0, e0, g⟩ := gSlice_elim g
  obtain ⟨a1, l1, c1, e1, g⟩ := gSlice_elim g
  exact den_cut 7 (r := (cAt C [true, true, true, true, true, true, true])) (by kernel_rfl) (W12.ok R) (den_enter [(0, .slice a0 l0 c0), (1, .slice a1 l1 c1)] ⟨e0, e1, trivial⟩ (by kernel_rfl) g)
def t (a0 : Option Addr) (l0 : Nat) (c0 : Nat) (a1 : Option Addr) (l1 : Nat) (c1 : Nat) (h : Hp) (R : Rt) : Prop := D1.t R a0 l0 c0 a1 l1 c1 h
theorem ok {a0 : Option Addr} {l0 : Nat} {c0 : Nat} {a1 : Option Addr} {l1 : Nat} {c1 : Nat} {h : Hp} {R : Rt} (g : t a0 l0 c0 a1 l1 c1 h R) : HC id #[.slice a0 l0 c0, .slice a1 l1 c1] h R :=
  calls_of_den' envOk (c := C) (rs := [.tmp 4, .tmp 5]) Tryz.func68 (by kernel_rfl) (by kernel_rfl) (by kernel_rfl) (args := [.slice a0 l0 c0, .slice a1 l1 c1]) (by kernel_rfl) (D1.ok R _ h (gSlice_intro rfl (gSlice_intro rfl (g))))
end gnomonref01_DivMod







namespace gnomonref01_MulSmall
noncomputable def C : Code := bodyOf Tryz.f75
def D2.t (R : Rt) (a7 : Option Addr) (l7 : Nat) (c7 : Nat) (x8 : Int) (h : Hp) : Prop :=
  letK (IntKind.u32.wrap x8) fun n5 =>
  boxK h 89 [.int .u32 n5] fun q6 h7 =>
  apK h7 89 T89 a7 l7 c7 (.slice (some q6) 1 1) fun a_8 l_8 c_8 h8 =>
  HC gnomonref01_Norm.id #[.slice a_8 l_8 c_8] h8 fun v9 h10 =>
  gSlice v9 fun a_11 l_11 c_11 =>
  R (.slice a_11 l_11 c_11) h10
def D2.g (R : Rt) (fr : Fr) (h : Hp) : Prop := gSlice (fr 7) fun a7 l7 c7 => gInt .u64 (fr 8) fun x8 => D2.t R a7 l7 c7 x8 h
theorem D2.ok (R : Rt) (fr : Fr) (h : Hp) (g : D2.g R fr h) : den prog E (cAt C [true, true, true, true]) (retQ E [.tmp 6] R) fr h := by
  obtain ⟨a7, l7, c7, e7, g⟩ := gSlice_elim g
  obtain ⟨x8, e8, g⟩ := gInt_elim g
  exact den_enter [(7, .slice a7 l7 c7), (8, .int .u64 x8)] ⟨e7, e8, trivial⟩ (by kernel_rfl) g
def L4.g (N : Option Addr → Nat → Nat → Int → Option Addr → Nat → Nat → Int → Int → Hp → Prop) (fr : Fr) (h : Hp) : Prop := gSlice (fr 0) fun a0 l0 c0 => gInt .u32 (fr 1) fun x1 => gSlice (fr 7) fun a7 l7 c7 => gInt .u64 (fr 8) fun x8 => gInt .i64 (fr 9) fun x9 => N a0 l0 c0 x1 a7 l7 c7 x8 x9 h
def D5.t (R : Rt) (N4 : Option Addr → Nat → Nat → Int → Option Addr → Nat → Nat → Int → Int → Hp → Prop) (a0 : Option Addr) (l0 : Nat) (c0 : Nat) (x1 : Int) (a7 : Option Addr) (l7 : Nat) (c7 : Nat) (x8 : Int) (x9 : Int) (h : Hp) : Prop :=
  cond (decide (x9 < (((l0 : Nat) : Int)))) (idxK a0 l0 x9 1 fun q12 =>
  ldK h q12 fun v13 =>
  gInt .u32 v13 fun x_14 =>
  letK (IntKind.u64.wrap x_14) fun n15 =>
  letK (IntKind.u64.wrap x1) fun n16 =>
  letK (IntKind.u64.wrap (n15 * n16)) fun n17 =>
  letK (IntKind.u64.wrap (x8 + n17)) fun n18 =>
  letK (andI .u64 n18 4294967295) fun n19 =>
  letK (IntKind.u32.wrap n19) fun n20 =>
  boxK h 89 [.int .u32 n20] fun q21 h22 =>
  apK h22 89 T89 a7 l7 c7 (.slice (some q21) 1 1) fun a_23 l_23 c_23 h23 =>
  0 ≤ (32 : Int) ∧ letK (shrI .u64 n18 32) fun n24 =>
  letK (IntKind.i64.wrap (x9 + 1)) fun n25 =>
  N4 a0 l0 c0 x1 a_23 l_23 c_23 n24 n25 h23) (D2.t R a7 l7 c7 x8 h)
def D5.g (R : Rt) (N4 : Option Addr → Nat → Nat → Int → Option Addr → Nat → Nat → Int → Int → Hp → Prop) (fr : Fr) (h : Hp) : Prop := gSlice (fr 0) fun a0 l0 c0 => gInt .u32 (fr 1) fun x1 => gSlice (fr 7) fun a7 l7 c7 => gInt .u64 (fr 8) fun x8 => gInt .i64 (fr 9) fun x9 => D5.t R N4 a0 l0 c0 x1 a7 l7 c7 x8 x9 h
theorem D5.ok (R : Rt) (N4 : Option Addr → Nat → Nat → Int → Option Addr → Nat → Nat → Int → Int → Hp → Prop) (fr : Fr) (h : Hp) (g : D5.g R N4 fr h) : den prog E (cAt C [true, true, true, false, true, false, false]) (Ex.then (L4.g N4) (Ex.inBlock 0 (Ex.then (D2.g R) (retQ E [.tmp 6] R)))) fr h := by
  obtain ⟨a0, l0, c0, e0, g⟩ := gSlice_elim g
  obtain ⟨x1, e1, g⟩ := gInt_elim g
  obtain ⟨a7, l7, c7, e7, g⟩ := gSlice_elim g
  obtain ⟨x8, e8, g⟩ := gInt_elim g
  obtain ⟨x9, e9, g⟩ := gInt_elim g
  exact den_enter [(0, .slice a0 l0 c0), (1, .int .u32 x1), (7, .slice a7 l7 c7), (8, .int .u64 x8), (9, .int .i64 x9)] ⟨e0, e1, e7, e8, e9, trivial⟩ (by kernel_rfl) g
def L4.t (R : Rt) : Nat → Option Addr → Nat → Nat → Int → Option Addr → Nat → Nat → Int → Int → Hp → Prop
  | 0 => fun _ _ _ _ _ _ _ _ _ _ => False
  | n + 1 => fun a0 l0 c0 x1 a7 l7 c7 x8 x9 h => D5.t R (L4.t R n) a0 l0 c0 x1 a7 l7 c7 x8 x9 h
theorem L4.ok (R : Rt) (fr : Fr) (h : Hp) (g : L4.g (fun a0 l0 c0 x1 a7 l7 c7 x8 x9 h => ∃ n, L4.t R n a0 l0 c0 x1 a7 l7 c7 x8 x9 h) fr h) : den prog E (cAt C [true, true, true, false, true, false]) (Ex.inBlock 0 (Ex.then (D2.g R) (retQ E [.tmp 6] R))) fr h := by
  obtain ⟨a0, l0, c0, e0, g⟩ := gSlice_elim g
  obtain ⟨x1, e1, g⟩ := gInt_elim g
  obtain ⟨a7, l7, c7, e7, g⟩ := gSlice_elim g
  obtain ⟨x8, e8, g⟩ := gInt_elim g
  obtain ⟨x9, e9, g⟩ := gInt_elim g
  obtain ⟨n, g⟩ := g
  refine loop_ok (fun n => L4.g (L4.t R n)) (b := (cAt C [true, true, true, false, true, false, false])) (by kernel_rfl) (fun fr h g => ?_) (fun n => D5.ok R (L4.t R n)) n fr h (gSlice_intro e0 (gInt_intro e1 (gSlice_intro e7 (gInt_intro e8 (gInt_intro e9 (g))))))
  obtain ⟨a0, l0, c0, e0, g⟩ := gSlice_elim g
  obtain ⟨x1, e1, g⟩ := gInt_elim g
  obtain ⟨a7, l7, c7, e7, g⟩ := gSlice_elim g
  obtain ⟨x8, e8, g⟩ := gInt_elim g
  obtain ⟨x9, e9, g⟩ := gInt_elim g
  exact g
theorem B6.ok (R : Rt) (fr : Fr) (h : Hp) (g : L4.g (fun a0 l0 c0 x1 a7 l7 c7 x8 x9 h => ∃ n, L4.t R n a0 l0 c0 x1 a7 l7 c7 x8 x9 h) fr h) : den prog E (cAt C [true, true, true, false, true]) (Ex.then (D2.g R) (retQ E [.tmp 6] R)) fr h :=
  den_block (by kernel_rfl) (L4.ok R fr h g)
def D3.t (R : Rt) (a0 : Option Addr) (l0 : Nat) (c0 : Nat) (x1 : Int) (a7 : Option Addr) (l7 : Nat) (c7 : Nat) (x8 : Int) (h : Hp) : Prop :=
  (∃ n, L4.t R n a0 l0 c0 x1 a7 l7 c7 x8 0 h)
def D3.g (R : Rt) (fr : Fr) (h : Hp) : Prop := gSlice (fr 0) fun a0 l0 c0 => gInt .u32 (fr 1) fun x1 => gSlice (fr 7) fun a7 l7 c7 => gInt .u64 (fr 8) fun x8 => D3.t R a0 l0 c0 x1 a7 l7 c7 x8 h
theorem D3.ok (R : Rt) (fr : Fr) (h : Hp) (g : D3.g R fr h) : den prog E (cAt C [true, true, true, false]) (Ex.then (D2.g R) (retQ E [.tmp 6] R)) fr h := by
  obtain ⟨a0, l0, c0, e0, g⟩ := gSlice_elim g
  obtain ⟨x1, e1, g⟩ := gInt_elim g
  obtain ⟨a7, l7, c7, e7, g⟩ := gSlice_elim g
  obtain ⟨x8, e8, g⟩ := gInt_elim g
  exact den_cut 1 (r := (cAt C [true, true, true, false, true])) (by kernel_rfl) (B6.ok R) (den_enter [(0, .slice a0 l0 c0), (1, .int .u32 x1), (7, .slice a7 l7 c7), (8, .int .u64 x8)] ⟨e0, e1, e7, e8, trivial⟩ (by kernel_rfl) g)
theorem W7.ok (R : Rt) (fr : Fr) (h : Hp) (g : D3.g R fr h) : den prog E (cAt C [true, true, true]) (retQ E [.tmp 6] R) fr h :=
  den_then (by kernel_rfl) (D2.ok R) (D3.ok R fr h g)
def D1.t (R : Rt) (a0 : Option Addr) (l0 : Nat) (c0 : Nat) (x1 : Int) (x2 : Int) (h : Hp) : Prop :=
  letK (IntKind.i64.wrap ((((l0 : Nat) : Int)) + 1)) fun n1 =>
  mkK h 89 T89 0 n1 fun q2 h3 =>
  letK (IntKind.u64.wrap x2) fun n4 =>
  D3.t R a0 l0 c0 x1 (some q2) ((0 : Int).toNat) n1.toNat n4 h3
def D1.g (R : Rt) (fr : Fr) (h : Hp) : Prop := gSlice (fr 0) fun a0 l0 c0 => gInt .u32 (fr 1) fun x1 => gInt .u32 (fr 2) fun x2 => D1.t R a0 l0 c0 x1 x2 h
theorem D1.ok (R : Rt) (fr : Fr) (h : Hp) (g : D1.g R fr h) : den prog E C (retQ E [.tmp 6] R) fr h := by
  obtain ⟨a0, l0, c0, e0, g⟩ := gSlice_elim g
  obtain ⟨x1, e1, g⟩ := gInt_elim g
  obtain ⟨x2, e2, g⟩ := gInt_elim g
  exact den_cut 3 (r := (cAt C [true, true, true])) (by kernel_rfl) (W7.ok R) (den_enter [(0, .slice a0 l0 c0), (1, .int .u32 x1), (2, .int .u32 x2)] ⟨e0, e1, e2, trivial⟩ (by kernel_rfl) g)
def t (a0 : Option Addr) (l0 : Nat) (c0 : Nat) (x1 : Int) (x2 : Int) (h : Hp) (R : Rt) : Prop := D1.t R a0 l0 c0 x1 x2 h
theorem ok {a0 : Option Addr} {l0 : Nat} {c0 : Nat} {x1 : Int} {x2 : Int} {h : Hp} {R : Rt} (g : t a0 l0 c0 x1 x2 h R) : HC id #[.slice a0 l0 c0, .int .u32 x1, .int .u32 x2] h R :=
  calls_of_den' envOk (c := C) (rs := [.tmp 6]) Tryz.func75 (by kernel_rfl) (by kernel_rfl) (by kernel_rfl) (args := [.slice a0 l0 c0, .int .u32 x1, .int .u32 x2]) (by kernel_rfl) (D1.ok R _ h (gSlice_intro rfl (gInt_intro rfl (gInt_intro rfl (g)))))
end gnomonref01_MulSmall





namespace gnomonref01_DivSmall
noncomputable def C : Code := bodyOf Tryz.f80
def D2.t (R : Rt) (a6 : Option Addr) (l6 : Nat) (c6 : Nat) (x7 : Int) (h : Hp) : Prop :=
  HC gnomonref01_Norm.id #[.slice a6 l6 c6] h fun v6 h7 =>
  gSlice v6 fun a_8 l_8 c_8 =>
  letK (IntKind.u32.wrap x7) fun n9 =>
  R (.tuple #[.slice a_8 l_8 c_8, .int .u32 n9]) h7
def D2.g (R : Rt) (fr : Fr) (h : Hp) : Prop := gSlice (fr 6) fun a6 l6 c6 => gInt .u64 (fr 7) fun x7 => D2.t R a6 l6 c6 x7 h
theorem D2.ok (R : Rt) (fr : Fr) (h : Hp) (g : D2.g R fr h) : den prog E (cAt C [true, true, true, true, true]) (retQ E [.tmp 4, .tmp 5] R) fr h := by
  obtain ⟨a6, l6, c6, e6, g⟩ := gSlice_elim g
  obtain ⟨x7, e7, g⟩ := gInt_elim g
  exact den_enter [(6, .slice a6 l6 c6), (7, .int .u64 x7)] ⟨e6, e7, trivial⟩ (by kernel_rfl) g
def L4.g (N : Option Addr → Nat → Nat → Int → Option Addr → Nat → Nat → Int → Int → Hp → Prop) (fr : Fr) (h : Hp) : Prop := gSlice (fr 0) fun a0 l0 c0 => gInt .u32 (fr 1) fun x1 => gSlice (fr 6) fun a6 l6 c6 => gInt .u64 (fr 7) fun x7 => gInt .i64 (fr 8) fun x8 => N a0 l0 c0 x1 a6 l6 c6 x7 x8 h
def D5.t (R : Rt) (N4 : Option Addr → Nat → Nat → Int → Option Addr → Nat → Nat → Int → Int → Hp → Prop) (a0 : Option Addr) (l0 : Nat) (c0 : Nat) (x1 : Int) (a6 : Option Addr) (l6 : Nat) (c6 : Nat) (x7 : Int) (x8 : Int) (h : Hp) : Prop :=
  cond (decide (x8 ≥ 0)) (0 ≤ (32 : Int) ∧ letK (shlI .u64 x7 32) fun n11 =>
  idxK a0 l0 x8 1 fun q12 =>
  ldK h q12 fun v13 =>
  gInt .u32 v13 fun x_14 =>
  letK (IntKind.u64.wrap x_14) fun n15 =>
  letK (IntKind.u64.wrap (n11 + n15)) fun n16 =>
  letK (IntKind.u64.wrap x1) fun n17 =>
  n17 ≠ 0 ∧ letK (IntKind.u64.wrap (Int.tdiv n16 n17)) fun n18 =>
  letK (IntKind.u32.wrap n18) fun n19 =>
  idxK a6 l6 x8 1 fun q20 =>
  stK h q20 (.int .u32 n19) fun h21 =>
  letK (IntKind.u64.wrap x1) fun n22 =>
  n22 ≠ 0 ∧ letK (Int.tmod n16 n22) fun n23 =>
  letK (IntKind.i64.wrap (x8 - 1)) fun n24 =>
  N4 a0 l0 c0 x1 a6 l6 c6 n23 n24 h21) (D2.t R a6 l6 c6 x7 h)
def D5.g (R : Rt) (N4 : Option Addr → Nat → Nat → Int → Option Addr → Nat → Nat → Int → Int → Hp → Prop) (fr : Fr) (h : Hp) : Prop := gSlice (fr 0) fun a0 l0 c0 => gInt .u32 (fr 1) fun x1 => gSlice (fr 6) fun a6 l6 c6 => gInt .u64 (fr 7) fun x7 => gInt .i64 (fr 8) fun x8 => D5.t R N4 a0 l0 c0 x1 a6 l6 c6 x7 x8 h
theorem D5.ok (R : Rt) (N4 : Option Addr → Nat → Nat → Int → Option Addr → Nat → Nat → Int → Int → Hp → Prop) (fr : Fr) (h : Hp) (g : D5.g R N4 fr h) : den prog E (cAt C [true, true, true, true, false, true, false, false]) (Ex.then (L4.g N4) (Ex.inBlock 0 (Ex.then (D2.g R) (retQ E [.tmp 4, .tmp 5] R)))) fr h := by
  obtain ⟨a0, l0, c0, e0, g⟩ := gSlice_elim g
  obtain ⟨x1, e1, g⟩ := gInt_elim g
  obtain ⟨a6, l6, c6, e6, g⟩ := gSlice_elim g
  obtain ⟨x7, e7, g⟩ := gInt_elim g
  obtain ⟨x8, e8, g⟩ := gInt_elim g
  exact den_enter [(0, .slice a0 l0 c0), (1, .int .u32 x1), (6, .slice a6 l6 c6), (7, .int .u64 x7), (8, .int .i64 x8)] ⟨e0, e1, e6, e7, e8, trivial⟩ (by kernel_rfl) g
def L4.t (R : Rt) : Nat → Option Addr → Nat → Nat → Int → Option Addr → Nat → Nat → Int → Int → Hp → Prop
  | 0 => fun _ _ _ _ _ _ _ _ _ _ => False
  | n + 1 => fun a0 l0 c0 x1 a6 l6 c6 x7 x8 h => D5.t R (L4.t R n) a0 l0 c0 x1 a6 l6 c6 x7 x8 h
theorem L4.ok (R : Rt) (fr : Fr) (h : Hp) (g : L4.g (fun a0 l0 c0 x1 a6 l6 c6 x7 x8 h => ∃ n, L4.t R n a0 l0 c0 x1 a6 l6 c6 x7 x8 h) fr h) : den prog E (cAt C [true, true, true, true, false, true, false]) (Ex.inBlock 0 (Ex.then (D2.g R) (retQ E [.tmp 4, .tmp 5] R))) fr h := by
  obtain ⟨a0, l0, c0, e0, g⟩ := gSlice_elim g
  obtain ⟨x1, e1, g⟩ := gInt_elim g
  obtain ⟨a6, l6, c6, e6, g⟩ := gSlice_elim g
  obtain ⟨x7, e7, g⟩ := gInt_elim g
  obtain ⟨x8, e8, g⟩ := gInt_elim g
  obtain ⟨n, g⟩ := g
  refine loop_ok (fun n => L4.g (L4.t R n)) (b := (cAt C [true, true, true, true, false, true, false, false])) (by kernel_rfl) (fun fr h g => ?_) (fun n => D5.ok R (L4.t R n)) n fr h (gSlice_intro e0 (gInt_intro e1 (gSlice_intro e6 (gInt_intro e7 (gInt_intro e8 (g))))))
  obtain ⟨a0, l0, c0, e0, g⟩ := gSlice_elim g
  obtain ⟨x1, e1, g⟩ := gInt_elim g
  obtain ⟨a6, l6, c6, e6, g⟩ := gSlice_elim g
  obtain ⟨x7, e7, g⟩ := gInt_elim g
  obtain ⟨x8, e8, g⟩ := gInt_elim g
  exact g
theorem B6.ok (R : Rt) (fr : Fr) (h : Hp) (g : L4.g (fun a0 l0 c0 x1 a6 l6 c6 x7 x8 h => ∃ n, L4.t R n a0 l0 c0 x1 a6 l6 c6 x7 x8 h) fr h) : den prog E (cAt C [true, true, true, true, false, true]) (Ex.then (D2.g R) (retQ E [.tmp 4, .tmp 5] R)) fr h :=
  den_block (by kernel_rfl) (L4.ok R fr h g)
def D3.t (R : Rt) (a0 : Option Addr) (l0 : Nat) (c0 : Nat) (x1 : Int) (a6 : Option Addr) (l6 : Nat) (c6 : Nat) (x7 : Int) (h : Hp) : Prop :=
  letK (IntKind.i64.wrap ((((l0 : Nat) : Int)) - 1)) fun n10 => (∃ n, L4.t R n a0 l0 c0 x1 a6 l6 c6 x7 n10 h)
def D3.g (R : Rt) (fr : Fr) (h : Hp) : Prop := gSlice (fr 0) fun a0 l0 c0 => gInt .u32 (fr 1) fun x1 => gSlice (fr 6) fun a6 l6 c6 => gInt .u64 (fr 7) fun x7 => D3.t R a0 l0 c0 x1 a6 l6 c6 x7 h
theorem D3.ok (R : Rt) (fr : Fr) (h : Hp) (g : D3.g R fr h) : den prog E (cAt C [true, true, true, true, false]) (Ex.then (D2.g R) (retQ E [.tmp 4, .tmp 5] R)) fr h := by
  obtain ⟨a0, l0, c0, e0, g⟩ := gSlice_elim g
  obtain ⟨x1, e1, g⟩ := gInt_elim g
  obtain ⟨a6, l6, c6, e6, g⟩ := gSlice_elim g
  obtain ⟨x7, e7, g⟩ := gInt_elim g
  exact den_cut 1 (r := (cAt C [true, true, true, true, false, true])) (by kernel_rfl) (B6.ok R) (den_enter [(0, .slice a0 l0 c0), (1, .int .u32 x1), (6, .slice a6 l6 c6), (7, .int .u64 x7)] ⟨e0, e1, e6, e7, trivial⟩ (by kernel_rfl) g)
theorem W7.ok (R : Rt) (fr : Fr) (h : Hp) (g : D3.g R fr h) : den prog E (cAt C [true, true, true, true]) (retQ E [.tmp 4, .tmp 5] R) fr h :=
  den_then (by kernel_rfl) (D2.ok R) (D3.ok R fr h g)
def D1.t (R : Rt) (a0 : Option Addr) (l0 : Nat) (c0 : Nat) (x1 : Int) (h : Hp) : Prop :=
  cond (x1 == 0) (HC gnomonref01_Word.id #[.int .u64 0] h fun v1 h2 =>
  gSlice v1 fun a_3 l_3 c_3 =>
  R (.tuple #[.slice a_3 l_3 c_3, .int .u32 0]) h2) (mkK h 89 T89 (((l0 : Nat) : Int)) (((l0 : Nat) : Int)) fun q4 h5 =>
  D3.t R a0 l0 c0 x1 (some q4) ((((l0 : Nat) : Int)).toNat) ((((l0 : Nat) : Int)).toNat) 0 h5)
def D1.g (R : Rt) (fr : Fr) (h : Hp) : Prop := gSlice (fr 0) fun a0 l0 c0 => gInt .u32 (fr 1) fun x1 => D1.t R a0 l0 c0 x1 h
theorem D1.ok (R : Rt) (fr : Fr) (h : Hp) (g : D1.g R fr h) : den prog E C (retQ E [.tmp 4, .tmp 5] R) fr h := by
  obtain ⟨a0, l0, c0, e0, g⟩ := gSlice_elim g
  obtain ⟨x1, e1, g⟩ := gInt_elim g
  exact den_cut 4 (r := (cAt C [true, true, true, true])) (by kernel_rfl) (W7.ok R) (den_enter [(0, .slice a0 l0 c0), (1, .int .u32 x1)] ⟨e0, e1, trivial⟩ (by kernel_rfl) g)
def t (a0 : Option Addr) (l0 : Nat) (c0 : Nat) (x1 : Int) (h : Hp) (R : Rt) : Prop := D1.t R a0 l0 c0 x1 h
theorem ok {a0 : Option Addr} {l0 : Nat} {c0 : Nat} {x1 : Int} {h : Hp} {R : Rt} (g : t a0 l0 c0 x1 h R) : HC id #[.slice a0 l0 c0, .int .u32 x1] h R :=
  calls_of_den' envOk (c := C) (rs := [.tmp 4, .tmp 5]) Tryz.func80 (by kernel_rfl) (by kernel_rfl) (by kernel_rfl) (args := [.slice a0 l0 c0, .int .u32 x1]) (by kernel_rfl) (D1.ok R _ h (gSlice_intro rfl (gInt_intro rfl (g))))
end gnomonref01_DivSmall

namespace gnomonref07_arctan
noncomputable def C : Code := bodyOf Tryz.f81
def D2.t (R : Rt) (a8 : Option Addr) (l8 : Nat) (c8 : Nat) (a9 : Option Addr) (l9 : Nat) (c9 : Nat) (x10 : Int) (h : Hp) : Prop :=
  HC gnomonref01_Sub.id #[.slice a8 l8 c8, .slice a9 l9 c9] h fun v17 h18 =>
  gSlice v17 fun a_19 l_19 c_19 =>
  R (.tuple #[.slice a_19 l_19 c_19, .int .i64 x10]) h18
def D2.g (R : Rt) (fr : Fr) (h : Hp) : Prop := gSlice (fr 8) fun a8 l8 c8 => gSlice (fr 9) fun a9 l9 c9 => gInt .i64 (fr 10) fun x10 => D2.t R a8 l8 c8 a9 l9 c9 x10 h
theorem D2.ok (R : Rt) (fr : Fr) (h : Hp) (g : D2.g R fr h) : den prog E (cAt C [true, true, true, true, true]) (retQ E [.tmp 4, .tmp 5] R) fr h := by
  obtain ⟨a8, l8, c8, e8, g⟩ := gSlice_elim g
  obtain ⟨a9, l9, c9, e9, g⟩ := gSlice_elim g
  obtain ⟨x10, e10, g⟩ := gInt_elim g
  exact den_enter [(8, .slice a8 l8 c8), (9, .slice a9 l9 c9), (10, .int .i64 x10)] ⟨e8, e9, e10, trivial⟩ (by kernel_rfl) g
def L4.g (N : Int → Option Addr → Nat → Nat → Option Addr → Nat → Nat → Option Addr → Nat → Nat → Int → Int → Hp → Prop) (fr : Fr) (h : Hp) : Prop := gInt .u32 (fr 0) fun x0 => gSlice (fr 6) fun a6 l6 c6 => gSlice (fr 8) fun a8 l8 c8 => gSlice (fr 9) fun a9 l9 c9 => gInt .i64 (fr 10) fun x10 => gInt .u32 (fr 11) fun x11 => N x0 a6 l6 c6 a8 l8 c8 a9 l9 c9 x10 x11 h
def D5.t (R : Rt) (N4 : Int → Option Addr → Nat → Nat → Option Addr → Nat → Nat → Option Addr → Nat → Nat → Int → Int → Hp → Prop) (x0 : Int) (a6 : Option Addr) (l6 : Nat) (c6 : Nat) (a8 : Option Addr) (l8 : Nat) (c8 : Nat) (a9 : Option Addr) (l9 : Nat) (c9 : Nat) (x10 : Int) (x11 : Int) (h : Hp) : Prop :=
  cond (decide ((((l6 : Nat) : Int)) > 0)) (HC gnomonref01_DivSmall.id #[.slice a6 l6 c6, .int .u32 x11] h fun v20 h21 =>
  gTup v20 fun y22 =>
  uncons y22 fun v23 y23 =>
  gSlice v23 fun a_24 l_24 c_24 =>
  uncons y23 fun v25 y25 =>
  gInt .u32 v25 fun x_26 =>
  unnil y25 <| (4 : Int) ≠ 0 ∧ letK (Int.tmod x11 4) fun n27 =>
  cond (n27 == 1) (HC gnomonref01_Add.id #[.slice a8 l8 c8, .slice a_24 l_24 c_24] h21 fun v28 h29 =>
  gSlice v28 fun a_30 l_30 c_30 =>
  HC gnomonref01_DivSmall.id #[.slice a6 l6 c6, .int .u32 x0] h29 fun v31 h32 =>
  gTup v31 fun y33 =>
  uncons y33 fun v34 y34 =>
  gSlice v34 fun a_35 l_35 c_35 =>
  uncons y34 fun v36 y36 =>
  gInt .u32 v36 fun x_37 =>
  unnil y36 <| HC gnomonref01_DivSmall.id #[.slice a_35 l_35 c_35, .int .u32 x0] h32 fun v38 h39 =>
  gTup v38 fun y40 =>
  uncons y40 fun v41 y41 =>
  gSlice v41 fun a_42 l_42 c_42 =>
  uncons y41 fun v43 y43 =>
  gInt .u32 v43 fun x_44 =>
  unnil y43 <| letK (IntKind.i64.wrap (x10 + 1)) fun n45 =>
  letK (IntKind.u32.wrap (x11 + 2)) fun n46 =>
  N4 x0 a_42 l_42 c_42 a_30 l_30 c_30 a9 l9 c9 n45 n46 h39) (HC gnomonref01_Add.id #[.slice a9 l9 c9, .slice a_24 l_24 c_24] h21 fun v47 h48 =>
  gSlice v47 fun a_49 l_49 c_49 =>
  HC gnomonref01_DivSmall.id #[.slice a6 l6 c6, .int .u32 x0] h48 fun v50 h51 =>
  gTup v50 fun y52 =>
  uncons y52 fun v53 y53 =>
  gSlice v53 fun a_54 l_54 c_54 =>
  uncons y53 fun v55 y55 =>
  gInt .u32 v55 fun x_56 =>
  unnil y55 <| HC gnomonref01_DivSmall.id #[.slice a_54 l_54 c_54, .int .u32 x0] h51 fun v57 h58 =>
  gTup v57 fun y59 =>
  uncons y59 fun v60 y60 =>
  gSlice v60 fun a_61 l_61 c_61 =>
  uncons y60 fun v62 y62 =>
  gInt .u32 v62 fun x_63 =>
  unnil y62 <| letK (IntKind.i64.wrap (x10 + 1)) fun n64 =>
  letK (IntKind.u32.wrap (x11 + 2)) fun n65 =>
  N4 x0 a_61 l_61 c_61 a8 l8 c8 a_49 l_49 c_49 n64 n65 h58)) (D2.t R a8 l8 c8 a9 l9 c9 x10 h)
def D5.g (R : Rt) (N4 : Int → Option Addr → Nat → Nat → Option Addr → Nat → Nat → Option Addr → Nat → Nat → Int → Int → Hp → Prop) (fr : Fr) (h : Hp) : Prop := gInt .u32 (fr 0) fun x0 => gSlice (fr 6) fun a6 l6 c6 => gSlice (fr 8) fun a8 l8 c8 => gSlice (fr 9) fun a9 l9 c9 => gInt .i64 (fr 10) fun x10 => gInt .u32 (fr 11) fun x11 => D5.t R N4 x0 a6 l6 c6 a8 l8 c8 a9 l9 c9 x10 x11 h
theorem D5.ok (R : Rt) (N4 : Int → Option Addr → Nat → Nat → Option Addr → Nat → Nat → Option Addr → Nat → Nat → Int → Int → Hp → Prop) (fr : Fr) (h : Hp) (g : D5.g R N4 fr h) : den prog E (cAt C [true, true, true, true, false, true, false, false]) (Ex.then (L4.g N4) (Ex.inBlock 0 (Ex.then (D2.g R) (retQ E [.tmp 4, .tmp 5] R)))) fr h := by
  obtain ⟨x0, e0, g⟩ := gInt_elim g
  obtain ⟨a6, l6, c6, e6, g⟩ := gSlice_elim g
  obtain ⟨a8, l8, c8, e8, g⟩ := gSlice_elim g
  obtain ⟨a9, l9, c9, e9, g⟩ := gSlice_elim g
  obtain ⟨x10, e10, g⟩ := gInt_elim g
  obtain ⟨x11, e11, g⟩ := gInt_elim g
  exact den_enter [(0, .int .u32 x0), (6, .slice a6 l6 c6), (8, .slice a8 l8 c8), (9, .slice a9 l9 c9), (10, .int .i64 x10), (11, .int .u32 x11)] ⟨e0, e6, e8, e9, e10, e11, trivial⟩ (by kernel_rfl) g
def L4.t (R : Rt) : Nat → Int → Option Addr → Nat → Nat → Option Addr → Nat → Nat → Option Addr → Nat → Nat → Int → Int → Hp → Prop
  | 0 => fun _ _ _ _ _ _ _ _ _ _ _ _ _ => False
  | n + 1 => fun x0 a6 l6 c6 a8 l8 c8 a9 l9 c9 x10 x11 h => D5.t R (L4.t R n) x0 a6 l6 c6 a8 l8 c8 a9 l9 c9 x10 x11 h
theorem L4.ok (R : Rt) (fr : Fr) (h : Hp) (g : L4.g (fun x0 a6 l6 c6 a8 l8 c8 a9 l9 c9 x10 x11 h => ∃ n, L4.t R n x0 a6 l6 c6 a8 l8 c8 a9 l9 c9 x10 x11 h) fr h) : den prog E (cAt C [true, true, true, true, false, true, false]) (Ex.inBlock 0 (Ex.then (D2.g R) (retQ E [.tmp 4, .tmp 5] R))) fr h := by
  obtain ⟨x0, e0, g⟩ := gInt_elim g
  obtain ⟨a6, l6, c6, e6, g⟩ := gSlice_elim g
  obtain ⟨a8, l8, c8, e8, g⟩ := gSlice_elim g
  obtain ⟨a9, l9, c9, e9, g⟩ := gSlice_elim g
  obtain ⟨x10, e10, g⟩ := gInt_elim g
  obtain ⟨x11, e11, g⟩ := gInt_elim g
  obtain ⟨n, g⟩ := g
  refine loop_ok (fun n => L4.g (L4.t R n)) (b := (cAt C [true, true, true, true, false, true, false, false])) (by kernel_rfl) (fun fr h g => ?_) (fun n => D5.ok R (L4.t R n)) n fr h (gInt_intro e0 (gSlice_intro e6 (gSlice_intro e8 (gSlice_intro e9 (gInt_intro e10 (gInt_intro e11 (g)))))))
  obtain ⟨x0, e0, g⟩ := gInt_elim g
  obtain ⟨a6, l6, c6, e6, g⟩ := gSlice_elim g
  obtain ⟨a8, l8, c8, e8, g⟩ := gSlice_elim g
  obtain ⟨a9, l9, c9, e9, g⟩ := gSlice_elim g
  obtain ⟨x10, e10, g⟩ := gInt_elim g
  obtain ⟨x11, e11, g⟩ := gInt_elim g
  exact g
theorem B6.ok (R : Rt) (fr : Fr) (h : Hp) (g : L4.g (fun x0 a6 l6 c6 a8 l8 c8 a9 l9 c9 x10 x11 h => ∃ n, L4.t R n x0 a6 l6 c6 a8 l8 c8 a9 l9 c9 x10 x11 h) fr h) : den prog E (cAt C [true, true, true, true, false, true]) (Ex.then (D2.g R) (retQ E [.tmp 4, .tmp 5] R)) fr h :=
  den_block (by kernel_rfl) (L4.ok R fr h g)
def D3.t (R : Rt) (x0 : Int) (a6 : Option Addr) (l6 : Nat) (c6 : Nat) (a8 : Option Addr) (l8 : Nat) (c8 : Nat) (a9 : Option Addr) (l9 : Nat) (c9 : Nat) (x10 : Int) (h : Hp) : Prop :=
  (∃ n, L4.t R n x0 a6 l6 c6 a8 l8 c8 a9 l9 c9 x10 1 h)
def D3.g (R : Rt) (fr : Fr) (h : Hp) : Prop := gInt .u32 (fr 0) fun x0 => gSlice (fr 6) fun a6 l6 c6 => gSlice (fr 8) fun a8 l8 c8 => gSlice (fr 9) fun a9 l9 c9 => gInt .i64 (fr 10) fun x10 => D3.t R x0 a6 l6 c6 a8 l8 c8 a9 l9 c9 x10 h
theorem D3.ok (R : Rt) (fr : Fr) (h : Hp) (g : D3.g R fr h) : den prog E (cAt C [true, true, true, true, false]) (Ex.then (D2.g R) (retQ E [.tmp 4, .tmp 5] R)) fr h := by
  obtain ⟨x0, e0, g⟩ := gInt_elim g
  obtain ⟨a6, l6, c6, e6, g⟩ := gSlice_elim g
  obtain ⟨a8, l8, c8, e8, g⟩ := gSlice_elim g
  obtain ⟨a9, l9, c9, e9, g⟩ := gSlice_elim g
  obtain ⟨x10, e10, g⟩ := gInt_elim g
  exact den_cut 1 (r := (cAt C [true, true, true, true, false, true])) (by kernel_rfl) (B6.ok R) (den_enter [(0, .int .u32 x0), (6, .slice a6 l6 c6), (8, .slice a8 l8 c8), (9, .slice a9 l9 c9), (10, .int .i64 x10)] ⟨e0, e6, e8, e9, e10, trivial⟩ (by kernel_rfl) g)
theorem W7.ok (R : Rt) (fr : Fr) (h : Hp) (g : D3.g R fr h) : den prog E (cAt C [true, true, true, true]) (retQ E [.tmp 4, .tmp 5] R) fr h :=
  den_then (by kernel_rfl) (D2.ok R) (D3.ok R fr h g)
def D1.t (R : Rt) (x0 : Int) (x1 : Int) (h : Hp) : Prop :=
  HC gnomonref01_Pow2.id #[.int .i64 x1] h fun v1 h2 =>
  gSlice v1 fun a_3 l_3 c_3 =>
  HC gnomonref01_DivSmall.id #[.slice a_3 l_3 c_3, .int .u32 x0] h2 fun v4 h5 =>
  gTup v4 fun y6 =>
  uncons y6 fun v7 y7 =>
  gSlice v7 fun a_8 l_8 c_8 =>
  uncons y7 fun v9 y9 =>
  gInt .u32 v9 fun x_10 =>
  unnil y9 <| HC gnomonref01_Word.id #[.int .u64 0] h5 fun v11 h12 =>
  gSlice v11 fun a_13 l_13 c_13 =>
  HC gnomonref01_Word.id #[.int .u64 0] h12 fun v14 h15 =>
  gSlice v14 fun a_16 l_16 c_16 =>
  D3.t R x0 a_8 l_8 c_8 a_13 l_13 c_13 a_16 l_16 c_16 0 h15
def D1.g (R : Rt) (fr : Fr) (h : Hp) : Prop := gInt .u32 (fr 0) fun x0 => gInt .i64 (fr 1) fun x1 => D1.t R x0 x1 h
theorem D1.ok (R : Rt) (fr : Fr) (h : Hp) (g : D1.g R fr h) : den prog E C (retQ E [.tmp 4, .tmp 5] R) fr h := by
  obtain ⟨x0, e0, g⟩ := gInt_elim g
  obtain ⟨x1, e1, g⟩ := gInt_elim g
  exact den_cut 4 (r := (cAt C [true, true, true, true])) (by kernel_rfl) (W7.ok R) (den_enter [(0, .int .u32 x0), (1, .int .i64 x1)] ⟨e0, e1, trivial⟩ (by kernel_rfl) g)
def t (x0 : Int) (x1 : Int) (h : Hp) (R : Rt) : Prop := D1.t R x0 x1 h
theorem ok {x0 : Int} {x1 : Int} {h : Hp} {R : Rt} (g : t x0 x1 h R) : HC id #[.int .u32 x0, .int .i64 x1] h R :=
  calls_of_den' envOk (c := C) (rs := [.tmp 4, .tmp 5]) Tryz.func81 (by kernel_rfl) (by kernel_rfl) (by kernel_rfl) (args := [.int .u32 x0, .int .i64 x1]) (by kernel_rfl) (D1.ok R _ h (gInt_intro rfl (gInt_intro rfl (g))))
end gnomonref07_arctan

namespace gnomonref01_Small
noncomputable def C : Code := bodyOf Tryz.f82
def D1.t (R : Rt) (x0 : Int) (h : Hp) : Prop :=
  cond (decide (x0 < 0)) (HC gnomonref01_Word.id #[.int .u64 0] h fun v1 h2 =>
  gSlice v1 fun a_3 l_3 c_3 =>
  R (.slice a_3 l_3 c_3) h2) (letK (IntKind.u64.wrap x0) fun n4 =>
  HC gnomonref01_Word.id #[.int .u64 n4] h fun v5 h6 =>
  gSlice v5 fun a_7 l_7 c_7 =>
  R (.slice a_7 l_7 c_7) h6)
def D1.g (R : Rt) (fr : Fr) (h : Hp) : Prop := gInt .i64 (fr 0) fun x0 => D1.t R x0 h
theorem D1.ok (R : Rt) (fr : Fr) (h : Hp) (g : D1.g R fr h) : den prog E C (retQ E [.tmp 2] R) fr h := by
  obtain ⟨x0, e0, g⟩ := gInt_elim g
  exact den_enter [(0, .int .i64 x0)] ⟨e0, trivial⟩ (by kernel_rfl) g
def t (x0 : Int) (h : Hp) (R : Rt) : Prop := D1.t R x0 h
theorem ok {x0 : Int} {h : Hp} {R : Rt} (g : t x0 h R) : HC id #[.int .i64 x0] h R :=
  calls_of_den' envOk (c := C) (rs := [.tmp 2]) Tryz.func82 (by kernel_rfl) (by kernel_rfl) (by kernel_rfl) (args := [.int .i64 x0]) (by kernel_rfl) (D1.ok R _ h (gInt_intro rfl (g)))
end gnomonref01_Small

namespace nat_Form
noncomputable def C : Code := bodyOf Tryz.f85
def D1.t (R : Rt) (a0 : Option Addr) (l0 : Nat) (c0 : Nat) (h : Hp) : Prop :=
  cond (decide ((((l0 : Nat) : Int)) ≤ 8192)) (cond ((((l0 : Nat) : Int)) == 0) (R (.bool true) h) (letK (IntKind.i64.wrap ((((l0 : Nat) : Int)) - 1)) fun n1 =>
  idxK a0 l0 n1 1 fun q2 =>
  ldK h q2 fun v3 =>
  gInt .u64 v3 fun x_4 =>
  R (.bool (x_4 != 0)) h)) (R (.bool false) h)
def D1.g (R : Rt) (fr : Fr) (h : Hp) : Prop := gSlice (fr 0) fun a0 l0 c0 => D1.t R a0 l0 c0 h
theorem D1.ok (R : Rt) (fr : Fr) (h : Hp) (g : D1.g R fr h) : den prog E C (retQ E [.tmp 2] R) fr h := by
  obtain ⟨a0, l0, c0, e0, g⟩ := gSlice_elim g
  exact den_enter [(0, .slice a0 l0 c0)] ⟨e0, trivial⟩ (by kernel_rfl) g
def t (a0 : Option Addr) (l0 : Nat) (c0 : Nat) (h : Hp) (R : Rt) : Prop := D1.t R a0 l0 c0 h
theorem ok {a0 : Option Addr} {l0 : Nat} {c0 : Nat} {h : Hp} {R : Rt} (g : t a0 l0 c0 h R) : HC id #[.slice a0 l0 c0] h R :=
  calls_of_den' envOk (c := C) (rs := [.tmp 2]) Tryz.func85 (by kernel_rfl) (by kernel_rfl) (by kernel_rfl) (args := [.slice a0 l0 c0]) (by kernel_rfl) (D1.ok R _ h (gSlice_intro rfl (g)))
end nat_Form

namespace bits_Mul64
noncomputable def C : Code := bodyOf Tryz.f86
def D1.t (R : Rt) (x0 : Int) (x1 : Int) (h : Hp) : Prop :=
  letK (andI .u64 x0 4294967295) fun n1 =>
  0 ≤ (32 : Int) ∧ letK (shrI .u64 x0 32) fun n2 =>
  letK (andI .u64 x1 4294967295) fun n3 =>
  0 ≤ (32 : Int) ∧ letK (shrI .u64 x1 32) fun n4 =>
  letK (IntKind.u64.wrap (n1 * n3)) fun n5 =>
  letK (IntKind.u64.wrap (n2 * n3)) fun n6 =>
  0 ≤ (32 : Int) ∧ letK (shrI .u64 n5 32) fun n7 =>
  letK (IntKind.u64.wrap (n6 + n7)) fun n8 =>
  letK (andI .u64 n8 4294967295) fun n9 =>
  0 ≤ (32 : Int) ∧ letK (shrI .u64 n8 32) fun n10 =>
  letK (IntKind.u64.wrap (n1 * n4)) fun n11 =>
  letK (IntKind.u64.wrap (n9 + n11)) fun n12 =>
  letK (IntKind.u64.wrap (n2 * n4)) fun n13 =>
  letK (IntKind.u64.wrap (n13 + n10)) fun n14 =>
  0 ≤ (32 : Int) ∧ letK (shrI .u64 n12 32) fun n15 =>
  letK (IntKind.u64.wrap (n14 + n15)) fun n16 =>
  letK (IntKind.u64.wrap (x0 * x1)) fun n17 =>
  R (.tuple #[.int .u64 n16, .int .u64 n17]) h
def D1.g (R : Rt) (fr : Fr) (h : Hp) : Prop := gInt .u64 (fr 0) fun x0 => gInt .u64 (fr 1) fun x1 => D1.t R x0 x1 h
theorem D1.ok (R : Rt) (fr : Fr) (h : Hp) (g : D1.g R fr h) : den prog E C (retQ E [.tmp 4, .tmp 5] R) fr h := by
  obtain ⟨x0, e0, g⟩ := gInt_elim g
  obtain ⟨x1, e1, g⟩ := gInt_elim g
  exact den_enter [(0, .int .u64 x0), (1, .int .u64 x1)] ⟨e0, e1, trivial⟩ (by kernel_rfl) g
def t (x0 : Int) (x1 : Int) (h : Hp) (R : Rt) : Prop := D1.t R x0 x1 h
theorem ok {x0 : Int} {x1 : Int} {h : Hp} {R : Rt} (g : t x0 x1 h R) : HC id #[.int .u64 x0, .int .u64 x1] h R :=
  calls_of_den' envOk (c := C) (rs := [.tmp 4, .tmp 5]) Tryz.func86 (by kernel_rfl) (by kernel_rfl) (by kernel_rfl) (args := [.int .u64 x0, .int .u64 x1]) (by kernel_rfl) (D1.ok R _ h (gInt_intro rfl (gInt_intro rfl (g))))
end bits_Mul64

namespace nat_told
noncomputable def C : Code := bodyOf Tryz.f88
def D1.t (R : Rt) (a0 : Option Addr) (l0 : Nat) (c0 : Nat) (h : Hp) : Prop :=
  HC nat_trim.id #[.slice a0 l0 c0] h fun v1 h2 =>
  gSlice v1 fun a_3 l_3 c_3 =>
  cond (decide ((((l_3 : Nat) : Int)) > 8192)) (R (.tuple #[.slice none 0 0, .int .i64 5]) h2) (R (.tuple #[.slice a_3 l_3 c_3, .int .i64 0]) h2)
def D1.g (R : Rt) (fr : Fr) (h : Hp) : Prop := gSlice (fr 0) fun a0 l0 c0 => D1.t R a0 l0 c0 h
theorem D1.ok (R : Rt) (fr : Fr) (h : Hp) (g : D1.g R fr h) : den prog E C (retQ E [.tmp 2, .tmp 3] R) fr h := by
  obtain ⟨a0, l0, c0, e0, g⟩ := gSlice_elim g
  exact den_enter [(0, .slice a0 l0 c0)] ⟨e0, trivial⟩ (by kernel_rfl) g
def t (a0 : Option Addr) (l0 : Nat) (c0 : Nat) (h : Hp) (R : Rt) : Prop := D1.t R a0 l0 c0 h
theorem ok {a0 : Option Addr} {l0 : Nat} {c0 : Nat} {h : Hp} {R : Rt} (g : t a0 l0 c0 h R) : HC id #[.slice a0 l0 c0] h R :=
  calls_of_den' envOk (c := C) (rs := [.tmp 2, .tmp 3]) Tryz.func88 (by kernel_rfl) (by kernel_rfl) (by kernel_rfl) (args := [.slice a0 l0 c0]) (by kernel_rfl) (D1.ok R _ h (gSlice_intro rfl (g)))
end nat_told

namespace piconst_machin
noncomputable def C : Code := bodyOf Tryz.f89
def D1.t (R : Rt) (x0 : Int) (h : Hp) : Prop :=
  HC piconst_arctan.id #[.int .u64 5, .int .i64 x0] h fun v1 h2 =>
  gTup v1 fun y3 =>
  uncons y3 fun v4 y4 =>
  gSlice v4 fun a_5 l_5 c_5 =>
  uncons y4 fun v6 y6 =>
  gInt .u64 v6 fun x_7 =>
  unnil y6 <| HC piconst_arctan.id #[.int .u64 239, .int .i64 x0] h2 fun v8 h9 =>
  gTup v8 fun y10 =>
  uncons y10 fun v11 y11 =>
  gSlice v11 fun a_12 l_12 c_12 =>
  uncons y11 fun v13 y13 =>
  gInt .u64 v13 fun x_14 =>
  unnil y13 <| HC nat_MulWord.id #[.slice a_5 l_5 c_5, .int .u64 16] h9 fun v15 h16 =>
  gTup v15 fun y17 =>
  uncons y17 fun v18 y18 =>
  gSlice v18 fun a_19 l_19 c_19 =>
  uncons y18 fun v20 y20 =>
  gInt .i64 v20 fun x_21 =>
  unnil y20 <| HC nat_MulWord.id #[.slice a_12 l_12 c_12, .int .u64 4] h16 fun v22 h23 =>
  gTup v22 fun y24 =>
  uncons y24 fun v25 y25 =>
  gSlice v25 fun a_26 l_26 c_26 =>
  uncons y25 fun v27 y27 =>
  gInt .i64 v27 fun x_28 =>
  unnil y27 <| HC nat_Sub.id #[.slice a_19 l_19 c_19, .slice a_26 l_26 c_26] h23 fun v29 h30 =>
  gTup v29 fun y31 =>
  uncons y31 fun v32 y32 =>
  gSlice v32 fun a_33 l_33 c_33 =>
  uncons y32 fun v34 y34 =>
  gInt .i64 v34 fun x_35 =>
  unnil y34 <| letK (IntKind.u64.wrap (16 * x_7)) fun n36 =>
  letK (IntKind.u64.wrap (4 * x_14)) fun n37 =>
  letK (IntKind.u64.wrap (n36 + n37)) fun n38 =>
  HC piconst_around.id #[.slice a_33 l_33 c_33, .int .u64 n38] h30 fun v39 h40 =>
  gTup v39 fun y41 =>
  uncons y41 fun v42 y42 =>
  gSlice v42 fun a_43 l_43 c_43 =>
  uncons y42 fun v44 y44 =>
  gSlice v44 fun a_45 l_45 c_45 =>
  unnil y44 <| R (.tuple #[.slice a_43 l_43 c_43, .slice a_45 l_45 c_45]) h40
def D1.g (R : Rt) (fr : Fr) (h : Hp) : Prop := gInt .i64 (fr 0) fun x0 => D1.t R x0 h
theorem D1.ok (R : Rt) (fr : Fr) (h : Hp) (g : D1.g R fr h) : den prog E C (retQ E [.tmp 2, .tmp 3] R) fr h := by
  obtain ⟨x0, e0, g⟩ := gInt_elim g
  exact den_enter [(0, .int .i64 x0)] ⟨e0, trivial⟩ (by kernel_rfl) g
def t (x0 : Int) (h : Hp) (R : Rt) : Prop := D1.t R x0 h
theorem ok {x0 : Int} {h : Hp} {R : Rt} (g : t x0 h R) : HC id #[.int .i64 x0] h R :=
  calls_of_den' envOk (c := C) (rs := [.tmp 2, .tmp 3]) Tryz.func89 (by kernel_rfl) (by kernel_rfl) (by kernel_rfl) (args := [.int .i64 x0]) (by kernel_rfl) (D1.ok R _ h (gInt_intro rfl (g)))
end piconst_machin

namespace natdiv_QuoRem
noncomputable def C : Code := bodyOf Tryz.f90
def D2.t (R : Rt) (a0 : Option Addr) (l0 : Nat) (c0 : Nat) (a1 : Option Addr) (l1 : Nat) (c1 : Nat) (h : Hp) : Prop :=
  cond ((((l1 : Nat) : Int)) == 0) (R (.tuple #[.slice none 0 0, .slice none 0 0, .int .i64 4]) h) (HC nat_Cmp.id #[.slice a0 l0 c0, .slice a1 l1 c1] h fun v7 h8 =>
  gInt .i64 v7 fun x_9 =>
  cond (decide (x_9 < 0)) (HC nat_Norm.id #[.slice a0 l0 c0] h8 fun v10 h11 =>
  gTup v10 fun y12 =>
  uncons y12 fun v13 y13 =>
  gSlice v13 fun a_14 l_14 c_14 =>
  uncons y13 fun v15 y15 =>
  gInt .i64 v15 fun x_16 =>
  unnil y15 <| R (.tuple #[.slice none 0 0, .slice a_14 l_14 c_14, .int .i64 0]) h11) (cond ((((l1 : Nat) : Int)) == 1) (idxK a1 l1 0 1 fun q17 =>
  ldK h8 q17 fun v18 =>
  gInt .u64 v18 fun x_19 =>
  HC nat_DivWord.id #[.slice a0 l0 c0, .int .u64 x_19] h8 fun v20 h21 =>
  gTup v20 fun y22 =>
  uncons y22 fun v23 y23 =>
  gSlice v23 fun a_24 l_24 c_24 =>
  uncons y23 fun v25 y25 =>
  gInt .u64 v25 fun x_26 =>
  uncons y25 fun v27 y27 =>
  gInt .i64 v27 fun x_28 =>
  unnil y27 <| HC nat_Word.id #[.int .u64 x_26] h21 fun v29 h30 =>
  gSlice v29 fun a_31 l_31 c_31 =>
  R (.tuple #[.slice a_24 l_24 c_24, .slice a_31 l_31 c_31, .int .i64 0]) h30) (letK (IntKind.i64.wrap ((((l1 : Nat) : Int)) - 1)) fun n32 =>
  idxK a1 l1 n32 1 fun q33 =>
  ldK h8 q33 fun v34 =>
  gInt .u64 v34 fun x_35 =>
  HC bits_LeadingZeros64.id #[.int .u64 x_35] h8 fun v36 h37 =>
  gInt .i64 v36 fun x_38 =>
  letK (IntKind.i64.wrap ((((l0 : Nat) : Int)) + 1)) fun n39 =>
  HC natdiv_shifted.id #[.slice a0 l0 c0, .int .i64 x_38, .int .i64 n39] h37 fun v40 h41 =>
  gSlice v40 fun a_42 l_42 c_42 =>
  HC natdiv_shifted.id #[.slice a1 l1 c1, .int .i64 x_38, .int .i64 (((l1 : Nat) : Int))] h41 fun v43 h44 =>
  gSlice v43 fun a_45 l_45 c_45 =>
  HC natdiv_long.id #[.slice a_42 l_42 c_42, .slice a_45 l_45 c_45] h44 fun v46 h47 =>
  gSlice v46 fun a_48 l_48 c_48 =>
  slK 1 a_42 l_42 c_42 none (some (.int .i64 (((l_45 : Nat) : Int)))) none fun a_49 l_49 c_49 =>
  HC nat_Norm.id #[.slice a_49 l_49 c_49] h47 fun v50 h51 =>
  gTup v50 fun y52 =>
  uncons y52 fun v53 y53 =>
  gSlice v53 fun a_54 l_54 c_54 =>
  uncons y53 fun v55 y55 =>
  gInt .i64 v55 fun x_56 =>
  unnil y55 <| HC nat_Shr.id #[.slice a_54 l_54 c_54, .int .i64 x_38] h51 fun v57 h58 =>
  gTup v57 fun y59 =>
  uncons y59 fun v60 y60 =>
  gSlice v60 fun a_61 l_61 c_61 =>
  uncons y60 fun v62 y62 =>
  gInt .i64 v62 fun x_63 =>
  unnil y62 <| HC nat_Norm.id #[.slice a_48 l_48 c_48] h58 fun v64 h65 =>
  gTup v64 fun y66 =>
  uncons y66 fun v67 y67 =>
  gSlice v67 fun a_68 l_68 c_68 =>
  uncons y67 fun v69 y69 =>
  gInt .i64 v69 fun x_70 =>
  unnil y69 <| R (.tuple #[.slice a_68 l_68 c_68, .slice a_61 l_61 c_61, .int .i64 0]) h65)))
def D2.g (R : Rt) (fr : Fr) (h : Hp) : Prop := gSlice (fr 0) fun a0 l0 c0 => gSlice (fr 1) fun a1 l1 c1 => D2.t R a0 l0 c0 a1 l1 c1 h
theorem D2.ok (R : Rt) (fr : Fr) (h : Hp) (g : D2.g R fr h) : den prog E (cAt C [true, true]) (retQ E [.tmp 4, .tmp 5, .tmp 6] R) fr h := by
  obtain ⟨a0, l0, c0, e0, g⟩ := gSlice_elim g
  obtain ⟨a1, l1, c1, e1, g⟩ := gSlice_elim g
  exact den_enter [(0, .slice a0 l0 c0), (1, .slice a1 l1 c1)] ⟨e0, e1, trivial⟩ (by kernel_rfl) g
def D1.t (R : Rt) (a0 : Option Addr) (l0 : Nat) (c0 : Nat) (a1 : Option Addr) (l1 : Nat) (c1 : Nat) (h : Hp) : Prop :=
  HC nat_Form.id #[.slice a0 l0 c0] h fun v1 h2 =>
  gBool v1 fun b_3 =>
  cond (!b_3) (R (.tuple #[.slice none 0 0, .slice none 0 0, .int .i64 2]) h2) (HC nat_Form.id #[.slice a1 l1 c1] h2 fun v4 h5 =>
  gBool v4 fun b_6 =>
  cond (!b_6) (R (.tuple #[.slice none 0 0, .slice none 0 0, .int .i64 2]) h5) (D2.t R a0 l0 c0 a1 l1 c1 h5))
def D1.g (R : Rt) (fr : Fr) (h : Hp) : Prop := gSlice (fr 0) fun a0 l0 c0 => gSlice (fr 1) fun a1 l1 c1 => D1.t R a0 l0 c0 a1 l1 c1 h
theorem D1.ok (R : Rt) (fr : Fr) (h : Hp) (g : D1.g R fr h) : den prog E C (retQ E [.tmp 4, .tmp 5, .tmp 6] R) fr h := by
  obtain ⟨a0, l0, c0, e0, g⟩ := gSlice_elim g
  obtain ⟨a1, l1, c1, e1, g⟩ := gSlice_elim g
  exact den_cut 2 (r := (cAt C [true, true])) (by kernel_rfl) (D2.ok R) (den_enter [(0, .slice a0 l0 c0), (1, .slice a1 l1 c1)] ⟨e0, e1, trivial⟩ (by kernel_rfl) g)
def t (a0 : Option Addr) (l0 : Nat) (c0 : Nat) (a1 : Option Addr) (l1 : Nat) (c1 : Nat) (h : Hp) (R : Rt) : Prop := D1.t R a0 l0 c0 a1 l1 c1 h
theorem ok {a0 : Option Addr} {l0 : Nat} {c0 : Nat} {a1 : Option Addr} {l1 : Nat} {c1 : Nat} {h : Hp} {R : Rt} (g : t a0 l0 c0 a1 l1 c1 h R) : HC id #[.slice a0 l0 c0, .slice a1 l1 c1] h R :=
  calls_of_den' envOk (c := C) (rs := [.tmp 4, .tmp 5, .tmp 6]) Tryz.func90 (by kernel_rfl) (by kernel_rfl) (by kernel_rfl) (args := [.slice a0 l0 c0, .slice a1 l1 c1]) (by kernel_rfl) (D1.ok R _ h (gSlice_intro rfl (gSlice_intro rfl (g))))
end natdiv_QuoRem

namespace nearpi_less
noncomputable def C : Code := bodyOf Tryz.f91
def D1.t (R : Rt) (a0 : Option Addr) (l0 : Nat) (c0 : Nat) (a1 : Option Addr) (l1 : Nat) (c1 : Nat) (x2 : Int) (h : Hp) : Prop :=
  HC nat_MulWord.id #[.slice a1 l1 c1, .int .u64 x2] h fun v1 h2 =>
  gTup v1 fun y3 =>
  uncons y3 fun v4 y4 =>
  gSlice v4 fun a_5 l_5 c_5 =>
  uncons y4 fun v6 y6 =>
  gInt .i64 v6 fun x_7 =>
  unnil y6 <| HC nat_Sub.id #[.slice a0 l0 c0, .slice a_5 l_5 c_5] h2 fun v8 h9 =>
  gTup v8 fun y10 =>
  uncons y10 fun v11 y11 =>
  gSlice v11 fun a_12 l_12 c_12 =>
  uncons y11 fun v13 y13 =>
  gInt .i64 v13 fun x_14 =>
  unnil y13 <| R (.slice a_12 l_12 c_12) h9
def D1.g (R : Rt) (fr : Fr) (h : Hp) : Prop := gSlice (fr 0) fun a0 l0 c0 => gSlice (fr 1) fun a1 l1 c1 => gInt .u64 (fr 2) fun x2 => D1.t R a0 l0 c0 a1 l1 c1 x2 h
theorem D1.ok (R : Rt) (fr : Fr) (h : Hp) (g : D1.g R fr h) : den prog E C (retQ E [.tmp 6] R) fr h := by
  obtain ⟨a0, l0, c0, e0, g⟩ := gSlice_elim g
  obtain ⟨a1, l1, c1, e1, g⟩ := gSlice_elim g
  obtain ⟨x2, e2, g⟩ := gInt_elim g
  exact den_enter [(0, .slice a0 l0 c0), (1, .slice a1 l1 c1), (2, .int .u64 x2)] ⟨e0, e1, e2, trivial⟩ (by kernel_rfl) g
def t (a0 : Option Addr) (l0 : Nat) (c0 : Nat) (a1 : Option Addr) (l1 : Nat) (c1 : Nat) (x2 : Int) (h : Hp) (R : Rt) : Prop := D1.t R a0 l0 c0 a1 l1 c1 x2 h
theorem ok {a0 : Option Addr} {l0 : Nat} {c0 : Nat} {a1 : Option Addr} {l1 : Nat} {c1 : Nat} {x2 : Int} {h : Hp} {R : Rt} (g : t a0 l0 c0 a1 l1 c1 x2 h R) : HC id #[.slice a0 l0 c0, .slice a1 l1 c1, .int .u64 x2] h R :=
  calls_of_den' envOk (c := C) (rs := [.tmp 6]) Tryz.func91 (by kernel_rfl) (by kernel_rfl) (by kernel_rfl) (args := [.slice a0 l0 c0, .slice a1 l1 c1, .int .u64 x2]) (by kernel_rfl) (D1.ok R _ h (gSlice_intro rfl (gSlice_intro rfl (gInt_intro rfl (g)))))
end nearpi_less

namespace nearpi_whole
noncomputable def C : Code := bodyOf Tryz.f92
def D1.t (R : Rt)  (h : Hp) : Prop :=
  HC nat_Word.id #[.int .u64 1] h fun v1 h2 =>
  gSlice v1 fun a_3 l_3 c_3 =>
  HC nat_Shl.id #[.slice a_3 l_3 c_3, .int .i64 320] h2 fun v4 h5 =>
  gTup v4 fun y6 =>
  uncons y6 fun v7 y7 =>
  gSlice v7 fun a_8 l_8 c_8 =>
  uncons y7 fun v9 y9 =>
  gInt .i64 v9 fun x_10 =>
  unnil y9 <| R (.slice a_8 l_8 c_8) h5
def D1.g (R : Rt) (fr : Fr) (h : Hp) : Prop := D1.t R  h
theorem D1.ok (R : Rt) (fr : Fr) (h : Hp) (g : D1.g R fr h) : den prog E C (retQ E [.tmp 0] R) fr h := by
  exact den_enter [] trivial (by kernel_rfl) g
def t  (h : Hp) (R : Rt) : Prop := D1.t R h
theorem ok  {h : Hp} {R : Rt} (g : t  h R) : HC id #[] h R :=
  calls_of_den' envOk (c := C) (rs := [.tmp 0]) Tryz.func92 (by kernel_rfl) (by kernel_rfl) (by kernel_rfl) (args := []) (by kernel_rfl) (D1.ok R _ h (g))
end nearpi_whole

namespace nearpi_times
noncomputable def C : Code := bodyOf Tryz.f93
def D2.t (R : Rt) (a7 : Option Addr) (l7 : Nat) (c7 : Nat) (h : Hp) : Prop :=
  idxK a7 l7 0 1 fun q13 => ldK h q13 fun v14 => gInt .u64 v14 fun x_15 => R (.int .u64 x_15) h
def D2.g (R : Rt) (fr : Fr) (h : Hp) : Prop := gSlice (fr 7) fun a7 l7 c7 => D2.t R a7 l7 c7 h
theorem D2.ok (R : Rt) (fr : Fr) (h : Hp) (g : D2.g R fr h) : den prog E (cAt C [true, true, true, true]) (retQ E [.tmp 6] R) fr h := by
  obtain ⟨a7, l7, c7, e7, g⟩ := gSlice_elim g
  exact den_enter [(7, .slice a7 l7 c7)] ⟨e7, trivial⟩ (by kernel_rfl) g
def D1.t (R : Rt) (a0 : Option Addr) (l0 : Nat) (c0 : Nat) (a1 : Option Addr) (l1 : Nat) (c1 : Nat) (x2 : Int) (h : Hp) : Prop :=
  HC natdiv_QuoRem.id #[.slice a0 l0 c0, .slice a1 l1 c1] h fun v1 h2 =>
  gTup v1 fun y3 =>
  uncons y3 fun v4 y4 =>
  gSlice v4 fun a_5 l_5 c_5 =>
  uncons y4 fun v6 y6 =>
  gSlice v6 fun a_7 l_7 c_7 =>
  uncons y6 fun v8 y8 =>
  gInt .i64 v8 fun x_9 =>
  unnil y8 <| cond ((((l_5 : Nat) : Int)) == 0) (R (.int .u64 0) h2) (cond (decide ((((l_5 : Nat) : Int)) > 1)) (R (.int .u64 x2) h2) (idxK a_5 l_5 0 1 fun q10 =>
  ldK h2 q10 fun v11 =>
  gInt .u64 v11 fun x_12 =>
  cond (decide (x_12 > x2)) (R (.int .u64 x2) h2) (D2.t R a_5 l_5 c_5 h2)))
def D1.g (R : Rt) (fr : Fr) (h : Hp) : Prop := gSlice (fr 0) fun a0 l0 c0 => gSlice (fr 1) fun a1 l1 c1 => gInt .u64 (fr 2) fun x2 => D1.t R a0 l0 c0 a1 l1 c1 x2 h
theorem D1.ok (R : Rt) (fr : Fr) (h : Hp) (g : D1.g R fr h) : den prog E C (retQ E [.tmp 6] R) fr h := by
  obtain ⟨a0, l0, c0, e0, g⟩ := gSlice_elim g
  obtain ⟨a1, l1, c1, e1, g⟩ := gSlice_elim g
  obtain ⟨x2, e2, g⟩ := gInt_elim g
  exact den_cut 4 (r := (cAt C [true, true, true, true])) (by kernel_rfl) (D2.ok R) (den_enter [(0, .slice a0 l0 c0), (1, .slice a1 l1 c1), (2, .int .u64 x2)] ⟨e0, e1, e2, trivial⟩ (by kernel_rfl) g)
def t (a0 : Option Addr) (l0 : Nat) (c0 : Nat) (a1 : Option Addr) (l1 : Nat) (c1 : Nat) (x2 : Int) (h : Hp) (R : Rt) : Prop := D1.t R a0 l0 c0 a1 l1 c1 x2 h
theorem ok {a0 : Option Addr} {l0 : Nat} {c0 : Nat} {a1 : Option Addr} {l1 : Nat} {c1 : Nat} {x2 : Int} {h : Hp} {R : Rt} (g : t a0 l0 c0 a1 l1 c1 x2 h R) : HC id #[.slice a0 l0 c0, .slice a1 l1 c1, .int .u64 x2] h R :=
  calls_of_den' envOk (c := C) (rs := [.tmp 6]) Tryz.func93 (by kernel_rfl) (by kernel_rfl) (by kernel_rfl) (args := [.slice a0 l0 c0, .slice a1 l1 c1, .int .u64 x2]) (by kernel_rfl) (D1.ok R _ h (gSlice_intro rfl (gSlice_intro rfl (gInt_intro rfl (g)))))
end nearpi_times

namespace nearpi_add
noncomputable def C : Code := bodyOf Tryz.f94
def D2.t (R : Rt) (x0 : Int) (x1 : Int) (x2 : Int) (x3 : Int) (h : Hp) : Prop :=
  letK (IntKind.u64.wrap (x1 * x2)) fun n5 =>
  letK (IntKind.u64.wrap (x0 + n5)) fun n6 =>
  letK (IntKind.u64.wrap (x3 + 1)) fun n7 =>
  R (.int .u64 (if n7 < n6 then n7 else n6)) h
def D2.g (R : Rt) (fr : Fr) (h : Hp) : Prop := gInt .u64 (fr 0) fun x0 => gInt .u64 (fr 1) fun x1 => gInt .u64 (fr 2) fun x2 => gInt .u64 (fr 3) fun x3 => D2.t R x0 x1 x2 x3 h
theorem D2.ok (R : Rt) (fr : Fr) (h : Hp) (g : D2.g R fr h) : den prog E (cAt C [true, true]) (retQ E [.tmp 8] R) fr h := by
  obtain ⟨x0, e0, g⟩ := gInt_elim g
  obtain ⟨x1, e1, g⟩ := gInt_elim g
  obtain ⟨x2, e2, g⟩ := gInt_elim g
  obtain ⟨x3, e3, g⟩ := gInt_elim g
  exact den_enter [(0, .int .u64 x0), (1, .int .u64 x1), (2, .int .u64 x2), (3, .int .u64 x3)] ⟨e0, e1, e2, e3, trivial⟩ (by kernel_rfl) g
def D1.t (R : Rt) (x0 : Int) (x1 : Int) (x2 : Int) (x3 : Int) (h : Hp) : Prop :=
  cond (decide (x2 > x3)) (letK (IntKind.u64.wrap (x3 + 1)) fun n1 =>
  R (.int .u64 n1) h) ((if 1 > x2 then 1 else x2) ≠ 0 ∧ letK (IntKind.u64.wrap (Int.tdiv x3 (if 1 > x2 then 1 else x2))) fun n2 =>
  letK (IntKind.u64.wrap (n2 + 1)) fun n3 =>
  cond (decide (x1 > n3)) (letK (IntKind.u64.wrap (x3 + 1)) fun n4 =>
  R (.int .u64 n4) h) (D2.t R x0 x1 x2 x3 h))
def D1.g (R : Rt) (fr : Fr) (h : Hp) : Prop := gInt .u64 (fr 0) fun x0 => gInt .u64 (fr 1) fun x1 => gInt .u64 (fr 2) fun x2 => gInt .u64 (fr 3) fun x3 => D1.t R x0 x1 x2 x3 h
theorem D1.ok (R : Rt) (fr : Fr) (h : Hp) (g : D1.g R fr h) : den prog E C (retQ E [.tmp 8] R) fr h := by
  obtain ⟨x0, e0, g⟩ := gInt_elim g
  obtain ⟨x1, e1, g⟩ := gInt_elim g
  obtain ⟨x2, e2, g⟩ := gInt_elim g
  obtain ⟨x3, e3, g⟩ := gInt_elim g
  exact den_cut 2 (r := (cAt C [true, true])) (by kernel_rfl) (D2.ok R) (den_enter [(0, .int .u64 x0), (1, .int .u64 x1), (2, .int .u64 x2), (3, .int .u64 x3)] ⟨e0, e1, e2, e3, trivial⟩ (by kernel_rfl) g)
def t (x0 : Int) (x1 : Int) (x2 : Int) (x3 : Int) (h : Hp) (R : Rt) : Prop := D1.t R x0 x1 x2 x3 h
theorem ok {x0 : Int} {x1 : Int} {x2 : Int} {x3 : Int} {h : Hp} {R : Rt} (g : t x0 x1 x2 x3 h R) : HC id #[.int .u64 x0, .int .u64 x1, .int .u64 x2, .int .u64 x3] h R :=
  calls_of_den' envOk (c := C) (rs := [.tmp 8]) Tryz.func94 (by kernel_rfl) (by kernel_rfl) (by kernel_rfl) (args := [.int .u64 x0, .int .u64 x1, .int .u64 x2, .int .u64 x3]) (by kernel_rfl) (D1.ok R _ h (gInt_intro rfl (gInt_intro rfl (gInt_intro rfl (gInt_intro rfl (g))))))
end nearpi_add

namespace nat_Sub
noncomputable def C : Code := bodyOf Tryz.f95
def D3.t (R : Rt) (a6 : Option Addr) (l6 : Nat) (c6 : Nat) (h : Hp) : Prop :=
  HC nat_told.id #[.slice a6 l6 c6] h fun v12 h13 =>
  gTup v12 fun y14 =>
  uncons y14 fun v15 y15 =>
  gSlice v15 fun a_16 l_16 c_16 =>
  uncons y15 fun v17 y17 =>
  gInt .i64 v17 fun x_18 =>
  unnil y17 <| R (.tuple #[.slice a_16 l_16 c_16, .int .i64 x_18]) h13
def D3.g (R : Rt) (fr : Fr) (h : Hp) : Prop := gSlice (fr 6) fun a6 l6 c6 => D3.t R a6 l6 c6 h
theorem D3.ok (R : Rt) (fr : Fr) (h : Hp) (g : D3.g R fr h) : den prog E (cAt C [true, true, true, true, true, true]) (retQ E [.tmp 4, .tmp 5] R) fr h := by
  obtain ⟨a6, l6, c6, e6, g⟩ := gSlice_elim g
  exact den_enter [(6, .slice a6 l6 c6)] ⟨e6, trivial⟩ (by kernel_rfl) g
def L5.g (N : Option Addr → Nat → Nat → Option Addr → Nat → Nat → Option Addr → Nat → Nat → Int → Int → Int → Hp → Prop) (fr : Fr) (h : Hp) : Prop := gSlice (fr 0) fun a0 l0 c0 => gSlice (fr 1) fun a1 l1 c1 => gSlice (fr 6) fun a6 l6 c6 => gInt .u64 (fr 7) fun x7 => gInt .i64 (fr 26) fun x26 => gInt .i64 (fr 27) fun x27 => N a0 l0 c0 a1 l1 c1 a6 l6 c6 x7 x26 x27 h
def D6.t (R : Rt) (N5 : Option Addr → Nat → Nat → Option Addr → Nat → Nat → Option Addr → Nat → Nat → Int → Int → Int → Hp → Prop) (a0 : Option Addr) (l0 : Nat) (c0 : Nat) (a1 : Option Addr) (l1 : Nat) (c1 : Nat) (a6 : Option Addr) (l6 : Nat) (c6 : Nat) (x7 : Int) (x26 : Int) (x27 : Int) (h : Hp) : Prop :=
  cond (decide (x27 < x26)) (cond (decide (x27 < (((l1 : Nat) : Int)))) (idxK a1 l1 x27 1 fun q19 =>
  ldK h q19 fun v20 =>
  gInt .u64 v20 fun x_21 =>
  idxK a0 l0 x27 1 fun q22 =>
  ldK h q22 fun v23 =>
  gInt .u64 v23 fun x_24 =>
  subK x_24 x_21 x7 fun n25 m25 =>
  idxK a6 l6 x27 1 fun q26 =>
  stK h q26 (.int .u64 n25) fun h27 =>
  letK (IntKind.i64.wrap (x27 + 1)) fun n28 =>
  N5 a0 l0 c0 a1 l1 c1 a6 l6 c6 m25 x26 n28 h27) (idxK a0 l0 x27 1 fun q29 =>
  ldK h q29 fun v30 =>
  gInt .u64 v30 fun x_31 =>
  subK x_31 0 x7 fun n32 m32 =>
  idxK a6 l6 x27 1 fun q33 =>
  stK h q33 (.int .u64 n32) fun h34 =>
  letK (IntKind.i64.wrap (x27 + 1)) fun n35 =>
  N5 a0 l0 c0 a1 l1 c1 a6 l6 c6 m32 x26 n35 h34)) (D3.t R a6 l6 c6 h)
def D6.g (R : Rt) (N5 : Option Addr → Nat → Nat → Option Addr → Nat → Nat → Option Addr → Nat → Nat → Int → Int → Int → Hp → Prop) (fr : Fr) (h : Hp) : Prop := gSlice (fr 0) fun a0 l0 c0 => gSlice (fr 1) fun a1 l1 c1 => gSlice (fr 6) fun a6 l6 c6 => gInt .u64 (fr 7) fun x7 => gInt .i64 (fr 26) fun x26 => gInt .i64 (fr 27) fun x27 => D6.t R N5 a0 l0 c0 a1 l1 c1 a6 l6 c6 x7 x26 x27 h
theorem D6.ok (R : Rt) (N5 : Option Addr → Nat → Nat → Option Addr → Nat → Nat → Option Addr → Nat → Nat → Int → Int → Int → Hp → Prop) (fr : Fr) (h : Hp) (g : D6.g R N5 fr h) : den prog E (cAt C [true, true, true, true, true, false, true, false, false]) (Ex.then (L5.g N5) (Ex.inBlock 0 (Ex.then (D3.g R) (retQ E [.tmp 4, .tmp 5] R)))) fr h := by
  obtain ⟨a0, l0, c0, e0, g⟩ := gSlice_elim g
  obtain ⟨a1, l1, c1, e1, g⟩ := gSlice_elim g
  obtain ⟨a6, l6, c6, e6, g⟩ := gSlice_elim g
  obtain ⟨x7, e7, g⟩ := gInt_elim g
  obtain ⟨x26, e26, g⟩ := gInt_elim g
  obtain ⟨x27, e27, g⟩ := gInt_elim g
  exact den_enter [(0, .slice a0 l0 c0), (1, .slice a1 l1 c1), (6, .slice a6 l6 c6), (7, .int .u64 x7), (26, .int .i64 x26), (27, .int .i64 x27)] ⟨e0, e1, e6, e7, e26, e27, trivial⟩ (by kernel_rfl) g
def L5.t (R : Rt) : Nat → Option Addr → Nat → Nat → Option Addr → Nat → Nat → Option Addr → Nat → Nat → Int → Int → Int → Hp → Prop
  | 0 => fun _ _ _ _ _ _ _ _ _ _ _ _ _ => False
  | n + 1 => fun a0 l0 c0 a1 l1 c1 a6 l6 c6 x7 x26 x27 h => D6.t R (L5.t R n) a0 l0 c0 a1 l1 c1 a6 l6 c6 x7 x26 x27 h
theorem L5.ok (R : Rt) (fr : Fr) (h : Hp) (g : L5.g (fun a0 l0 c0 a1 l1 c1 a6 l6 c6 x7 x26 x27 h => ∃ n, L5.t R n a0 l0 c0 a1 l1 c1 a6 l6 c6 x7 x26 x27 h) fr h) : den prog E (cAt C [true, true, true, true, true, false, true, false]) (Ex.inBlock 0 (Ex.then (D3.g R) (retQ E [.tmp 4, .tmp 5] R))) fr h := by
  obtain ⟨a0, l0, c0, e0, g⟩ := gSlice_elim g
  obtain ⟨a1, l1, c1, e1, g⟩ := gSlice_elim g
  obtain ⟨a6, l6, c6, e6, g⟩ := gSlice_elim g
  obtain ⟨x7, e7, g⟩ := gInt_elim g
  obtain ⟨x26, e26, g⟩ := gInt_elim g
  obtain ⟨x27, e27, g⟩ := gInt_elim g
  obtain ⟨n, g⟩ := g
  refine loop_ok (fun n => L5.g (L5.t R n)) (b := (cAt C [true, true, true, true, true, false, true, false, false])) (by kernel_rfl) (fun fr h g => ?_) (fun n => D6.ok R (L5.t R n)) n fr h (gSlice_intro e0 (gSlice_intro e1 (gSlice_intro e6 (gInt_intro e7 (gInt_intro e26 (gInt_intro e27 (g)))))))
  obtain ⟨a0, l0, c0, e0, g⟩ := gSlice_elim g
  obtain ⟨a1, l1, c1, e1, g⟩ := gSlice_elim g
  obtain ⟨a6, l6, c6, e6, g⟩ := gSlice_elim g
  obtain ⟨x7, e7, g⟩ := gInt_elim g
  obtain ⟨x26, e26, g⟩ := gInt_elim g
  obtain ⟨x27, e27, g⟩ := gInt_elim g
  exact g
theorem B7.ok (R : Rt) (fr : Fr) (h : Hp) (g : L5.g (fun a0 l0 c0 a1 l1 c1 a6 l6 c6 x7 x26 x27 h => ∃ n, L5.t R n a0 l0 c0 a1 l1 c1 a6 l6 c6 x7 x26 x27 h) fr h) : den prog E (cAt C [true, true, true, true, true, false, true]) (Ex.then (D3.g R) (retQ E [.tmp 4, .tmp 5] R)) fr h :=
  den_block (by kernel_rfl) (L5.ok R fr h g)
def D4.t (R : Rt) (a0 : Option Addr) (l0 : Nat) (c0 : Nat) (a1 : Option Addr) (l1 : Nat) (c1 : Nat) (a6 : Option Addr) (l6 : Nat) (c6 : Nat) (x7 : Int) (h : Hp) : Prop :=
  (∃ n, L5.t R n a0 l0 c0 a1 l1 c1 a6 l6 c6 x7 (((l0 : Nat) : Int)) 0 h)
def D4.g (R : Rt) (fr : Fr) (h : Hp) : Prop := gSlice (fr 0) fun a0 l0 c0 => gSlice (fr 1) fun a1 l1 c1 => gSlice (fr 6) fun a6 l6 c6 => gInt .u64 (fr 7) fun x7 => D4.t R a0 l0 c0 a1 l1 c1 a6 l6 c6 x7 h
theorem D4.ok (R : Rt) (fr : Fr) (h : Hp) (g : D4.g R fr h) : den prog E (cAt C [true, true, true, true, true, false]) (Ex.then (D3.g R) (retQ E [.tmp 4, .tmp 5] R)) fr h := by
  obtain ⟨a0, l0, c0, e0, g⟩ := gSlice_elim g
  obtain ⟨a1, l1, c1, e1, g⟩ := gSlice_elim g
  obtain ⟨a6, l6, c6, e6, g⟩ := gSlice_elim g
  obtain ⟨x7, e7, g⟩ := gInt_elim g
  exact den_cut 1 (r := (cAt C [true, true, true, true, true, false, true])) (by kernel_rfl) (B7.ok R) (den_enter [(0, .slice a0 l0 c0), (1, .slice a1 l1 c1), (6, .slice a6 l6 c6), (7, .int .u64 x7)] ⟨e0, e1, e6, e7, trivial⟩ (by kernel_rfl) g)
theorem W8.ok (R : Rt) (fr : Fr) (h : Hp) (g : D4.g R fr h) : den prog E (cAt C [true, true, true, true, true]) (retQ E [.tmp 4, .tmp 5] R) fr h :=
  den_then (by kernel_rfl) (D3.ok R) (D4.ok R fr h g)
def D2.t (R : Rt) (a0 : Option Addr) (l0 : Nat) (c0 : Nat) (a1 : Option Addr) (l1 : Nat) (c1 : Nat) (h : Hp) : Prop :=
  HC nat_Cmp.id #[.slice a0 l0 c0, .slice a1 l1 c1] h fun v7 h8 =>
  gInt .i64 v7 fun x_9 =>
  cond (decide (x_9 < 0)) (R (.tuple #[.slice none 0 0, .int .i64 3]) h8) (mkK h8 35 T35 (((l0 : Nat) : Int)) (((l0 : Nat) : Int)) fun q10 h11 =>
  D4.t R a0 l0 c0 a1 l1 c1 (some q10) ((((l0 : Nat) : Int)).toNat) ((((l0 : Nat) : Int)).toNat) 0 h11)
def D2.g (R : Rt) (fr : Fr) (h : Hp) : Prop := gSlice (fr 0) fun a0 l0 c0 => gSlice (fr 1) fun a1 l1 c1 => D2.t R a0 l0 c0 a1 l1 c1 h
theorem D2.ok (R : Rt) (fr : Fr) (h : Hp) (g : D2.g R fr h) : den prog E (cAt C [true, true]) (retQ E [.tmp 4, .tmp 5] R) fr h := by
  obtain ⟨a0, l0, c0, e0, g⟩ := gSlice_elim g
  obtain ⟨a1, l1, c1, e1, g⟩ := gSlice_elim g
  exact den_cut 3 (r := (cAt C [true, true, true, true, true])) (by kernel_rfl) (W8.ok R) (den_enter [(0, .slice a0 l0 c0), (1, .slice a1 l1 c1)] ⟨e0, e1, trivial⟩ (by kernel_rfl) g)
def D1.t (R : Rt) (a0 : Option Addr) (l0 : Nat) (c0 : Nat) (a1 : Option Addr) (l1 : Nat) (c1 : Nat) (h : Hp) : Prop :=
  HC nat_Form.id #[.slice a0 l0 c0] h fun v1 h2 =>
  gBool v1 fun b_3 =>
  cond (!b_3) (R (.tuple #[.slice none 0 0, .int .i64 2]) h2) (HC nat_Form.id #[.slice a1 l1 c1] h2 fun v4 h5 =>
  gBool v4 fun b_6 =>
  cond (!b_6) (R (.tuple #[.slice none 0 0, .int .i64 2]) h5) (D2.t R a0 l0 c0 a1 l1 c1 h5))
def D1.g (R : Rt) (fr : Fr) (h : Hp) : Prop := gSlice (fr 0) fun a0 l0 c0 => gSlice (fr 1) fun a1 l1 c1 => D1.t R a0 l0 c0 a1 l1 c1 h
theorem D1.ok (R : Rt) (fr : Fr) (h : Hp) (g : D1.g R fr h) : den prog E C (retQ E [.tmp 4, .tmp 5] R) fr h := by
  obtain ⟨a0, l0, c0, e0, g⟩ := gSlice_elim g
  obtain ⟨a1, l1, c1, e1, g⟩ := gSlice_elim g
  exact den_cut 2 (r := (cAt C [true, true])) (by kernel_rfl) (D2.ok R) (den_enter [(0, .slice a0 l0 c0), (1, .slice a1 l1 c1)] ⟨e0, e1, trivial⟩ (by kernel_rfl) g)
def t (a0 : Option Addr) (l0 : Nat) (c0 : Nat) (a1 : Option Addr) (l1 : Nat) (c1 : Nat) (h : Hp) (R : Rt) : Prop := D1.t R a0 l0 c0 a1 l1 c1 h
theorem ok {a0 : Option Addr} {l0 : Nat} {c0 : Nat} {a1 : Option Addr} {l1 : Nat} {c1 : Nat} {h : Hp} {R : Rt} (g : t a0 l0 c0 a1 l1 c1 h R) : HC id #[.slice a0 l0 c0, .slice a1 l1 c1] h R :=
  calls_of_den' envOk (c := C) (rs := [.tmp 4, .tmp 5]) Tryz.func95 (by kernel_rfl) (by kernel_rfl) (by kernel_rfl) (args := [.slice a0 l0 c0, .slice a1 l1 c1]) (by kernel_rfl) (D1.ok R _ h (gSlice_intro rfl (gSlice_intro rfl (g))))
end nat_Sub

namespace natmul_told
noncomputable def C : Code := bodyOf Tryz.f96
def D1.t (R : Rt) (a0 : Option Addr) (l0 : Nat) (c0 : Nat) (h : Hp) : Prop :=
  cond (decide ((((l0 : Nat) : Int)) > 8192)) (R (.tuple #[.slice none 0 0, .int .i64 5]) h) (R (.tuple #[.slice a0 l0 c0, .int .i64 0]) h)
def D1.g (R : Rt) (fr : Fr) (h : Hp) : Prop := gSlice (fr 0) fun a0 l0 c0 => D1.t R a0 l0 c0 h
theorem D1.ok (R : Rt) (fr : Fr) (h : Hp) (g : D1.g R fr h) : den prog E C (retQ E [.tmp 2, .tmp 3] R) fr h := by
  obtain ⟨a0, l0, c0, e0, g⟩ := gSlice_elim g
  exact den_enter [(0, .slice a0 l0 c0)] ⟨e0, trivial⟩ (by kernel_rfl) g
def t (a0 : Option Addr) (l0 : Nat) (c0 : Nat) (h : Hp) (R : Rt) : Prop := D1.t R a0 l0 c0 h
theorem ok {a0 : Option Addr} {l0 : Nat} {c0 : Nat} {h : Hp} {R : Rt} (g : t a0 l0 c0 h R) : HC id #[.slice a0 l0 c0] h R :=
  calls_of_den' envOk (c := C) (rs := [.tmp 2, .tmp 3]) Tryz.func96 (by kernel_rfl) (by kernel_rfl) (by kernel_rfl) (args := [.slice a0 l0 c0]) (by kernel_rfl) (D1.ok R _ h (gSlice_intro rfl (g)))
end natmul_told

namespace natmul_product
noncomputable def C : Code := bodyOf Tryz.f97
def D1.t (R : Rt) (a0 : Option Addr) (l0 : Nat) (c0 : Nat) (a1 : Option Addr) (l1 : Nat) (c1 : Nat) (h : Hp) : Prop :=
  letK (IntKind.i64.wrap ((((l0 : Nat) : Int)) + (((l1 : Nat) : Int)))) fun n1 =>
  mkK h 35 T35 n1 n1 fun q2 h3 =>
  HC natmul_fill.id #[.slice (some q2) n1.toNat n1.toNat, .slice a0 l0 c0, .slice a1 l1 c1] h3 fun v4 h5 =>
  gTup v4 fun y6 =>
  unnil y6 <| HC natmul_trim.id #[.slice (some q2) n1.toNat n1.toNat] h5 fun v7 h8 =>
  gSlice v7 fun a_9 l_9 c_9 =>
  R (.slice a_9 l_9 c_9) h8
def D1.g (R : Rt) (fr : Fr) (h : Hp) : Prop := gSlice (fr 0) fun a0 l0 c0 => gSlice (fr 1) fun a1 l1 c1 => D1.t R a0 l0 c0 a1 l1 c1 h
theorem D1.ok (R : Rt) (fr : Fr) (h : Hp) (g : D1.g R fr h) : den prog E C (retQ E [.tmp 4] R) fr h := by
  obtain ⟨a0, l0, c0, e0, g⟩ := gSlice_elim g
  obtain ⟨a1, l1, c1, e1, g⟩ := gSlice_elim g
  exact den_enter [(0, .slice a0 l0 c0), (1, .slice a1 l1 c1)] ⟨e0, e1, trivial⟩ (by kernel_rfl) g
def t (a0 : Option Addr) (l0 : Nat) (c0 : Nat) (a1 : Option Addr) (l1 : Nat) (c1 : Nat) (h : Hp) (R : Rt) : Prop := D1.t R a0 l0 c0 a1 l1 c1 h
theorem ok {a0 : Option Addr} {l0 : Nat} {c0 : Nat} {a1 : Option Addr} {l1 : Nat} {c1 : Nat} {h : Hp} {R : Rt} (g : t a0 l0 c0 a1 l1 c1 h R) : HC id #[.slice a0 l0 c0, .slice a1 l1 c1] h R :=
  calls_of_den' envOk (c := C) (rs := [.tmp 4]) Tryz.func97 (by kernel_rfl) (by kernel_rfl) (by kernel_rfl) (args := [.slice a0 l0 c0, .slice a1 l1 c1]) (by kernel_rfl) (D1.ok R _ h (gSlice_intro rfl (gSlice_intro rfl (g))))
end natmul_product

namespace bits_Len64
noncomputable def C : Code := bodyOf Tryz.f98
def D4.t (R : Rt) (x0 : Int) (x2 : Int) (h : Hp) : Prop :=
  letK (IntKind.u8.wrap x0) fun n6 =>
  idxS (⟨#[0, 1, 2, 2, 3, 3, 3, 3, 4, 4, 4, 4, 4, 4, 4, 4, 5, 5, 5, 5, 5, 5, 5, 5, 5, 5, 5, 5, 5, 5, 5, 5, 6, 6, 6, 6, 6, 6, 6, 6, 6, 6, 6, 6, 6, 6, 6, 6, 6, 6, 6, 6, 6, 6, 6, 6, 6, 6, 6, 6, 6, 6, 6, 6, 7, 7, 7, 7, 7, 7, 7, 7, 7, 7, 7, 7, 7, 7, 7, 7, 7, 7, 7, 7, 7, 7, 7, 7, 7, 7, 7, 7, 7, 7, 7, 7, 7, 7, 7, 7, 7, 7, 7, 7, 7, 7, 7, 7, 7, 7, 7, 7, 7, 7, 7, 7, 7, 7, 7, 7, 7, 7, 7, 7, 7, 7, 7, 7, 8, 8, 8, 8, 8, 8, 8, 8, 8, 8, 8, 8, 8, 8, 8, 8, 8, 8, 8, 8, 8, 8, 8, 8, 8, 8, 8, 8, 8, 8, 8, 8, 8, 8, 8, 8, 8, 8, 8, 8, 8, 8, 8, 8, 8, 8, 8, 8, 8, 8, 8, 8, 8, 8, 8, 8, 8, 8, 8, 8, 8, 8, 8, 8, 8, 8, 8, 8, 8, 8, 8, 8, 8, 8, 8, 8, 8, 8, 8, 8, 8, 8, 8, 8, 8, 8, 8, 8, 8, 8, 8, 8, 8, 8, 8, 8, 8, 8, 8, 8, 8, 8, 8, 8, 8, 8, 8, 8, 8, 8, 8, 8, 8, 8, 8, 8, 8, 8, 8, 8, 8, 8, 8, 8, 8, 8, 8, 8]⟩ : ByteArray) n6 fun n7 =>
  letK (IntKind.i64.wrap n7) fun n8 =>
  letK (IntKind.i64.wrap (x2 + n8)) fun n9 =>
  R (.int .i64 n9) h
def D4.g (R : Rt) (fr : Fr) (h : Hp) : Prop := gInt .u64 (fr 0) fun x0 => gInt .i64 (fr 2) fun x2 => D4.t R x0 x2 h
theorem D4.ok (R : Rt) (fr : Fr) (h : Hp) (g : D4.g R fr h) : den prog E (cAt C [true, true, true, true]) (retQ E [.tmp 2] R) fr h := by
  obtain ⟨x0, e0, g⟩ := gInt_elim g
  obtain ⟨x2, e2, g⟩ := gInt_elim g
  exact den_enter [(0, .int .u64 x0), (2, .int .i64 x2)] ⟨e0, e2, trivial⟩ (by kernel_rfl) g
def D3.t (R : Rt) (x0 : Int) (x2 : Int) (h : Hp) : Prop :=
  cond (decide (x0 ≥ 256)) (0 ≤ (8 : Int) ∧ letK (shrI .u64 x0 8) fun n4 =>
  letK (IntKind.i64.wrap (x2 + 8)) fun n5 =>
  D4.t R n4 n5 h) (D4.t R x0 x2 h)
def D3.g (R : Rt) (fr : Fr) (h : Hp) : Prop := gInt .u64 (fr 0) fun x0 => gInt .i64 (fr 2) fun x2 => D3.t R x0 x2 h
theorem D3.ok (R : Rt) (fr : Fr) (h : Hp) (g : D3.g R fr h) : den prog E (cAt C [true, true, true]) (retQ E [.tmp 2] R) fr h := by
  obtain ⟨x0, e0, g⟩ := gInt_elim g
  obtain ⟨x2, e2, g⟩ := gInt_elim g
  exact den_cut 1 (r := (cAt C [true, true, true, true])) (by kernel_rfl) (D4.ok R) (den_enter [(0, .int .u64 x0), (2, .int .i64 x2)] ⟨e0, e2, trivial⟩ (by kernel_rfl) g)
def D2.t (R : Rt) (x0 : Int) (x2 : Int) (h : Hp) : Prop :=
  cond (decide (x0 ≥ 65536)) (0 ≤ (16 : Int) ∧ letK (shrI .u64 x0 16) fun n2 =>
  letK (IntKind.i64.wrap (x2 + 16)) fun n3 =>
  D3.t R n2 n3 h) (D3.t R x0 x2 h)
def D2.g (R : Rt) (fr : Fr) (h : Hp) : Prop := gInt .u64 (fr 0) fun x0 => gInt .i64 (fr 2) fun x2 => D2.t R x0 x2 h
theorem D2.ok (R : Rt) (fr : Fr) (h : Hp) (g : D2.g R fr h) : den prog E (cAt C [true, true]) (retQ E [.tmp 2] R) fr h := by
  obtain ⟨x0, e0, g⟩ := gInt_elim g
  obtain ⟨x2, e2, g⟩ := gInt_elim g
  exact den_cut 1 (r := (cAt C [true, true, true])) (by kernel_rfl) (D3.ok R) (den_enter [(0, .int .u64 x0), (2, .int .i64 x2)] ⟨e0, e2, trivial⟩ (by kernel_rfl) g)
def D1.t (R : Rt) (x0 : Int) (h : Hp) : Prop :=
  cond (decide (x0 ≥ 4294967296)) (0 ≤ (32 : Int) ∧ letK (shrI .u64 x0 32) fun n1 =>
  D2.t R n1 32 h) (D2.t R x0 0 h)
def D1.g (R : Rt) (fr : Fr) (h : Hp) : Prop := gInt .u64 (fr 0) fun x0 => D1.t R x0 h
theorem D1.ok (R : Rt) (fr : Fr) (h : Hp) (g : D1.g R fr h) : den prog E C (retQ E [.tmp 2] R) fr h := by
  obtain ⟨x0, e0, g⟩ := gInt_elim g
  exact den_cut 2 (r := (cAt C [true, true])) (by kernel_rfl) (D2.ok R) (den_enter [(0, .int .u64 x0)] ⟨e0, trivial⟩ (by kernel_rfl) g)
def t (x0 : Int) (h : Hp) (R : Rt) : Prop := D1.t R x0 h
theorem ok {x0 : Int} {h : Hp} {R : Rt} (g : t x0 h R) : HC id #[.int .u64 x0] h R :=
  calls_of_den' envOk (c := C) (rs := [.tmp 2]) Tryz.func98 (by kernel_rfl) (by kernel_rfl) (by kernel_rfl) (args := [.int .u64 x0]) (by kernel_rfl) (D1.ok R _ h (gInt_intro rfl (g)))
end bits_Len64

namespace gnomonref01_digit
noncomputable def C : Code := bodyOf Tryz.f99
def D2.t (R : Rt) (x7 : Int) (h : Hp) : Prop :=
  letK (IntKind.u32.wrap x7) fun n18 => R (.int .u32 n18) h
def D2.g (R : Rt) (fr : Fr) (h : Hp) : Prop := gInt .u64 (fr 7) fun x7 => D2.t R x7 h
theorem D2.ok (R : Rt) (fr : Fr) (h : Hp) (g : D2.g R fr h) : den prog E (cAt C [true, true, true, true, true, true, true]) (retQ E [.tmp 4] R) fr h := by
  obtain ⟨x7, e7, g⟩ := gInt_elim g
  exact den_enter [(7, .int .u64 x7)] ⟨e7, trivial⟩ (by kernel_rfl) g
def L3.g (N : Option Addr → Nat → Nat → Option Addr → Nat → Nat → Int → Int → Int → Hp → Prop) (fr : Fr) (h : Hp) : Prop := gSlice (fr 0) fun a0 l0 c0 => gSlice (fr 1) fun a1 l1 c1 => gInt .i64 (fr 5) fun x5 => gInt .u64 (fr 7) fun x7 => gInt .u64 (fr 9) fun x9 => N a0 l0 c0 a1 l1 c1 x5 x7 x9 h
def D6.t (R : Rt) (N3 : Option Addr → Nat → Nat → Option Addr → Nat → Nat → Int → Int → Int → Hp → Prop) (a0 : Option Addr) (l0 : Nat) (c0 : Nat) (a1 : Option Addr) (l1 : Nat) (c1 : Nat) (x5 : Int) (x7 : Int) (x8 : Int) (x9 : Int) (h : Hp) : Prop :=
  letK (IntKind.u64.wrap (x9 - (if x8 < x9 then x8 else x9))) fun n20 => N3 a0 l0 c0 a1 l1 c1 x5 x7 n20 h
def D6.g (R : Rt) (N3 : Option Addr → Nat → Nat → Option Addr → Nat → Nat → Int → Int → Int → Hp → Prop) (fr : Fr) (h : Hp) : Prop := gSlice (fr 0) fun a0 l0 c0 => gSlice (fr 1) fun a1 l1 c1 => gInt .i64 (fr 5) fun x5 => gInt .u64 (fr 7) fun x7 => gInt .u64 (fr 8) fun x8 => gInt .u64 (fr 9) fun x9 => D6.t R N3 a0 l0 c0 a1 l1 c1 x5 x7 x8 x9 h
theorem D6.ok (R : Rt) (N3 : Option Addr → Nat → Nat → Option Addr → Nat → Nat → Int → Int → Int → Hp → Prop) (fr : Fr) (h : Hp) (g : D6.g R N3 fr h) : den prog E (cAt C [true, true, true, true, true, true, false, false, false, true, false, true, true, true]) (Ex.inBlock 3 (Ex.then (L3.g N3) (Ex.inBlock 2 (Ex.then (D2.g R) (retQ E [.tmp 4] R))))) fr h := by
  obtain ⟨a0, l0, c0, e0, g⟩ := gSlice_elim g
  obtain ⟨a1, l1, c1, e1, g⟩ := gSlice_elim g
  obtain ⟨x5, e5, g⟩ := gInt_elim g
  obtain ⟨x7, e7, g⟩ := gInt_elim g
  obtain ⟨x8, e8, g⟩ := gInt_elim g
  obtain ⟨x9, e9, g⟩ := gInt_elim g
  exact den_enter [(0, .slice a0 l0 c0), (1, .slice a1 l1 c1), (5, .int .i64 x5), (7, .int .u64 x7), (8, .int .u64 x8), (9, .int .u64 x9)] ⟨e0, e1, e5, e7, e8, e9, trivial⟩ (by kernel_rfl) g
def L8.g (N : Option Addr → Nat → Nat → Option Addr → Nat → Nat → Int → Int → Int → Int → Int → Hp → Prop) (fr : Fr) (h : Hp) : Prop := gSlice (fr 0) fun a0 l0 c0 => gSlice (fr 1) fun a1 l1 c1 => gInt .i64 (fr 5) fun x5 => gInt .u64 (fr 7) fun x7 => gInt .u64 (fr 8) fun x8 => gInt .u64 (fr 9) fun x9 => gInt .i64 (fr 13) fun x13 => N a0 l0 c0 a1 l1 c1 x5 x7 x8 x9 x13 h
def D9.t (R : Rt) (N3 : Option Addr → Nat → Nat → Option Addr → Nat → Nat → Int → Int → Int → Hp → Prop) (N8 : Option Addr → Nat → Nat → Option Addr → Nat → Nat → Int → Int → Int → Int → Int → Hp → Prop) (a0 : Option Addr) (l0 : Nat) (c0 : Nat) (a1 : Option Addr) (l1 : Nat) (c1 : Nat) (x5 : Int) (x7 : Int) (x8 : Int) (x9 : Int) (x13 : Int) (h : Hp) : Prop :=
  cond (decide (x13 ≤ x5)) (idxK a0 l0 x13 1 fun q21 =>
  ldK h q21 fun v22 =>
  gInt .u32 v22 fun x_23 =>
  letK (IntKind.u64.wrap x_23) fun n24 =>
  letK (IntKind.u64.wrap (x8 + n24)) fun n25 =>
  cond (decide (x13 < x5)) (idxK a1 l1 x13 1 fun q26 =>
  ldK h q26 fun v27 =>
  gInt .u32 v27 fun x_28 =>
  letK (IntKind.u64.wrap x_28) fun n29 =>
  letK (IntKind.u64.wrap (n25 + n29)) fun n30 =>
  letK (andI .u64 n30 4294967295) fun n31 =>
  letK (IntKind.u32.wrap n31) fun n32 =>
  idxK a0 l0 x13 1 fun q33 =>
  stK h q33 (.int .u32 n32) fun h34 =>
  0 ≤ (32 : Int) ∧ letK (shrI .u64 n30 32) fun n35 =>
  letK (IntKind.i64.wrap (x13 + 1)) fun n36 =>
  N8 a0 l0 c0 a1 l1 c1 x5 x7 n35 x9 n36 h34) (letK (andI .u64 n25 4294967295) fun n37 =>
  letK (IntKind.u32.wrap n37) fun n38 =>
  idxK a0 l0 x13 1 fun q39 =>
  stK h q39 (.int .u32 n38) fun h40 =>
  0 ≤ (32 : Int) ∧ letK (shrI .u64 n25 32) fun n41 =>
  letK (IntKind.i64.wrap (x13 + 1)) fun n42 =>
  N8 a0 l0 c0 a1 l1 c1 x5 x7 n41 x9 n42 h40)) (D6.t R N3 a0 l0 c0 a1 l1 c1 x5 x7 x8 x9 h)
def D9.g (R : Rt) (N3 : Option Addr → Nat → Nat → Option Addr → Nat → Nat → Int → Int → Int → Hp → Prop) (N8 : Option Addr → Nat → Nat → Option Addr → Nat → Nat → Int → Int → Int → Int → Int → Hp → Prop) (fr : Fr) (h : Hp) : Prop := gSlice (fr 0) fun a0 l0 c0 => gSlice (fr 1) fun a1 l1 c1 => gInt .i64 (fr 5) fun x5 => gInt .u64 (fr 7) fun x7 => gInt .u64 (fr 8) fun x8 => gInt .u64 (fr 9) fun x9 => gInt .i64 (fr 13) fun x13 => D9.t R N3 N8 a0 l0 c0 a1 l1 c1 x5 x7 x8 x9 x13 h
theorem D9.ok (R : Rt) (N3 : Option Addr → Nat → Nat → Option Addr → Nat → Nat → Int → Int → Int → Hp → Prop) (N8 : Option Addr → Nat → Nat → Option Addr → Nat → Nat → Int → Int → Int → Int → Int → Hp → Prop) (fr : Fr) (h : Hp) (g : D9.g R N3 N8 fr h) : den prog E (cAt C [true, true, true, true, true, true, false, false, false, true, false, true, true, false, true, false, false]) (Ex.then (L8.g N8) (Ex.inBlock 4 (Ex.then (D6.g R N3) (Ex.inBlock 3 (Ex.then (L3.g N3) (Ex.inBlock 2 (Ex.then (D2.g R) (retQ E [.tmp 4] R)))))))) fr h := by
  obtain ⟨a0, l0, c0, e0, g⟩ := gSlice_elim g
  obtain ⟨a1, l1, c1, e1, g⟩ := gSlice_elim g
  obtain ⟨x5, e5, g⟩ := gInt_elim g
  obtain ⟨x7, e7, g⟩ := gInt_elim g
  obtain ⟨x8, e8, g⟩ := gInt_elim g
  obtain ⟨x9, e9, g⟩ := gInt_elim g
  obtain ⟨x13, e13, g⟩ := gInt_elim g
  exact den_enter [(0, .slice a0 l0 c0), (1, .slice a1 l1 c1), (5, .int .i64 x5), (7, .int .u64 x7), (8, .int .u64 x8), (9, .int .u64 x9), (13, .int .i64 x13)] ⟨e0, e1, e5, e7, e8, e9, e13, trivial⟩ (by kernel_rfl) g
def L8.t (R : Rt) (N3 : Option Addr → Nat → Nat → Option Addr → Nat → Nat → Int → Int → Int → Hp → Prop) : Nat → Option Addr → Nat → Nat → Option Addr → Nat → Nat → Int → Int → Int → Int → Int → Hp → Prop
  | 0 => fun _ _ _ _ _ _ _ _ _ _ _ _ => False
  | n + 1 => fun a0 l0 c0 a1 l1 c1 x5 x7 x8 x9 x13 h => D9.t R N3 (L8.t R N3 n) a0 l0 c0 a1 l1 c1 x5 x7 x8 x9 x13 h
theorem L8.ok (R : Rt) (N3 : Option Addr → Nat → Nat → Option Addr → Nat → Nat → Int → Int → Int → Hp → Prop) (fr : Fr) (h : Hp) (g : L8.g (fun a0 l0 c0 a1 l1 c1 x5 x7 x8 x9 x13 h => ∃ n, L8.t R N3 n a0 l0 c0 a1 l1 c1 x5 x7 x8 x9 x13 h) fr h) : den prog E (cAt C [true, true, true, true, true, true, false, false, false, true, false, true, true, false, true, false]) (Ex.inBlock 4 (Ex.then (D6.g R N3) (Ex.inBlock 3 (Ex.then (L3.g N3) (Ex.inBlock 2 (Ex.then (D2.g R) (retQ E [.tmp 4] R))))))) fr h := by
  obtain ⟨a0, l0, c0, e0, g⟩ := gSlice_elim g
  obtain ⟨a1, l1, c1, e1, g⟩ := gSlice_elim g
  obtain ⟨x5, e5, g⟩ := gInt_elim g
  obtain ⟨x7, e7, g⟩ := gInt_elim g
  obtain ⟨x8, e8, g⟩ := gInt_elim g
  obtain ⟨x9, e9, g⟩ := gInt_elim g
  obtain ⟨x13, e13, g⟩ := gInt_elim g
  obtain ⟨n, g⟩ := g
  refine loop_ok (fun n => L8.g (L8.t R N3 n)) (b := (cAt C [true, true, true, true, true, true, false, false, false, true, false, true, true, false, true, false, false])) (by kernel_rfl) (fun fr h g => ?_) (fun n => D9.ok R N3 (L8.t R N3 n)) n fr h (gSlice_intro e0 (gSlice_intro e1 (gInt_intro e5 (gInt_intro e7 (gInt_intro e8 (gInt_intro e9 (gInt_intro e13 (g))))))))
  obtain ⟨a0, l0, c0, e0, g⟩ := gSlice_elim g
  obtain ⟨a1, l1, c1, e1, g⟩ := gSlice_elim g
  obtain ⟨x5, e5, g⟩ := gInt_elim g
  obtain ⟨x7, e7, g⟩ := gInt_elim g
  obtain ⟨x8, e8, g⟩ := gInt_elim g
  obtain ⟨x9, e9, g⟩ := gInt_elim g
  obtain ⟨x13, e13, g⟩ := gInt_elim g
  exact g
theorem B10.ok (R : Rt) (N3 : Option Addr → Nat → Nat → Option Addr → Nat → Nat → Int → Int → Int → Hp → Prop) (fr : Fr) (h : Hp) (g : L8.g (fun a0 l0 c0 a1 l1 c1 x5 x7 x8 x9 x13 h => ∃ n, L8.t R N3 n a0 l0 c0 a1 l1 c1 x5 x7 x8 x9 x13 h) fr h) : den prog E (cAt C [true, true, true, true, true, true, false, false, false, true, false, true, true, false, true]) (Ex.then (D6.g R N3) (Ex.inBlock 3 (Ex.then (L3.g N3) (Ex.inBlock 2 (Ex.then (D2.g R) (retQ E [.tmp 4] R)))))) fr h :=
  den_block (by kernel_rfl) (L8.ok R N3 fr h g)
def D7.t (R : Rt) (N3 : Option Addr → Nat → Nat → Option Addr → Nat → Nat → Int → Int → Int → Hp → Prop) (a0 : Option Addr) (l0 : Nat) (c0 : Nat) (a1 : Option Addr) (l1 : Nat) (c1 : Nat) (x5 : Int) (x7 : Int) (x8 : Int) (x9 : Int) (h : Hp) : Prop :=
  (∃ n, L8.t R N3 n a0 l0 c0 a1 l1 c1 x5 x7 x8 x9 0 h)
def D7.g (R : Rt) (N3 : Option Addr → Nat → Nat → Option Addr → Nat → Nat → Int → Int → Int → Hp → Prop) (fr : Fr) (h : Hp) : Prop := gSlice (fr 0) fun a0 l0 c0 => gSlice (fr 1) fun a1 l1 c1 => gInt .i64 (fr 5) fun x5 => gInt .u64 (fr 7) fun x7 => gInt .u64 (fr 8) fun x8 => gInt .u64 (fr 9) fun x9 => D7.t R N3 a0 l0 c0 a1 l1 c1 x5 x7 x8 x9 h
theorem D7.ok (R : Rt) (N3 : Option Addr → Nat → Nat → Option Addr → Nat → Nat → Int → Int → Int → Hp → Prop) (fr : Fr) (h : Hp) (g : D7.g R N3 fr h) : den prog E (cAt C [true, true, true, true, true, true, false, false, false, true, false, true, true, false]) (Ex.then (D6.g R N3) (Ex.inBlock 3 (Ex.then (L3.g N3) (Ex.inBlock 2 (Ex.then (D2.g R) (retQ E [.tmp 4] R)))))) fr h := by
  obtain ⟨a0, l0, c0, e0, g⟩ := gSlice_elim g
  obtain ⟨a1, l1, c1, e1, g⟩ := gSlice_elim g
  obtain ⟨x5, e5, g⟩ := gInt_elim g
  obtain ⟨x7, e7, g⟩ := gInt_elim g
  obtain ⟨x8, e8, g⟩ := gInt_elim g
  obtain ⟨x9, e9, g⟩ := gInt_elim g
  exact den_cut 1 (r := (cAt C [true, true, true, true, true, true, false, false, false, true, false, true, true, false, true])) (by kernel_rfl) (B10.ok R N3) (den_enter [(0, .slice a0 l0 c0), (1, .slice a1 l1 c1), (5, .int .i64 x5), (7, .int .u64 x7), (8, .int .u64 x8), (9, .int .u64 x9)] ⟨e0, e1, e5, e7, e8, e9, trivial⟩ (by kernel_rfl) g)
theorem W11.ok (R : Rt) (N3 : Option Addr → Nat → Nat → Option Addr → Nat → Nat → Int → Int → Int → Hp → Prop) (fr : Fr) (h : Hp) (g : D7.g R N3 fr h) : den prog E (cAt C [true, true, true, true, true, true, false, false, false, true, false, true, true]) (Ex.inBlock 3 (Ex.then (L3.g N3) (Ex.inBlock 2 (Ex.then (D2.g R) (retQ E [.tmp 4] R))))) fr h :=
  den_then (by kernel_rfl) (D6.ok R N3) (D7.ok R N3 fr h g)
def D5.t (R : Rt) (N3 : Option Addr → Nat → Nat → Option Addr → Nat → Nat → Int → Int → Int → Hp → Prop) (a0 : Option Addr) (l0 : Nat) (c0 : Nat) (a1 : Option Addr) (l1 : Nat) (c1 : Nat) (x5 : Int) (x7 : Int) (x9 : Int) (h : Hp) : Prop :=
  letK (IntKind.u64.wrap (x7 - 1)) fun n19 => D7.t R N3 a0 l0 c0 a1 l1 c1 x5 n19 0 x9 h
def D5.g (R : Rt) (N3 : Option Addr → Nat → Nat → Option Addr → Nat → Nat → Int → Int → Int → Hp → Prop) (fr : Fr) (h : Hp) : Prop := gSlice (fr 0) fun a0 l0 c0 => gSlice (fr 1) fun a1 l1 c1 => gInt .i64 (fr 5) fun x5 => gInt .u64 (fr 7) fun x7 => gInt .u64 (fr 9) fun x9 => D5.t R N3 a0 l0 c0 a1 l1 c1 x5 x7 x9 h
theorem D5.ok (R : Rt) (N3 : Option Addr → Nat → Nat → Option Addr → Nat → Nat → Int → Int → Int → Hp → Prop) (fr : Fr) (h : Hp) (g : D5.g R N3 fr h) : den prog E (cAt C [true, true, true, true, true, true, false, false, false, true, false]) (Ex.inBlock 3 (Ex.then (L3.g N3) (Ex.inBlock 2 (Ex.then (D2.g R) (retQ E [.tmp 4] R))))) fr h := by
  obtain ⟨a0, l0, c0, e0, g⟩ := gSlice_elim g
  obtain ⟨a1, l1, c1, e1, g⟩ := gSlice_elim g
  obtain ⟨x5, e5, g⟩ := gInt_elim g
  obtain ⟨x7, e7, g⟩ := gInt_elim g
  obtain ⟨x9, e9, g⟩ := gInt_elim g
  exact den_cut 2 (r := (cAt C [true, true, true, true, true, true, false, false, false, true, false, true, true])) (by kernel_rfl) (W11.ok R N3) (den_enter [(0, .slice a0 l0 c0), (1, .slice a1 l1 c1), (5, .int .i64 x5), (7, .int .u64 x7), (9, .int .u64 x9)] ⟨e0, e1, e5, e7, e9, trivial⟩ (by kernel_rfl) g)
theorem B12.ok (R : Rt) (N3 : Option Addr → Nat → Nat → Option Addr → Nat → Nat → Int → Int → Int → Hp → Prop) (fr : Fr) (h : Hp) (g : D5.g R N3 fr h) : den prog E (cAt C [true, true, true, true, true, true, false, false, false, true]) (Ex.then (L3.g N3) (Ex.inBlock 2 (Ex.then (D2.g R) (retQ E [.tmp 4] R)))) fr h :=
  den_block (by kernel_rfl) (D5.ok R N3 fr h g)
def D4.t (R : Rt) (N3 : Option Addr → Nat → Nat → Option Addr → Nat → Nat → Int → Int → Int → Hp → Prop) (a0 : Option Addr) (l0 : Nat) (c0 : Nat) (a1 : Option Addr) (l1 : Nat) (c1 : Nat) (x5 : Int) (x7 : Int) (x9 : Int) (h : Hp) : Prop :=
  cond (decide (x9 > 0)) (D5.t R N3 a0 l0 c0 a1 l1 c1 x5 x7 x9 h) (D2.t R x7 h)
def D4.g (R : Rt) (N3 : Option Addr → Nat → Nat → Option Addr → Nat → Nat → Int → Int → Int → Hp → Prop) (fr : Fr) (h : Hp) : Prop := gSlice (fr 0) fun a0 l0 c0 => gSlice (fr 1) fun a1 l1 c1 => gInt .i64 (fr 5) fun x5 => gInt .u64 (fr 7) fun x7 => gInt .u64 (fr 9) fun x9 => D4.t R N3 a0 l0 c0 a1 l1 c1 x5 x7 x9 h
theorem D4.ok (R : Rt) (N3 : Option Addr → Nat → Nat → Option Addr → Nat → Nat → Int → Int → Int → Hp → Prop) (fr : Fr) (h : Hp) (g : D4.g R N3 fr h) : den prog E (cAt C [true, true, true, true, true, true, false, false, false]) (Ex.then (L3.g N3) (Ex.inBlock 2 (Ex.then (D2.g R) (retQ E [.tmp 4] R)))) fr h := by
  obtain ⟨a0, l0, c0, e0, g⟩ := gSlice_elim g
  obtain ⟨a1, l1, c1, e1, g⟩ := gSlice_elim g
  obtain ⟨x5, e5, g⟩ := gInt_elim g
  obtain ⟨x7, e7, g⟩ := gInt_elim g
  obtain ⟨x9, e9, g⟩ := gInt_elim g
  exact den_cut 1 (r := (cAt C [true, true, true, true, true, true, false, false, false, true])) (by kernel_rfl) (B12.ok R N3) (den_enter [(0, .slice a0 l0 c0), (1, .slice a1 l1 c1), (5, .int .i64 x5), (7, .int .u64 x7), (9, .int .u64 x9)] ⟨e0, e1, e5, e7, e9, trivial⟩ (by kernel_rfl) g)
def L3.t (R : Rt) : Nat → Option Addr → Nat → Nat → Option Addr → Nat → Nat → Int → Int → Int → Hp → Prop
  | 0 => fun _ _ _ _ _ _ _ _ _ _ => False
  | n + 1 => fun a0 l0 c0 a1 l1 c1 x5 x7 x9 h => D4.t R (L3.t R n) a0 l0 c0 a1 l1 c1 x5 x7 x9 h
theorem L3.ok (R : Rt) (fr : Fr) (h : Hp) (g : L3.g (fun a0 l0 c0 a1 l1 c1 x5 x7 x9 h => ∃ n, L3.t R n a0 l0 c0 a1 l1 c1 x5 x7 x9 h) fr h) : den prog E (cAt C [true, true, true, true, true, true, false, false]) (Ex.inBlock 2 (Ex.then (D2.g R) (retQ E [.tmp 4] R))) fr h := by
  obtain ⟨a0, l0, c0, e0, g⟩ := gSlice_elim g
  obtain ⟨a1, l1, c1, e1, g⟩ := gSlice_elim g
  obtain ⟨x5, e5, g⟩ := gInt_elim g
  obtain ⟨x7, e7, g⟩ := gInt_elim g
  obtain ⟨x9, e9, g⟩ := gInt_elim g
  obtain ⟨n, g⟩ := g
  refine loop_ok (fun n => L3.g (L3.t R n)) (b := (cAt C [true, true, true, true, true, true, false, false, false])) (by kernel_rfl) (fun fr h g => ?_) (fun n => D4.ok R (L3.t R n)) n fr h (gSlice_intro e0 (gSlice_intro e1 (gInt_intro e5 (gInt_intro e7 (gInt_intro e9 (g))))))
  obtain ⟨a0, l0, c0, e0, g⟩ := gSlice_elim g
  obtain ⟨a1, l1, c1, e1, g⟩ := gSlice_elim g
  obtain ⟨x5, e5, g⟩ := gInt_elim g
  obtain ⟨x7, e7, g⟩ := gInt_elim g
  obtain ⟨x9, e9, g⟩ := gInt_elim g
  exact g
theorem B13.ok (R : Rt) (fr : Fr) (h : Hp) (g : L3.g (fun a0 l0 c0 a1 l1 c1 x5 x7 x9 h => ∃ n, L3.t R n a0 l0 c0 a1 l1 c1 x5 x7 x9 h) fr h) : den prog E (cAt C [true, true, true, true, true, true, false]) (Ex.then (D2.g R) (retQ E [.tmp 4] R)) fr h :=
  den_block (by kernel_rfl) (L3.ok R fr h g)
theorem W14.ok (R : Rt) (fr : Fr) (h : Hp) (g : L3.g (fun a0 l0 c0 a1 l1 c1 x5 x7 x9 h => ∃ n, L3.t R n a0 l0 c0 a1 l1 c1 x5 x7 x9 h) fr h) : den prog E (cAt C [true, true, true, true, true, true]) (retQ E [.tmp 4] R) fr h :=
  den_then (by kernel_rfl) (D2.ok R) (B13.ok R fr h g)
def L16.g (N : Option Addr → Nat → Nat → Option Addr → Nat → Nat → Int → Int → Int → Int → Int → Hp → Prop) (fr : Fr) (h : Hp) : Prop := gSlice (fr 0) fun a0 l0 c0 => gSlice (fr 1) fun a1 l1 c1 => gInt .i64 (fr 5) fun x5 => gInt .u64 (fr 7) fun x7 => gInt .u64 (fr 8) fun x8 => gInt .u64 (fr 9) fun x9 => gInt .i64 (fr 10) fun x10 => N a0 l0 c0 a1 l1 c1 x5 x7 x8 x9 x10 h
def D17.t (R : Rt) (N16 : Option Addr → Nat → Nat → Option Addr → Nat → Nat → Int → Int → Int → Int → Int → Hp → Prop) (a0 : Option Addr) (l0 : Nat) (c0 : Nat) (a1 : Option Addr) (l1 : Nat) (c1 : Nat) (x5 : Int) (x7 : Int) (x8 : Int) (x9 : Int) (x10 : Int) (h : Hp) : Prop :=
  cond (decide (x10 ≤ x5)) (cond (decide (x10 < x5)) (idxK a1 l1 x10 1 fun q43 =>
  ldK h q43 fun v44 =>
  gInt .u32 v44 fun x_45 =>
  letK (IntKind.u64.wrap x_45) fun n46 =>
  letK (IntKind.u64.wrap (x7 * n46)) fun n47 =>
  letK (IntKind.u64.wrap (x8 + n47)) fun n48 =>
  letK (andI .u64 n48 4294967295) fun n49 =>
  letK (IntKind.u64.wrap (n49 + x9)) fun n50 =>
  0 ≤ (32 : Int) ∧ letK (shrI .u64 n48 32) fun n51 =>
  idxK a0 l0 x10 1 fun q52 =>
  ldK h q52 fun v53 =>
  gInt .u32 v53 fun x_54 =>
  letK (IntKind.u64.wrap x_54) fun n55 =>
  cond (decide (n55 < n50)) (letK (IntKind.u64.wrap (n55 + 4294967296)) fun n56 =>
  letK (IntKind.u64.wrap (n56 - n50)) fun n57 =>
  letK (IntKind.u32.wrap n57) fun n58 =>
  idxK a0 l0 x10 1 fun q59 =>
  stK h q59 (.int .u32 n58) fun h60 =>
  letK (IntKind.i64.wrap (x10 + 1)) fun n61 =>
  N16 a0 l0 c0 a1 l1 c1 x5 x7 n51 1 n61 h60) (letK (IntKind.u64.wrap (n55 - n50)) fun n62 =>
  letK (IntKind.u32.wrap n62) fun n63 =>
  idxK a0 l0 x10 1 fun q64 =>
  stK h q64 (.int .u32 n63) fun h65 =>
  letK (IntKind.i64.wrap (x10 + 1)) fun n66 =>
  N16 a0 l0 c0 a1 l1 c1 x5 x7 n51 0 n66 h65)) (letK (andI .u64 x8 4294967295) fun n67 =>
  letK (IntKind.u64.wrap (n67 + x9)) fun n68 =>
  0 ≤ (32 : Int) ∧ letK (shrI .u64 x8 32) fun n69 =>
  idxK a0 l0 x10 1 fun q70 =>
  ldK h q70 fun v71 =>
  gInt .u32 v71 fun x_72 =>
  letK (IntKind.u64.wrap x_72) fun n73 =>
  cond (decide (n73 < n68)) (letK (IntKind.u64.wrap (n73 + 4294967296)) fun n74 =>
  letK (IntKind.u64.wrap (n74 - n68)) fun n75 =>
  letK (IntKind.u32.wrap n75) fun n76 =>
  idxK a0 l0 x10 1 fun q77 =>
  stK h q77 (.int .u32 n76) fun h78 =>
  letK (IntKind.i64.wrap (x10 + 1)) fun n79 =>
  N16 a0 l0 c0 a1 l1 c1 x5 x7 n69 1 n79 h78) (letK (IntKind.u64.wrap (n73 - n68)) fun n80 =>
  letK (IntKind.u32.wrap n80) fun n81 =>
  idxK a0 l0 x10 1 fun q82 =>
  stK h q82 (.int .u32 n81) fun h83 =>
  letK (IntKind.i64.wrap (x10 + 1)) fun n84 =>
  N16 a0 l0 c0 a1 l1 c1 x5 x7 n69 0 n84 h83))) ((∃ n, L3.t R n a0 l0 c0 a1 l1 c1 x5 x7 x9 h))
def D17.g (R : Rt) (N16 : Option Addr → Nat → Nat → Option Addr → Nat → Nat → Int → Int → Int → Int → Int → Hp → Prop) (fr : Fr) (h : Hp) : Prop := gSlice (fr 0) fun a0 l0 c0 => gSlice (fr 1) fun a1 l1 c1 => gInt .i64 (fr 5) fun x5 => gInt .u64 (fr 7) fun x7 => gInt .u64 (fr 8) fun x8 => gInt .u64 (fr 9) fun x9 => gInt .i64 (fr 10) fun x10 => D17.t R N16 a0 l0 c0 a1 l1 c1 x5 x7 x8 x9 x10 h
theorem D17.ok (R : Rt) (N16 : Option Addr → Nat → Nat → Option Addr → Nat → Nat → Int → Int → Int → Int → Int → Hp → Prop) (fr : Fr) (h : Hp) (g : D17.g R N16 fr h) : den prog E (cAt C [true, true, true, true, true, false, true, false, false]) (Ex.then (L16.g N16) (Ex.inBlock 0 (Ex.then (L3.g (fun a0 l0 c0 a1 l1 c1 x5 x7 x9 h => ∃ n, L3.t R n a0 l0 c0 a1 l1 c1 x5 x7 x9 h)) (retQ E [.tmp 4] R)))) fr h := by
  obtain ⟨a0, l0, c0, e0, g⟩ := gSlice_elim g
  obtain ⟨a1, l1, c1, e1, g⟩ := gSlice_elim g
  obtain ⟨x5, e5, g⟩ := gInt_elim g
  obtain ⟨x7, e7, g⟩ := gInt_elim g
  obtain ⟨x8, e8, g⟩ := gInt_elim g
  obtain ⟨x9, e9, g⟩ := gInt_elim g
  obtain ⟨x10, e10, g⟩ := gInt_elim g
  exact den_enter [(0, .slice a0 l0 c0), (1, .slice a1 l1 c1), (5, .int .i64 x5), (7, .int .u64 x7), (8, .int .u64 x8), (9, .int .u64 x9), (10, .int .i64 x10)] ⟨e0, e1, e5, e7, e8, e9, e10, trivial⟩ (by kernel_rfl) g
def L16.t (R : Rt) : Nat → Option Addr → Nat → Nat → Option Addr → Nat → Nat → Int → Int → Int → Int → Int → Hp → Prop
  | 0 => fun _ _ _ _ _ _ _ _ _ _ _ _ => False
  | n + 1 => fun a0 l0 c0 a1 l1 c1 x5 x7 x8 x9 x10 h => D17.t R (L16.t R n) a0 l0 c0 a1 l1 c1 x5 x7 x8 x9 x10 h
theorem L16.ok (R : Rt) (fr : Fr) (h : Hp) (g : L16.g (fun a0 l0 c0 a1 l1 c1 x5 x7 x8 x9 x10 h => ∃ n, L16.t R n a0 l0 c0 a1 l1 c1 x5 x7 x8 x9 x10 h) fr h) : den prog E (cAt C [true, true, true, true, true, false, true, false]) (Ex.inBlock 0 (Ex.then (L3.g (fun a0 l0 c0 a1 l1 c1 x5 x7 x9 h => ∃ n, L3.t R n a0 l0 c0 a1 l1 c1 x5 x7 x9 h)) (retQ E [.tmp 4] R))) fr h := by
  obtain ⟨a0, l0, c0, e0, g⟩ := gSlice_elim g
  obtain ⟨a1, l1, c1, e1, g⟩ := gSlice_elim g
  obtain ⟨x5, e5, g⟩ := gInt_elim g
  obtain ⟨x7, e7, g⟩ := gInt_elim g
  obtain ⟨x8, e8, g⟩ := gInt_elim g
  obtain ⟨x9, e9, g⟩ := gInt_elim g
  obtain ⟨x10, e10, g⟩ := gInt_elim g
  obtain ⟨n, g⟩ := g
  refine loop_ok (fun n => L16.g (L16.t R n)) (b := (cAt C [true, true, true, true, true, false, true, false, false])) (by kernel_rfl) (fun fr h g => ?_) (fun n => D17.ok R (L16.t R n)) n fr h (gSlice_intro e0 (gSlice_intro e1 (gInt_intro e5 (gInt_intro e7 (gInt_intro e8 (gInt_intro e9 (gInt_intro e10 (g))))))))
  obtain ⟨a0, l0, c0, e0, g⟩ := gSlice_elim g
  obtain ⟨a1, l1, c1, e1, g⟩ := gSlice_elim g
  obtain ⟨x5, e5, g⟩ := gInt_elim g
  obtain ⟨x7, e7, g⟩ := gInt_elim g
  obtain ⟨x8, e8, g⟩ := gInt_elim g
  obtain ⟨x9, e9, g⟩ := gInt_elim g
  obtain ⟨x10, e10, g⟩ := gInt_elim g
  exact g
theorem B18.ok (R : Rt) (fr : Fr) (h : Hp) (g : L16.g (fun a0 l0 c0 a1 l1 c1 x5 x7 x8 x9 x10 h => ∃ n, L16.t R n a0 l0 c0 a1 l1 c1 x5 x7 x8 x9 x10 h) fr h) : den prog E (cAt C [true, true, true, true, true, false, true]) (Ex.then (L3.g (fun a0 l0 c0 a1 l1 c1 x5 x7 x9 h => ∃ n, L3.t R n a0 l0 c0 a1 l1 c1 x5 x7 x9 h)) (retQ E [.tmp 4] R)) fr h :=
  den_block (by kernel_rfl) (L16.ok R fr h g)
def D15.t (R : Rt) (a0 : Option Addr) (l0 : Nat) (c0 : Nat) (a1 : Option Addr) (l1 : Nat) (c1 : Nat) (x5 : Int) (x7 : Int) (x8 : Int) (x9 : Int) (h : Hp) : Prop :=
  (∃ n, L16.t R n a0 l0 c0 a1 l1 c1 x5 x7 x8 x9 0 h)
def D15.g (R : Rt) (fr : Fr) (h : Hp) : Prop := gSlice (fr 0) fun a0 l0 c0 => gSlice (fr 1) fun a1 l1 c1 => gInt .i64 (fr 5) fun x5 => gInt .u64 (fr 7) fun x7 => gInt .u64 (fr 8) fun x8 => gInt .u64 (fr 9) fun x9 => D15.t R a0 l0 c0 a1 l1 c1 x5 x7 x8 x9 h
theorem D15.ok (R : Rt) (fr : Fr) (h : Hp) (g : D15.g R fr h) : den prog E (cAt C [true, true, true, true, true, false]) (Ex.then (L3.g (fun a0 l0 c0 a1 l1 c1 x5 x7 x9 h => ∃ n, L3.t R n a0 l0 c0 a1 l1 c1 x5 x7 x9 h)) (retQ E [.tmp 4] R)) fr h := by
  obtain ⟨a0, l0, c0, e0, g⟩ := gSlice_elim g
  obtain ⟨a1, l1, c1, e1, g⟩ := gSlice_elim g
  obtain ⟨x5, e5, g⟩ := gInt_elim g
  obtain ⟨x7, e7, g⟩ := gInt_elim g
  obtain ⟨x8, e8, g⟩ := gInt_elim g
  obtain ⟨x9, e9, g⟩ := gInt_elim g
  exact den_cut 1 (r := (cAt C [true, true, true, true, true, false, true])) (by kernel_rfl) (B18.ok R) (den_enter [(0, .slice a0 l0 c0), (1, .slice a1 l1 c1), (5, .int .i64 x5), (7, .int .u64 x7), (8, .int .u64 x8), (9, .int .u64 x9)] ⟨e0, e1, e5, e7, e8, e9, trivial⟩ (by kernel_rfl) g)
theorem W19.ok (R : Rt) (fr : Fr) (h : Hp) (g : D15.g R fr h) : den prog E (cAt C [true, true, true, true, true]) (retQ E [.tmp 4] R) fr h :=
  den_then (by kernel_rfl) (W14.ok R) (D15.ok R fr h g)
def D1.t (R : Rt) (a0 : Option Addr) (l0 : Nat) (c0 : Nat) (a1 : Option Addr) (l1 : Nat) (c1 : Nat) (h : Hp) : Prop :=
  idxK a0 l0 (((l1 : Nat) : Int)) 1 fun q1 =>
  ldK h q1 fun v2 =>
  gInt .u32 v2 fun x_3 =>
  letK (IntKind.u64.wrap x_3) fun n4 =>
  0 ≤ (32 : Int) ∧ letK (shlI .u64 n4 32) fun n5 =>
  letK (IntKind.i64.wrap ((((l1 : Nat) : Int)) - 1)) fun n6 =>
  idxK a0 l0 n6 1 fun q7 =>
  ldK h q7 fun v8 =>
  gInt .u32 v8 fun x_9 =>
  letK (IntKind.u64.wrap x_9) fun n10 =>
  letK (IntKind.u64.wrap (n5 + n10)) fun n11 =>
  letK (IntKind.i64.wrap ((((l1 : Nat) : Int)) - 1)) fun n12 =>
  idxK a1 l1 n12 1 fun q13 =>
  ldK h q13 fun v14 =>
  gInt .u32 v14 fun x_15 =>
  letK (IntKind.u64.wrap x_15) fun n16 =>
  n16 ≠ 0 ∧ letK (IntKind.u64.wrap (Int.tdiv n11 n16)) fun n17 =>
  D15.t R a0 l0 c0 a1 l1 c1 (((l1 : Nat) : Int)) (if 4294967295 < n17 then 4294967295 else n17) 0 0 h
def D1.g (R : Rt) (fr : Fr) (h : Hp) : Prop := gSlice (fr 0) fun a0 l0 c0 => gSlice (fr 1) fun a1 l1 c1 => D1.t R a0 l0 c0 a1 l1 c1 h
theorem D1.ok (R : Rt) (fr : Fr) (h : Hp) (g : D1.g R fr h) : den prog E C (retQ E [.tmp 4] R) fr h := by
  obtain ⟨a0, l0, c0, e0, g⟩ := gSlice_elim g
  obtain ⟨a1, l1, c1, e1, g⟩ := gSlice_elim g
  exact den_cut 5 (r := (cAt C [true, true, true, true, true])) (by kernel_rfl) (W19.ok R) (den_enter [(0, .slice a0 l0 c0), (1, .slice a1 l1 c1)] ⟨e0, e1, trivial⟩ (by kernel_rfl) g)
def t (a0 : Option Addr) (l0 : Nat) (c0 : Nat) (a1 : Option Addr) (l1 : Nat) (c1 : Nat) (h : Hp) (R : Rt) : Prop := D1.t R a0 l0 c0 a1 l1 c1 h
theorem ok {a0 : Option Addr} {l0 : Nat} {c0 : Nat} {a1 : Option Addr} {l1 : Nat} {c1 : Nat} {h : Hp} {R : Rt} (g : t a0 l0 c0 a1 l1 c1 h R) : HC id #[.slice a0 l0 c0, .slice a1 l1 c1] h R :=
  calls_of_den' envOk (c := C) (rs := [.tmp 4]) Tryz.func99 (by kernel_rfl) (by kernel_rfl) (by kernel_rfl) (args := [.slice a0 l0 c0, .slice a1 l1 c1]) (by kernel_rfl) (D1.ok R _ h (gSlice_intro rfl (gSlice_intro rfl (g))))
end gnomonref01_digit

end Go.Proofs.YtjijdlkpmngolaaGreat.G
