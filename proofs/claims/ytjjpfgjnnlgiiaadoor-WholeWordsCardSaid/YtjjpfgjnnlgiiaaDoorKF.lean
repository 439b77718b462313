/- Texts of this work, joined: F. -/
import Derived.Test.YtjjpfgjnnlgiiaaDoorKE
/- Functions of the translation as predicates over heaps, and that their calls do so. Written by a program of this work. -/
namespace Go.Proofs.YtjjpfgjnnlgiiaaDoor.G
open Go.Gv
set_option linter.unusedVariables false
set_option maxRecDepth 100000
namespace gnomontop_WholeWords
noncomputable def C : Code := bodyOf Tryd.f3
def D4.t (R : Rt)  (h : Hp) : Prop :=
  R (.bool true) h
def D4.g (R : Rt) (fr : Fr) (h : Hp) : Prop := D4.t R  h
theorem D4.ok (R : Rt) (fr : Fr) (h : Hp) (g : D4.g R fr h) : den prog E (cAt C [true, true, true, true, true, true, true, true, true, true, true, true, true]) (retQ E [.tmp 2] R) fr h := by
  exact den_enter [] trivial (by kernel_rfl) g
def L6.g (N : Int → Addr → Int → Hp → Prop) (fr : Fr) (h : Hp) : Prop := gInt .i64 (fr 3) fun x3 => gPtrS (fr 4) fun q4 => gInt .i64 (fr 17) fun x17 => N x3 q4 x17 h
def D7.t (R : Rt) (N6 : Int → Addr → Int → Hp → Prop) (x3 : Int) (q4 : Addr) (x17 : Int) (h : Hp) : Prop :=
  cond (decide (x17 < 4)) ((64 : Int) ≠ 0 ∧ letK (IntKind.i64.wrap (Int.tdiv x3 64)) fun n84 =>
  letK (IntKind.i64.wrap (n84 + x17)) fun n85 =>
  HC payne_Word.id #[.int .i64 n85] h fun v86 h87 =>
  gTup v86 fun y88 =>
  uncons y88 fun v89 y89 =>
  gInt .u64 v89 fun x_90 =>
  uncons y89 fun v91 y91 =>
  gInt .i64 v91 fun x_92 =>
  unnil y91 <| cond (x_92 != 0) (R (.bool false) h87) (idxK (some q4) 4 x17 1 fun q93 =>
  ldK h87 q93 fun v94 =>
  gInt .u64 v94 fun x_95 =>
  cond (x_90 != x_95) (R (.bool false) h87) (letK (IntKind.i64.wrap (x17 + 1)) fun n96 =>
  N6 x3 q4 n96 h87))) (D4.t R h)
def D7.g (R : Rt) (N6 : Int → Addr → Int → Hp → Prop) (fr : Fr) (h : Hp) : Prop := gInt .i64 (fr 3) fun x3 => gPtrS (fr 4) fun q4 => gInt .i64 (fr 17) fun x17 => D7.t R N6 x3 q4 x17 h
theorem D7.ok (R : Rt) (N6 : Int → Addr → Int → Hp → Prop) (fr : Fr) (h : Hp) (g : D7.g R N6 fr h) : den prog E (cAt C [true, true, true, true, true, true, true, true, true, true, true, true, false, true, false, false]) (Ex.then (L6.g N6) (Ex.inBlock 0 (Ex.then (D4.g R) (retQ E [.tmp 2] R)))) fr h := by
  obtain ⟨x3, e3, g⟩ := gInt_elim g
  obtain ⟨q4, e4, g⟩ := gPtrS_elim g
  obtain ⟨x17, e17, g⟩ := gInt_elim g
  exact den_enter [(3, .int .i64 x3), (4, .pointer (some q4)), (17, .int .i64 x17)] ⟨e3, e4, e17, trivial⟩ (by kernel_rfl) g
def L6.t (R : Rt) : Nat → Int → Addr → Int → Hp → Prop
  | 0 => fun _ _ _ _ => False
  | n + 1 => fun x3 q4 x17 h => D7.t R (L6.t R n) x3 q4 x17 h
theorem L6.ok (R : Rt) (fr : Fr) (h : Hp) (g : L6.g (fun x3 q4 x17 h => ∃ n, L6.t R n x3 q4 x17 h) fr h) : den prog E (cAt C [true, true, true, true, true, true, true, true, true, true, true, true, false, true, false]) (Ex.inBlock 0 (Ex.then (D4.g R) (retQ E [.tmp 2] R))) fr h := by
  obtain ⟨x3, e3, g⟩ := gInt_elim g
  obtain ⟨q4, e4, g⟩ := gPtrS_elim g
  obtain ⟨x17, e17, g⟩ := gInt_elim g
  obtain ⟨n, g⟩ := g
  refine loop_ok (fun n => L6.g (L6.t R n)) (b := (cAt C [true, true, true, true, true, true, true, true, true, true, true, true, false, true, false, false])) (by kernel_rfl) (fun fr h g => ?_) (fun n => D7.ok R (L6.t R n)) n fr h (gInt_intro e3 (gPtrS_intro e4 (gInt_intro e17 (g))))
  obtain ⟨x3, e3, g⟩ := gInt_elim g
  obtain ⟨q4, e4, g⟩ := gPtrS_elim g
  obtain ⟨x17, e17, g⟩ := gInt_elim g
  exact g
theorem B8.ok (R : Rt) (fr : Fr) (h : Hp) (g : L6.g (fun x3 q4 x17 h => ∃ n, L6.t R n x3 q4 x17 h) fr h) : den prog E (cAt C [true, true, true, true, true, true, true, true, true, true, true, true, false, true]) (Ex.then (D4.g R) (retQ E [.tmp 2] R)) fr h :=
  den_block (by kernel_rfl) (L6.ok R fr h g)
def D5.t (R : Rt) (x3 : Int) (q4 : Addr) (h : Hp) : Prop :=
  (∃ n, L6.t R n x3 q4 0 h)
def D5.g (R : Rt) (fr : Fr) (h : Hp) : Prop := gInt .i64 (fr 3) fun x3 => gPtrS (fr 4) fun q4 => D5.t R x3 q4 h
theorem D5.ok (R : Rt) (fr : Fr) (h : Hp) (g : D5.g R fr h) : den prog E (cAt C [true, true, true, true, true, true, true, true, true, true, true, true, false]) (Ex.then (D4.g R) (retQ E [.tmp 2] R)) fr h := by
  obtain ⟨x3, e3, g⟩ := gInt_elim g
  obtain ⟨q4, e4, g⟩ := gPtrS_elim g
  exact den_cut 1 (r := (cAt C [true, true, true, true, true, true, true, true, true, true, true, true, false, true])) (by kernel_rfl) (B8.ok R) (den_enter [(3, .int .i64 x3), (4, .pointer (some q4))] ⟨e3, e4, trivial⟩ (by kernel_rfl) g)
theorem W9.ok (R : Rt) (fr : Fr) (h : Hp) (g : D5.g R fr h) : den prog E (cAt C [true, true, true, true, true, true, true, true, true, true, true, true]) (retQ E [.tmp 2] R) fr h :=
  den_then (by kernel_rfl) (D4.ok R) (D5.ok R fr h g)
def D3.t (R : Rt) (x3 : Int) (q4 : Addr) (h : Hp) : Prop :=
  (64 : Int) ≠ 0 ∧ letK (Int.tmod x3 64) fun n83 => cond (n83 != 0) (R (.bool true) h) (D5.t R x3 q4 h)
def D3.g (R : Rt) (fr : Fr) (h : Hp) : Prop := gInt .i64 (fr 3) fun x3 => gPtrS (fr 4) fun q4 => D3.t R x3 q4 h
theorem D3.ok (R : Rt) (fr : Fr) (h : Hp) (g : D3.g R fr h) : den prog E (cAt C [true, true, true, true, true, true, true, true, true, true, true]) (retQ E [.tmp 2] R) fr h := by
  obtain ⟨x3, e3, g⟩ := gInt_elim g
  obtain ⟨q4, e4, g⟩ := gPtrS_elim g
  exact den_cut 1 (r := (cAt C [true, true, true, true, true, true, true, true, true, true, true, true])) (by kernel_rfl) (W9.ok R) (den_enter [(3, .int .i64 x3), (4, .pointer (some q4))] ⟨e3, e4, trivial⟩ (by kernel_rfl) g)
def D2.t (R : Rt) (x3 : Int) (q4 : Addr) (h : Hp) : Prop :=
  (20 : Int) ≠ 0 ∧ letK (Int.tmod x3 20) fun n63 =>
  HC payne_Word.id #[.int .i64 n63] h fun v64 h65 =>
  gTup v64 fun y66 =>
  uncons y66 fun v67 y67 =>
  gInt .u64 v67 fun x_68 =>
  uncons y67 fun v69 y69 =>
  gInt .i64 v69 fun x_70 =>
  unnil y69 <| letK (IntKind.i64.wrap (n63 + 1)) fun n71 =>
  letK (IntKind.i64.wrap (64 * n71)) fun n72 =>
  HC piconst_FloorInv.id #[.int .i64 n72] h65 fun v73 h74 =>
  gTup v73 fun y75 =>
  uncons y75 fun v76 y76 =>
  gSlice v76 fun a_77 l_77 c_77 =>
  uncons y76 fun v78 y78 =>
  gInt .i64 v78 fun x_79 =>
  unnil y78 <| cond (x_70 != 0) (R (.bool false) h74) (cond (x_79 != 0) (R (.bool false) h74) (cond ((((l_77 : Nat) : Int)) == 0) (R (.bool false) h74) (idxK a_77 l_77 0 1 fun q80 =>
  ldK h74 q80 fun v81 =>
  gInt .u64 v81 fun x_82 =>
  cond (x_68 != x_82) (R (.bool false) h74) (D3.t R x3 q4 h74))))
def D2.g (R : Rt) (fr : Fr) (h : Hp) : Prop := gInt .i64 (fr 3) fun x3 => gPtrS (fr 4) fun q4 => D2.t R x3 q4 h
theorem D2.ok (R : Rt) (fr : Fr) (h : Hp) (g : D2.g R fr h) : den prog E (cAt C [true, true, true, true, true, true, true]) (retQ E [.tmp 2] R) fr h := by
  obtain ⟨x3, e3, g⟩ := gInt_elim g
  obtain ⟨q4, e4, g⟩ := gPtrS_elim g
  exact den_cut 4 (r := (cAt C [true, true, true, true, true, true, true, true, true, true, true])) (by kernel_rfl) (D3.ok R) (den_enter [(3, .int .i64 x3), (4, .pointer (some q4))] ⟨e3, e4, trivial⟩ (by kernel_rfl) g)
def D1.t (R : Rt) (x0 : Int) (h : Hp) : Prop :=
  letK (IntKind.i64.wrap x0) fun n1 =>
  (1025 : Int) ≠ 0 ∧ letK (Int.tmod n1 1025) fun n2 =>
  HC payne_Window.id #[.int .i64 n2] h fun v3 h4 =>
  gTup v3 fun y5 =>
  uncons y5 fun v6 y6 =>
  gAgg v6 fun y7 =>
  uncons y7 fun v8 y8 =>
  gInt .u64 v8 fun x_9 =>
  uncons y8 fun v10 y10 =>
  gInt .u64 v10 fun x_11 =>
  uncons y10 fun v12 y12 =>
  gInt .u64 v12 fun x_13 =>
  uncons y12 fun v14 y14 =>
  gInt .u64 v14 fun x_15 =>
  unnil y14 <| uncons y6 fun v16 y16 =>
  gInt .i64 v16 fun x_17 =>
  unnil y16 <| boxK h4 24 T24.zs fun q18 h19 =>
  stK h19 (q18.add 0) (.int .u64 x_9) fun h20 =>
  stK h20 (q18.add 1) (.int .u64 x_11) fun h21 =>
  stK h21 (q18.add 2) (.int .u64 x_13) fun h22 =>
  stK h22 (q18.add 3) (.int .u64 x_15) fun h23 =>
  letK (IntKind.i64.wrap (n2 + 256)) fun n24 =>
  HC piconst_FloorInv.id #[.int .i64 n24] h23 fun v25 h26 =>
  gTup v25 fun y27 =>
  uncons y27 fun v28 y28 =>
  gSlice v28 fun a_29 l_29 c_29 =>
  uncons y28 fun v30 y30 =>
  gInt .i64 v30 fun x_31 =>
  unnil y30 <| HC nat_Low.id #[.slice a_29 l_29 c_29, .int .i64 256] h26 fun v32 h33 =>
  gTup v32 fun y34 =>
  uncons y34 fun v35 y35 =>
  gSlice v35 fun a_36 l_36 c_36 =>
  uncons y35 fun v37 y37 =>
  gInt .i64 v37 fun x_38 =>
  unnil y37 <| idxK (some q18) 4 3 1 fun q39 =>
  ldK h33 q39 fun v40 =>
  gInt .u64 v40 fun x_41 =>
  idxK (some q18) 4 2 1 fun q42 =>
  ldK h33 q42 fun v43 =>
  gInt .u64 v43 fun x_44 =>
  idxK (some q18) 4 1 1 fun q45 =>
  ldK h33 q45 fun v46 =>
  gInt .u64 v46 fun x_47 =>
  idxK (some q18) 4 0 1 fun q48 =>
  ldK h33 q48 fun v49 =>
  gInt .u64 v49 fun x_50 =>
  boxK h33 23 [.int .u64 x_41, .int .u64 x_44, .int .u64 x_47, .int .u64 x_50] fun q51 h52 =>
  HC nat_Norm.id #[.slice (some q51) 4 4] h52 fun v53 h54 =>
  gTup v53 fun y55 =>
  uncons y55 fun v56 y56 =>
  gSlice v56 fun a_57 l_57 c_57 =>
  uncons y56 fun v58 y58 =>
  gInt .i64 v58 fun x_59 =>
  unnil y58 <| cond (x_17 != 0) (R (.bool false) h54) (cond (x_31 != 0) (R (.bool false) h54) (cond (x_38 != 0) (R (.bool false) h54) (cond (x_59 != 0) (R (.bool false) h54) (HC gnomontop_same.id #[.slice a_57 l_57 c_57, .slice a_36 l_36 c_36] h54 fun v60 h61 =>
  gBool v60 fun b_62 =>
  cond (!b_62) (R (.bool false) h61) (cond ((((l_36 : Nat) : Int)) == 0) (R (.bool false) h61) (D2.t R n2 q18 h61))))))
def D1.g (R : Rt) (fr : Fr) (h : Hp) : Prop := gInt .u16 (fr 0) fun x0 => D1.t R x0 h
theorem D1.ok (R : Rt) (fr : Fr) (h : Hp) (g : D1.g R fr h) : den prog E C (retQ E [.tmp 2] R) fr h := by
  obtain ⟨x0, e0, g⟩ := gInt_elim g
  exact den_cut 7 (r := (cAt C [true, true, true, true, true, true, true])) (by kernel_rfl) (D2.ok R) (den_enter [(0, .int .u16 x0)] ⟨e0, trivial⟩ (by kernel_rfl) g)
def t (x0 : Int) (h : Hp) (R : Rt) : Prop := D1.t R x0 h
theorem ok {x0 : Int} {h : Hp} {R : Rt} (g : t x0 h R) : HC id #[.int .u16 x0] h R :=
  calls_of_den' envOk (c := C) (rs := [.tmp 2]) Tryd.func3 (by kernel_rfl) (by kernel_rfl) (by kernel_rfl) (args := [.int .u16 x0]) (by kernel_rfl) (D1.ok R _ h (gInt_intro rfl (g)))
end gnomontop_WholeWords

namespace payne_Window
noncomputable def C : Code := bodyOf Tryd.f4
def D3.t (R : Rt) (q2 : Addr) (q4 : Addr) (h : Hp) : Prop :=
  ldK h (q4.add 0) fun v7 =>
  gInt .u64 v7 fun x_8 =>
  ldK h (q4.add 1) fun v9 =>
  gInt .u64 v9 fun x_10 =>
  ldK h (q4.add 2) fun v11 =>
  gInt .u64 v11 fun x_12 =>
  ldK h (q4.add 3) fun v13 =>
  gInt .u64 v13 fun x_14 =>
  stK h (q2.add 0) (.int .u64 x_8) fun h15 =>
  stK h15 (q2.add 1) (.int .u64 x_10) fun h16 =>
  stK h16 (q2.add 2) (.int .u64 x_12) fun h17 =>
  stK h17 (q2.add 3) (.int .u64 x_14) fun h18 =>
  ldK h18 (q2.add 0) fun v19 =>
  gInt .u64 v19 fun x_20 =>
  ldK h18 (q2.add 1) fun v21 =>
  gInt .u64 v21 fun x_22 =>
  ldK h18 (q2.add 2) fun v23 =>
  gInt .u64 v23 fun x_24 =>
  ldK h18 (q2.add 3) fun v25 =>
  gInt .u64 v25 fun x_26 =>
  R (.tuple #[.agg #[.int .u64 x_20, .int .u64 x_22, .int .u64 x_24, .int .u64 x_26], .int .i64 0]) h18
def D3.g (R : Rt) (fr : Fr) (h : Hp) : Prop := gPtrS (fr 2) fun q2 => gPtrS (fr 4) fun q4 => D3.t R q2 q4 h
theorem D3.ok (R : Rt) (fr : Fr) (h : Hp) (g : D3.g R fr h) : den prog E (cAt C [true, true, true, true, true]) (retQ E [.cell 2 24, .tmp 3] R) fr h := by
  obtain ⟨q2, e2, g⟩ := gPtrS_elim g
  obtain ⟨q4, e4, g⟩ := gPtrS_elim g
  exact den_enter [(2, .pointer (some q2)), (4, .pointer (some q4))] ⟨e2, e4, trivial⟩ (by kernel_rfl) g
def L5.g (N : Addr → Addr → Int → Int → Int → Hp → Prop) (fr : Fr) (h : Hp) : Prop := gPtrS (fr 2) fun q2 => gPtrS (fr 4) fun q4 => gInt .i64 (fr 5) fun x5 => gInt .i64 (fr 6) fun x6 => gInt .i64 (fr 19) fun x19 => N q2 q4 x5 x6 x19 h
def D6.t (R : Rt) (N5 : Addr → Addr → Int → Int → Int → Hp → Prop) (q2 : Addr) (q4 : Addr) (x5 : Int) (x6 : Int) (x19 : Int) (h : Hp) : Prop :=
  cond (decide (x19 < 4)) (letK (IntKind.i64.wrap (x5 + x19)) fun n27 =>
  idxK (some ⟨0, 0, none⟩) 20 n27 1 fun q28 =>
  ldK h q28 fun v29 =>
  gInt .u64 v29 fun x_30 =>
  idxK (some q4) 4 x19 1 fun q31 =>
  stK h q31 (.int .u64 x_30) fun h32 =>
  cond (decide (x6 > 0)) (letK (IntKind.i64.wrap (x5 + x19)) fun n33 =>
  idxK (some ⟨0, 0, none⟩) 20 n33 1 fun q34 =>
  ldK h32 q34 fun v35 =>
  gInt .u64 v35 fun x_36 =>
  0 ≤ x6 ∧ letK (shlI .u64 x_36 x6) fun n37 =>
  letK (IntKind.i64.wrap (x5 + x19)) fun n38 =>
  letK (IntKind.i64.wrap (n38 + 1)) fun n39 =>
  idxK (some ⟨0, 0, none⟩) 20 n39 1 fun q40 =>
  ldK h32 q40 fun v41 =>
  gInt .u64 v41 fun x_42 =>
  letK (IntKind.i64.wrap (64 - x6)) fun n43 =>
  0 ≤ n43 ∧ letK (shrI .u64 x_42 n43) fun n44 =>
  letK (orI .u64 n37 n44) fun n45 =>
  idxK (some q4) 4 x19 1 fun q46 =>
  stK h32 q46 (.int .u64 n45) fun h47 =>
  letK (IntKind.i64.wrap (x19 + 1)) fun n48 =>
  N5 q2 q4 x5 x6 n48 h47) (letK (IntKind.i64.wrap (x19 + 1)) fun n49 =>
  N5 q2 q4 x5 x6 n49 h32)) (D3.t R q2 q4 h)
def D6.g (R : Rt) (N5 : Addr → Addr → Int → Int → Int → Hp → Prop) (fr : Fr) (h : Hp) : Prop := gPtrS (fr 2) fun q2 => gPtrS (fr 4) fun q4 => gInt .i64 (fr 5) fun x5 => gInt .i64 (fr 6) fun x6 => gInt .i64 (fr 19) fun x19 => D6.t R N5 q2 q4 x5 x6 x19 h
theorem D6.ok (R : Rt) (N5 : Addr → Addr → Int → Int → Int → Hp → Prop) (fr : Fr) (h : Hp) (g : D6.g R N5 fr h) : den prog E (cAt C [true, true, true, true, false, true, false, false]) (Ex.then (L5.g N5) (Ex.inBlock 0 (Ex.then (D3.g R) (retQ E [.cell 2 24, .tmp 3] R)))) fr h := by
  obtain ⟨q2, e2, g⟩ := gPtrS_elim g
  obtain ⟨q4, e4, g⟩ := gPtrS_elim g
  obtain ⟨x5, e5, g⟩ := gInt_elim g
  obtain ⟨x6, e6, g⟩ := gInt_elim g
  obtain ⟨x19, e19, g⟩ := gInt_elim g
  exact den_enter [(2, .pointer (some q2)), (4, .pointer (some q4)), (5, .int .i64 x5), (6, .int .i64 x6), (19, .int .i64 x19)] ⟨e2, e4, e5, e6, e19, trivial⟩ (by kernel_rfl) g
def L5.t (R : Rt) : Nat → Addr → Addr → Int → Int → Int → Hp → Prop
  | 0 => fun _ _ _ _ _ _ => False
  | n + 1 => fun q2 q4 x5 x6 x19 h => D6.t R (L5.t R n) q2 q4 x5 x6 x19 h
theorem L5.ok (R : Rt) (fr : Fr) (h : Hp) (g : L5.g (fun q2 q4 x5 x6 x19 h => ∃ n, L5.t R n q2 q4 x5 x6 x19 h) fr h) : den prog E (cAt C [true, true, true, true, false, true, false]) (Ex.inBlock 0 (Ex.then (D3.g R) (retQ E [.cell 2 24, .tmp 3] R))) fr h := by
  obtain ⟨q2, e2, g⟩ := gPtrS_elim g
  obtain ⟨q4, e4, g⟩ := gPtrS_elim g
  obtain ⟨x5, e5, g⟩ := gInt_elim g
  obtain ⟨x6, e6, g⟩ := gInt_elim g
  obtain ⟨x19, e19, g⟩ := gInt_elim g
  obtain ⟨n, g⟩ := g
  refine loop_ok (fun n => L5.g (L5.t R n)) (b := (cAt C [true, true, true, true, false, true, false, false])) (by kernel_rfl) (fun fr h g => ?_) (fun n => D6.ok R (L5.t R n)) n fr h (gPtrS_intro e2 (gPtrS_intro e4 (gInt_intro e5 (gInt_intro e6 (gInt_intro e19 (g))))))
  obtain ⟨q2, e2, g⟩ := gPtrS_elim g
  obtain ⟨q4, e4, g⟩ := gPtrS_elim g
  obtain ⟨x5, e5, g⟩ := gInt_elim g
  obtain ⟨x6, e6, g⟩ := gInt_elim g
  obtain ⟨x19, e19, g⟩ := gInt_elim g
  exact g
theorem B7.ok (R : Rt) (fr : Fr) (h : Hp) (g : L5.g (fun q2 q4 x5 x6 x19 h => ∃ n, L5.t R n q2 q4 x5 x6 x19 h) fr h) : den prog E (cAt C [true, true, true, true, false, true]) (Ex.then (D3.g R) (retQ E [.cell 2 24, .tmp 3] R)) fr h :=
  den_block (by kernel_rfl) (L5.ok R fr h g)
def D4.t (R : Rt) (q2 : Addr) (q4 : Addr) (x5 : Int) (x6 : Int) (h : Hp) : Prop :=
  (∃ n, L5.t R n q2 q4 x5 x6 0 h)
def D4.g (R : Rt) (fr : Fr) (h : Hp) : Prop := gPtrS (fr 2) fun q2 => gPtrS (fr 4) fun q4 => gInt .i64 (fr 5) fun x5 => gInt .i64 (fr 6) fun x6 => D4.t R q2 q4 x5 x6 h
theorem D4.ok (R : Rt) (fr : Fr) (h : Hp) (g : D4.g R fr h) : den prog E (cAt C [true, true, true, true, false]) (Ex.then (D3.g R) (retQ E [.cell 2 24, .tmp 3] R)) fr h := by
  obtain ⟨q2, e2, g⟩ := gPtrS_elim g
  obtain ⟨q4, e4, g⟩ := gPtrS_elim g
  obtain ⟨x5, e5, g⟩ := gInt_elim g
  obtain ⟨x6, e6, g⟩ := gInt_elim g
  exact den_cut 1 (r := (cAt C [true, true, true, true, false, true])) (by kernel_rfl) (B7.ok R) (den_enter [(2, .pointer (some q2)), (4, .pointer (some q4)), (5, .int .i64 x5), (6, .int .i64 x6)] ⟨e2, e4, e5, e6, trivial⟩ (by kernel_rfl) g)
theorem W8.ok (R : Rt) (fr : Fr) (h : Hp) (g : D4.g R fr h) : den prog E (cAt C [true, true, true, true]) (retQ E [.cell 2 24, .tmp 3] R) fr h :=
  den_then (by kernel_rfl) (D3.ok R) (D4.ok R fr h g)
def D2.t (R : Rt) (x0 : Int) (q2 : Addr) (h : Hp) : Prop :=
  boxK h 24 T24.zs fun q3 h4 =>
  (64 : Int) ≠ 0 ∧ letK (IntKind.i64.wrap (Int.tdiv x0 64)) fun n5 =>
  (64 : Int) ≠ 0 ∧ letK (Int.tmod x0 64) fun n6 =>
  D4.t R q2 q3 n5 n6 h4
def D2.g (R : Rt) (fr : Fr) (h : Hp) : Prop := gInt .i64 (fr 0) fun x0 => gPtrS (fr 2) fun q2 => D2.t R x0 q2 h
theorem D2.ok (R : Rt) (fr : Fr) (h : Hp) (g : D2.g R fr h) : den prog E (cAt C [true, true]) (retQ E [.cell 2 24, .tmp 3] R) fr h := by
  obtain ⟨x0, e0, g⟩ := gInt_elim g
  obtain ⟨q2, e2, g⟩ := gPtrS_elim g
  exact den_cut 2 (r := (cAt C [true, true, true, true])) (by kernel_rfl) (W8.ok R) (den_enter [(0, .int .i64 x0), (2, .pointer (some q2))] ⟨e0, e2, trivial⟩ (by kernel_rfl) g)
def D1.t (R : Rt) (x0 : Int) (h : Hp) : Prop :=
  boxK h 24 T24.zs fun q1 h2 =>
  cond (decide (x0 < 0)) (False) (cond (decide (x0 > 1024)) (False) (D2.t R x0 q1 h2))
def D1.g (R : Rt) (fr : Fr) (h : Hp) : Prop := gInt .i64 (fr 0) fun x0 => D1.t R x0 h
theorem D1.ok (R : Rt) (fr : Fr) (h : Hp) (g : D1.g R fr h) : den prog E C (retQ E [.cell 2 24, .tmp 3] R) fr h := by
  obtain ⟨x0, e0, g⟩ := gInt_elim g
  exact den_cut 2 (r := (cAt C [true, true])) (by kernel_rfl) (D2.ok R) (den_enter [(0, .int .i64 x0)] ⟨e0, trivial⟩ (by kernel_rfl) g)
def t (x0 : Int) (h : Hp) (R : Rt) : Prop := D1.t R x0 h
theorem ok {x0 : Int} {h : Hp} {R : Rt} (g : t x0 h R) : HC id #[.int .i64 x0] h R :=
  calls_of_den' envOk (c := C) (rs := [.cell 2 24, .tmp 3]) Tryd.func4 (by kernel_rfl) (by kernel_rfl) (by kernel_rfl) (args := [.int .i64 x0]) (by kernel_rfl) (D1.ok R _ h (gInt_intro rfl (g)))
end payne_Window

namespace piconst_FloorInv
noncomputable def C : Code := bodyOf Tryd.f5
def L3.g (N : Int → Int → Hp → Prop) (fr : Fr) (h : Hp) : Prop := gInt .i64 (fr 0) fun x0 => gInt .i64 (fr 4) fun x4 => N x0 x4 h
def D4.t (R : Rt) (N3 : Int → Int → Hp → Prop) (x0 : Int) (x4 : Int) (h : Hp) : Prop :=
  letK (IntKind.i64.wrap (x0 + x4)) fun n1 =>
  HC piconst_machin.id #[.int .i64 n1] h fun v2 h3 =>
  gTup v2 fun y4 =>
  uncons y4 fun v5 y5 =>
  gSlice v5 fun a_6 l_6 c_6 =>
  uncons y5 fun v7 y7 =>
  gSlice v7 fun a_8 l_8 c_8 =>
  unnil y7 <| HC nat_Word.id #[.int .u64 1] h3 fun v9 h10 =>
  gSlice v9 fun a_11 l_11 c_11 =>
  letK (IntKind.i64.wrap (2 * x0)) fun n12 =>
  letK (IntKind.i64.wrap (n12 + x4)) fun n13 =>
  letK (IntKind.i64.wrap (n13 + 1)) fun n14 =>
  HC nat_Shl.id #[.slice a_11 l_11 c_11, .int .i64 n14] h10 fun v15 h16 =>
  gTup v15 fun y17 =>
  uncons y17 fun v18 y18 =>
  gSlice v18 fun a_19 l_19 c_19 =>
  uncons y18 fun v20 y20 =>
  gInt .i64 v20 fun x_21 =>
  unnil y20 <| HC natdiv_QuoRem.id #[.slice a_19 l_19 c_19, .slice a_8 l_8 c_8] h16 fun v22 h23 =>
  gTup v22 fun y24 =>
  uncons y24 fun v25 y25 =>
  gSlice v25 fun a_26 l_26 c_26 =>
  uncons y25 fun v27 y27 =>
  gSlice v27 fun a_28 l_28 c_28 =>
  uncons y27 fun v29 y29 =>
  gInt .i64 v29 fun x_30 =>
  unnil y29 <| HC natdiv_QuoRem.id #[.slice a_19 l_19 c_19, .slice a_6 l_6 c_6] h23 fun v31 h32 =>
  gTup v31 fun y33 =>
  uncons y33 fun v34 y34 =>
  gSlice v34 fun a_35 l_35 c_35 =>
  uncons y34 fun v36 y36 =>
  gSlice v36 fun a_37 l_37 c_37 =>
  uncons y36 fun v38 y38 =>
  gInt .i64 v38 fun x_39 =>
  unnil y38 <| HC nat_Cmp.id #[.slice a_26 l_26 c_26, .slice a_35 l_35 c_35] h32 fun v40 h41 =>
  gInt .i64 v40 fun x_42 =>
  cond (x_42 == 0) (R (.tuple #[.slice a_26 l_26 c_26, .int .i64 0]) h41) (letK (IntKind.i64.wrap (x4 * 2)) fun n43 =>
  N3 x0 n43 h41)
def D4.g (R : Rt) (N3 : Int → Int → Hp → Prop) (fr : Fr) (h : Hp) : Prop := gInt .i64 (fr 0) fun x0 => gInt .i64 (fr 4) fun x4 => D4.t R N3 x0 x4 h
theorem D4.ok (R : Rt) (N3 : Int → Int → Hp → Prop) (fr : Fr) (h : Hp) (g : D4.g R N3 fr h) : den prog E (cAt C [true, true, true, false, false]) (Ex.then (L3.g N3) (Ex.inBlock 0 (retQ E [.tmp 2, .tmp 3] R))) fr h := by
  obtain ⟨x0, e0, g⟩ := gInt_elim g
  obtain ⟨x4, e4, g⟩ := gInt_elim g
  exact den_enter [(0, .int .i64 x0), (4, .int .i64 x4)] ⟨e0, e4, trivial⟩ (by kernel_rfl) g
def L3.t (R : Rt) : Nat → Int → Int → Hp → Prop
  | 0 => fun _ _ _ => False
  | n + 1 => fun x0 x4 h => D4.t R (L3.t R n) x0 x4 h
theorem L3.ok (R : Rt) (fr : Fr) (h : Hp) (g : L3.g (fun x0 x4 h => ∃ n, L3.t R n x0 x4 h) fr h) : den prog E (cAt C [true, true, true, false]) (Ex.inBlock 0 (retQ E [.tmp 2, .tmp 3] R)) fr h := by
  obtain ⟨x0, e0, g⟩ := gInt_elim g
  obtain ⟨x4, e4, g⟩ := gInt_elim g
  obtain ⟨n, g⟩ := g
  refine loop_ok (fun n => L3.g (L3.t R n)) (b := (cAt C [true, true, true, false, false])) (by kernel_rfl) (fun fr h g => ?_) (fun n => D4.ok R (L3.t R n)) n fr h (gInt_intro e0 (gInt_intro e4 (g)))
  obtain ⟨x0, e0, g⟩ := gInt_elim g
  obtain ⟨x4, e4, g⟩ := gInt_elim g
  exact g
theorem B5.ok (R : Rt) (fr : Fr) (h : Hp) (g : L3.g (fun x0 x4 h => ∃ n, L3.t R n x0 x4 h) fr h) : den prog E (cAt C [true, true, true]) (retQ E [.tmp 2, .tmp 3] R) fr h :=
  den_block (by kernel_rfl) (L3.ok R fr h g)
def D2.t (R : Rt) (x0 : Int) (h : Hp) : Prop :=
  (∃ n, L3.t R n x0 48 h)
def D2.g (R : Rt) (fr : Fr) (h : Hp) : Prop := gInt .i64 (fr 0) fun x0 => D2.t R x0 h
theorem D2.ok (R : Rt) (fr : Fr) (h : Hp) (g : D2.g R fr h) : den prog E (cAt C [true, true]) (retQ E [.tmp 2, .tmp 3] R) fr h := by
  obtain ⟨x0, e0, g⟩ := gInt_elim g
  exact den_cut 1 (r := (cAt C [true, true, true])) (by kernel_rfl) (B5.ok R) (den_enter [(0, .int .i64 x0)] ⟨e0, trivial⟩ (by kernel_rfl) g)
def D1.t (R : Rt) (x0 : Int) (h : Hp) : Prop :=
  cond (decide (x0 < 1)) (R (.tuple #[.slice none 0 0, .int .i64 1]) h) (cond (decide (x0 > 70000)) (R (.tuple #[.slice none 0 0, .int .i64 1]) h) (D2.t R x0 h))
def D1.g (R : Rt) (fr : Fr) (h : Hp) : Prop := gInt .i64 (fr 0) fun x0 => D1.t R x0 h
theorem D1.ok (R : Rt) (fr : Fr) (h : Hp) (g : D1.g R fr h) : den prog E C (retQ E [.tmp 2, .tmp 3] R) fr h := by
  obtain ⟨x0, e0, g⟩ := gInt_elim g
  exact den_cut 2 (r := (cAt C [true, true])) (by kernel_rfl) (D2.ok R) (den_enter [(0, .int .i64 x0)] ⟨e0, trivial⟩ (by kernel_rfl) g)
def t (x0 : Int) (h : Hp) (R : Rt) : Prop := D1.t R x0 h
theorem ok {x0 : Int} {h : Hp} {R : Rt} (g : t x0 h R) : HC id #[.int .i64 x0] h R :=
  calls_of_den' envOk (c := C) (rs := [.tmp 2, .tmp 3]) Tryd.func5 (by kernel_rfl) (by kernel_rfl) (by kernel_rfl) (args := [.int .i64 x0]) (by kernel_rfl) (D1.ok R _ h (gInt_intro rfl (g)))
end piconst_FloorInv

namespace nat_Low
noncomputable def C : Code := bodyOf Tryd.f6
def D2.t (R : Rt) (a8 : Option Addr) (l8 : Nat) (c8 : Nat) (h : Hp) : Prop :=
  HC nat_told.id #[.slice a8 l8 c8] h fun v19 h20 =>
  gTup v19 fun y21 =>
  uncons y21 fun v22 y22 =>
  gSlice v22 fun a_23 l_23 c_23 =>
  uncons y22 fun v24 y24 =>
  gInt .i64 v24 fun x_25 =>
  unnil y24 <| R (.tuple #[.slice a_23 l_23 c_23, .int .i64 x_25]) h20
def D2.g (R : Rt) (fr : Fr) (h : Hp) : Prop := gSlice (fr 8) fun a8 l8 c8 => D2.t R a8 l8 c8 h
theorem D2.ok (R : Rt) (fr : Fr) (h : Hp) (g : D2.g R fr h) : den prog E (cAt C [true, true, true, true, true, true, true]) (retQ E [.tmp 4, .tmp 5] R) fr h := by
  obtain ⟨a8, l8, c8, e8, g⟩ := gSlice_elim g
  exact den_enter [(8, .slice a8 l8 c8)] ⟨e8, trivial⟩ (by kernel_rfl) g
def D1.t (R : Rt) (a0 : Option Addr) (l0 : Nat) (c0 : Nat) (x1 : Int) (h : Hp) : Prop :=
  cond (decide (x1 < 0)) (R (.tuple #[.slice none 0 0, .int .i64 1]) h) (HC nat_Form.id #[.slice a0 l0 c0] h fun v1 h2 =>
  gBool v1 fun b_3 =>
  cond (!b_3) (R (.tuple #[.slice none 0 0, .int .i64 2]) h2) ((64 : Int) ≠ 0 ∧ letK (IntKind.i64.wrap (Int.tdiv x1 64)) fun n4 =>
  (64 : Int) ≠ 0 ∧ letK (Int.tmod x1 64) fun n5 =>
  mkK h2 23 T23 (((l0 : Nat) : Int)) (((l0 : Nat) : Int)) fun q6 h7 =>
  cpK h7 1 (some q6) ((((l0 : Nat) : Int)).toNat) (.slice a0 l0 c0) fun n8 h8 =>
  cond (decide (n4 < (((l0 : Nat) : Int)))) (idxK (some q6) ((((l0 : Nat) : Int)).toNat) n4 1 fun q9 =>
  ldK h8 q9 fun v10 =>
  gInt .u64 v10 fun x_11 =>
  0 ≤ n5 ∧ letK (shlI .u64 1 n5) fun n12 =>
  letK (IntKind.u64.wrap (n12 - 1)) fun n13 =>
  letK (andI .u64 x_11 n13) fun n14 =>
  idxK (some q6) ((((l0 : Nat) : Int)).toNat) n4 1 fun q15 =>
  stK h8 q15 (.int .u64 n14) fun h16 =>
  letK (IntKind.i64.wrap (n4 + 1)) fun n17 =>
  slK 1 (some q6) ((((l0 : Nat) : Int)).toNat) ((((l0 : Nat) : Int)).toNat) none (some (.int .i64 n17)) none fun a_18 l_18 c_18 =>
  D2.t R a_18 l_18 c_18 h16) (D2.t R (some q6) ((((l0 : Nat) : Int)).toNat) ((((l0 : Nat) : Int)).toNat) h8)))
def D1.g (R : Rt) (fr : Fr) (h : Hp) : Prop := gSlice (fr 0) fun a0 l0 c0 => gInt .i64 (fr 1) fun x1 => D1.t R a0 l0 c0 x1 h
theorem D1.ok (R : Rt) (fr : Fr) (h : Hp) (g : D1.g R fr h) : den prog E C (retQ E [.tmp 4, .tmp 5] R) fr h := by
  obtain ⟨a0, l0, c0, e0, g⟩ := gSlice_elim g
  obtain ⟨x1, e1, g⟩ := gInt_elim g
  exact den_cut 7 (r := (cAt C [true, true, true, true, true, true, true])) (by kernel_rfl) (D2.ok R) (den_enter [(0, .slice a0 l0 c0), (1, .int .i64 x1)] ⟨e0, e1, trivial⟩ (by kernel_rfl) g)
def t (a0 : Option Addr) (l0 : Nat) (c0 : Nat) (x1 : Int) (h : Hp) (R : Rt) : Prop := D1.t R a0 l0 c0 x1 h
theorem ok {a0 : Option Addr} {l0 : Nat} {c0 : Nat} {x1 : Int} {h : Hp} {R : Rt} (g : t a0 l0 c0 x1 h R) : HC id #[.slice a0 l0 c0, .int .i64 x1] h R :=
  calls_of_den' envOk (c := C) (rs := [.tmp 4, .tmp 5]) Tryd.func6 (by kernel_rfl) (by kernel_rfl) (by kernel_rfl) (args := [.slice a0 l0 c0, .int .i64 x1]) (by kernel_rfl) (D1.ok R _ h (gSlice_intro rfl (gInt_intro rfl (g))))
end nat_Low

namespace nat_Norm
noncomputable def C : Code := bodyOf Tryd.f7
def D1.t (R : Rt) (a0 : Option Addr) (l0 : Nat) (c0 : Nat) (h : Hp) : Prop :=
  HC nat_trim.id #[.slice a0 l0 c0] h fun v1 h2 =>
  gSlice v1 fun a_3 l_3 c_3 =>
  cond (decide ((((l_3 : Nat) : Int)) > 8192)) (R (.tuple #[.slice none 0 0, .int .i64 5]) h2) (mkK h2 23 T23 (((l_3 : Nat) : Int)) (((l_3 : Nat) : Int)) fun q4 h5 =>
  cpK h5 1 (some q4) ((((l_3 : Nat) : Int)).toNat) (.slice a_3 l_3 c_3) fun n6 h6 =>
  R (.tuple #[.slice (some q4) ((((l_3 : Nat) : Int)).toNat) ((((l_3 : Nat) : Int)).toNat), .int .i64 0]) h6)
def D1.g (R : Rt) (fr : Fr) (h : Hp) : Prop := gSlice (fr 0) fun a0 l0 c0 => D1.t R a0 l0 c0 h
theorem D1.ok (R : Rt) (fr : Fr) (h : Hp) (g : D1.g R fr h) : den prog E C (retQ E [.tmp 2, .tmp 3] R) fr h := by
  obtain ⟨a0, l0, c0, e0, g⟩ := gSlice_elim g
  exact den_enter [(0, .slice a0 l0 c0)] ⟨e0, trivial⟩ (by kernel_rfl) g
def t (a0 : Option Addr) (l0 : Nat) (c0 : Nat) (h : Hp) (R : Rt) : Prop := D1.t R a0 l0 c0 h
theorem ok {a0 : Option Addr} {l0 : Nat} {c0 : Nat} {h : Hp} {R : Rt} (g : t a0 l0 c0 h R) : HC id #[.slice a0 l0 c0] h R :=
  calls_of_den' envOk (c := C) (rs := [.tmp 2, .tmp 3]) Tryd.func7 (by kernel_rfl) (by kernel_rfl) (by kernel_rfl) (args := [.slice a0 l0 c0]) (by kernel_rfl) (D1.ok R _ h (gSlice_intro rfl (g)))
end nat_Norm

namespace gnomontop_same
noncomputable def C : Code := bodyOf Tryd.f8
def D2.t (R : Rt)  (h : Hp) : Prop :=
  R (.bool true) h
def D2.g (R : Rt) (fr : Fr) (h : Hp) : Prop := D2.t R  h
theorem D2.ok (R : Rt) (fr : Fr) (h : Hp) (g : D2.g R fr h) : den prog E (cAt C [true, true, true]) (retQ E [.tmp 4] R) fr h := by
  exact den_enter [] trivial (by kernel_rfl) g
def L4.g (N : Option Addr → Nat → Nat → Option Addr → Nat → Nat → Int → Hp → Prop) (fr : Fr) (h : Hp) : Prop := gSlice (fr 0) fun a0 l0 c0 => gSlice (fr 1) fun a1 l1 c1 => gInt .i64 (fr 5) fun x5 => N a0 l0 c0 a1 l1 c1 x5 h
def D5.t (R : Rt) (N4 : Option Addr → Nat → Nat → Option Addr → Nat → Nat → Int → Hp → Prop) (a0 : Option Addr) (l0 : Nat) (c0 : Nat) (a1 : Option Addr) (l1 : Nat) (c1 : Nat) (x5 : Int) (h : Hp) : Prop :=
  cond (decide (x5 < (((l0 : Nat) : Int)))) (idxK a0 l0 x5 1 fun q1 =>
  ldK h q1 fun v2 =>
  gInt .u64 v2 fun x_3 =>
  idxK a1 l1 x5 1 fun q4 =>
  ldK h q4 fun v5 =>
  gInt .u64 v5 fun x_6 =>
  cond (x_3 != x_6) (R (.bool false) h) (letK (IntKind.i64.wrap (x5 + 1)) fun n7 =>
  N4 a0 l0 c0 a1 l1 c1 n7 h)) (D2.t R h)
def D5.g (R : Rt) (N4 : Option Addr → Nat → Nat → Option Addr → Nat → Nat → Int → Hp → Prop) (fr : Fr) (h : Hp) : Prop := gSlice (fr 0) fun a0 l0 c0 => gSlice (fr 1) fun a1 l1 c1 => gInt .i64 (fr 5) fun x5 => D5.t R N4 a0 l0 c0 a1 l1 c1 x5 h
theorem D5.ok (R : Rt) (N4 : Option Addr → Nat → Nat → Option Addr → Nat → Nat → Int → Hp → Prop) (fr : Fr) (h : Hp) (g : D5.g R N4 fr h) : den prog E (cAt C [true, true, false, true, false, false]) (Ex.then (L4.g N4) (Ex.inBlock 0 (Ex.then (D2.g R) (retQ E [.tmp 4] R)))) fr h := by
  obtain ⟨a0, l0, c0, e0, g⟩ := gSlice_elim g
  obtain ⟨a1, l1, c1, e1, g⟩ := gSlice_elim g
  obtain ⟨x5, e5, g⟩ := gInt_elim g
  exact den_enter [(0, .slice a0 l0 c0), (1, .slice a1 l1 c1), (5, .int .i64 x5)] ⟨e0, e1, e5, trivial⟩ (by kernel_rfl) g
def L4.t (R : Rt) : Nat → Option Addr → Nat → Nat → Option Addr → Nat → Nat → Int → Hp → Prop
  | 0 => fun _ _ _ _ _ _ _ _ => False
  | n + 1 => fun a0 l0 c0 a1 l1 c1 x5 h => D5.t R (L4.t R n) a0 l0 c0 a1 l1 c1 x5 h
theorem L4.ok (R : Rt) (fr : Fr) (h : Hp) (g : L4.g (fun a0 l0 c0 a1 l1 c1 x5 h => ∃ n, L4.t R n a0 l0 c0 a1 l1 c1 x5 h) fr h) : den prog E (cAt C [true, true, false, true, false]) (Ex.inBlock 0 (Ex.then (D2.g R) (retQ E [.tmp 4] R))) fr h := by
  obtain ⟨a0, l0, c0, e0, g⟩ := gSlice_elim g
  obtain ⟨a1, l1, c1, e1, g⟩ := gSlice_elim g
  obtain ⟨x5, e5, g⟩ := gInt_elim g
  obtain ⟨n, g⟩ := g
  refine loop_ok (fun n => L4.g (L4.t R n)) (b := (cAt C [true, true, false, true, false, false])) (by kernel_rfl) (fun fr h g => ?_) (fun n => D5.ok R (L4.t R n)) n fr h (gSlice_intro e0 (gSlice_intro e1 (gInt_intro e5 (g))))
  obtain ⟨a0, l0, c0, e0, g⟩ := gSlice_elim g
  obtain ⟨a1, l1, c1, e1, g⟩ := gSlice_elim g
  obtain ⟨x5, e5, g⟩ := gInt_elim g
  exact g
theorem B6.ok (R : Rt) (fr : Fr) (h : Hp) (g : L4.g (fun a0 l0 c0 a1 l1 c1 x5 h => ∃ n, L4.t R n a0 l0 c0 a1 l1 c1 x5 h) fr h) : den prog E (cAt C [true, true, false, true]) (Ex.then (D2.g R) (retQ E [.tmp 4] R)) fr h :=
  den_block (by kernel_rfl) (L4.ok R fr h g)
def D3.t (R : Rt) (a0 : Option Addr) (l0 : Nat) (c0 : Nat) (a1 : Option Addr) (l1 : Nat) (c1 : Nat) (h : Hp) : Prop :=
  (∃ n, L4.t R n a0 l0 c0 a1 l1 c1 0 h)
def D3.g (R : Rt) (fr : Fr) (h : Hp) : Prop := gSlice (fr 0) fun a0 l0 c0 => gSlice (fr 1) fun a1 l1 c1 => D3.t R a0 l0 c0 a1 l1 c1 h
theorem D3.ok (R : Rt) (fr : Fr) (h : Hp) (g : D3.g R fr h) : den prog E (cAt C [true, true, false]) (Ex.then (D2.g R) (retQ E [.tmp 4] R)) fr h := by
  obtain ⟨a0, l0, c0, e0, g⟩ := gSlice_elim g
  obtain ⟨a1, l1, c1, e1, g⟩ := gSlice_elim g
  exact den_cut 1 (r := (cAt C [true, true, false, true])) (by kernel_rfl) (B6.ok R) (den_enter [(0, .slice a0 l0 c0), (1, .slice a1 l1 c1)] ⟨e0, e1, trivial⟩ (by kernel_rfl) g)
theorem W7.ok (R : Rt) (fr : Fr) (h : Hp) (g : D3.g R fr h) : den prog E (cAt C [true, true]) (retQ E [.tmp 4] R) fr h :=
  den_then (by kernel_rfl) (D2.ok R) (D3.ok R fr h g)
def D1.t (R : Rt) (a0 : Option Addr) (l0 : Nat) (c0 : Nat) (a1 : Option Addr) (l1 : Nat) (c1 : Nat) (h : Hp) : Prop :=
  cond ((((l0 : Nat) : Int)) != (((l1 : Nat) : Int))) (R (.bool false) h) (D3.t R a0 l0 c0 a1 l1 c1 h)
def D1.g (R : Rt) (fr : Fr) (h : Hp) : Prop := gSlice (fr 0) fun a0 l0 c0 => gSlice (fr 1) fun a1 l1 c1 => D1.t R a0 l0 c0 a1 l1 c1 h
theorem D1.ok (R : Rt) (fr : Fr) (h : Hp) (g : D1.g R fr h) : den prog E C (retQ E [.tmp 4] R) fr h := by
  obtain ⟨a0, l0, c0, e0, g⟩ := gSlice_elim g
  obtain ⟨a1, l1, c1, e1, g⟩ := gSlice_elim g
  exact den_cut 2 (r := (cAt C [true, true])) (by kernel_rfl) (W7.ok R) (den_enter [(0, .slice a0 l0 c0), (1, .slice a1 l1 c1)] ⟨e0, e1, trivial⟩ (by kernel_rfl) g)
def t (a0 : Option Addr) (l0 : Nat) (c0 : Nat) (a1 : Option Addr) (l1 : Nat) (c1 : Nat) (h : Hp) (R : Rt) : Prop := D1.t R a0 l0 c0 a1 l1 c1 h
theorem ok {a0 : Option Addr} {l0 : Nat} {c0 : Nat} {a1 : Option Addr} {l1 : Nat} {c1 : Nat} {h : Hp} {R : Rt} (g : t a0 l0 c0 a1 l1 c1 h R) : HC id #[.slice a0 l0 c0, .slice a1 l1 c1] h R :=
  calls_of_den' envOk (c := C) (rs := [.tmp 4]) Tryd.func8 (by kernel_rfl) (by kernel_rfl) (by kernel_rfl) (args := [.slice a0 l0 c0, .slice a1 l1 c1]) (by kernel_rfl) (D1.ok R _ h (gSlice_intro rfl (gSlice_intro rfl (g))))
end gnomontop_same

namespace payne_Word
noncomputable def C : Code := bodyOf Tryd.f9
def D2.t (R : Rt) (x0 : Int) (h : Hp) : Prop :=
  idxK (some ⟨0, 0, none⟩) 20 x0 1 fun q1 =>
  ldK h q1 fun v2 =>
  gInt .u64 v2 fun x_3 =>
  R (.tuple #[.int .u64 x_3, .int .i64 0]) h
def D2.g (R : Rt) (fr : Fr) (h : Hp) : Prop := gInt .i64 (fr 0) fun x0 => D2.t R x0 h
theorem D2.ok (R : Rt) (fr : Fr) (h : Hp) (g : D2.g R fr h) : den prog E (cAt C [true, true]) (retQ E [.tmp 2, .tmp 3] R) fr h := by
  obtain ⟨x0, e0, g⟩ := gInt_elim g
  exact den_enter [(0, .int .i64 x0)] ⟨e0, trivial⟩ (by kernel_rfl) g
def D1.t (R : Rt) (x0 : Int) (h : Hp) : Prop :=
  cond (decide (x0 < 0)) (R (.tuple #[.int .u64 0, .int .i64 1]) h) (cond (decide (x0 ≥ 20)) (R (.tuple #[.int .u64 0, .int .i64 1]) h) (D2.t R x0 h))
def D1.g (R : Rt) (fr : Fr) (h : Hp) : Prop := gInt .i64 (fr 0) fun x0 => D1.t R x0 h
theorem D1.ok (R : Rt) (fr : Fr) (h : Hp) (g : D1.g R fr h) : den prog E C (retQ E [.tmp 2, .tmp 3] R) fr h := by
  obtain ⟨x0, e0, g⟩ := gInt_elim g
  exact den_cut 2 (r := (cAt C [true, true])) (by kernel_rfl) (D2.ok R) (den_enter [(0, .int .i64 x0)] ⟨e0, trivial⟩ (by kernel_rfl) g)
def t (x0 : Int) (h : Hp) (R : Rt) : Prop := D1.t R x0 h
theorem ok {x0 : Int} {h : Hp} {R : Rt} (g : t x0 h R) : HC id #[.int .i64 x0] h R :=
  calls_of_den' envOk (c := C) (rs := [.tmp 2, .tmp 3]) Tryd.func9 (by kernel_rfl) (by kernel_rfl) (by kernel_rfl) (args := [.int .i64 x0]) (by kernel_rfl) (D1.ok R _ h (gInt_intro rfl (g)))
end payne_Word

namespace piconst_machin
noncomputable def C : Code := bodyOf Tryd.f10
def D1.t (R : Rt) (x0 : Int) (h : Hp) : Prop :=
  HC piconst_arctan.id #[.int .u64 5, .int .i64 x0] h fun v1 h2 =>
  gTup v1 fun y3 =>
  uncons y3 fun v4 y4 =>
  gSlice v4 fun a_5 l_5 c_5 =>
  uncons y4 fun v6 y6 =>
  gInt .u64 v6 fun x_7 =>
  unnil y6 <| HC piconst_arctan.id #[.int .u64 239, .int .i64 x0] h2 fun v8 h9 =>
  gTup v8 fun y10 =>
  uncons y10 fun v11 y11 =>
  gSlice v11 fun a_12 l_12 c_12 =>
  uncons y11 fun v13 y13 =>
  gInt .u64 v13 fun x_14 =>
  unnil y13 <| HC nat_MulWord.id #[.slice a_5 l_5 c_5, .int .u64 16] h9 fun v15 h16 =>
  gTup v15 fun y17 =>
  uncons y17 fun v18 y18 =>
  gSlice v18 fun a_19 l_19 c_19 =>
  uncons y18 fun v20 y20 =>
  gInt .i64 v20 fun x_21 =>
  unnil y20 <| HC nat_MulWord.id #[.slice a_12 l_12 c_12, .int .u64 4] h16 fun v22 h23 =>
  gTup v22 fun y24 =>
  uncons y24 fun v25 y25 =>
  gSlice v25 fun a_26 l_26 c_26 =>
  uncons y25 fun v27 y27 =>
  gInt .i64 v27 fun x_28 =>
  unnil y27 <| HC nat_Sub.id #[.slice a_19 l_19 c_19, .slice a_26 l_26 c_26] h23 fun v29 h30 =>
  gTup v29 fun y31 =>
  uncons y31 fun v32 y32 =>
  gSlice v32 fun a_33 l_33 c_33 =>
  uncons y32 fun v34 y34 =>
  gInt .i64 v34 fun x_35 =>
  unnil y34 <| letK (IntKind.u64.wrap (16 * x_7)) fun n36 =>
  letK (IntKind.u64.wrap (4 * x_14)) fun n37 =>
  letK (IntKind.u64.wrap (n36 + n37)) fun n38 =>
  HC piconst_around.id #[.slice a_33 l_33 c_33, .int .u64 n38] h30 fun v39 h40 =>
  gTup v39 fun y41 =>
  uncons y41 fun v42 y42 =>
  gSlice v42 fun a_43 l_43 c_43 =>
  uncons y42 fun v44 y44 =>
  gSlice v44 fun a_45 l_45 c_45 =>
  unnil y44 <| R (.tuple #[.slice a_43 l_43 c_43, .slice a_45 l_45 c_45]) h40
def D1.g (R : Rt) (fr : Fr) (h : Hp) : Prop := gInt .i64 (fr 0) fun x0 => D1.t R x0 h
theorem D1.ok (R : Rt) (fr : Fr) (h : Hp) (g : D1.g R fr h) : den prog E C (retQ E [.tmp 2, .tmp 3] R) fr h := by
  obtain ⟨x0, e0, g⟩ := gInt_elim g
  exact den_enter [(0, .int .i64 x0)] ⟨e0, trivial⟩ (by kernel_rfl) g
def t (x0 : Int) (h : Hp) (R : Rt) : Prop := D1.t R x0 h
theorem ok {x0 : Int} {h : Hp} {R : Rt} (g : t x0 h R) : HC id #[.int .i64 x0] h R :=
  calls_of_den' envOk (c := C) (rs := [.tmp 2, .tmp 3]) Tryd.func10 (by kernel_rfl) (by kernel_rfl) (by kernel_rfl) (args := [.int .i64 x0]) (by kernel_rfl) (D1.ok R _ h (gInt_intro rfl (g)))
end piconst_machin

namespace nat_Shl
noncomputable def C : Code := bodyOf Tryd.f11
def D2.t (R : Rt) (a8 : Option Addr) (l8 : Nat) (c8 : Nat) (h : Hp) : Prop :=
  HC nat_told.id #[.slice a8 l8 c8] h fun v14 h15 =>
  gTup v14 fun y16 =>
  uncons y16 fun v17 y17 =>
  gSlice v17 fun a_18 l_18 c_18 =>
  uncons y17 fun v19 y19 =>
  gInt .i64 v19 fun x_20 =>
  unnil y19 <| R (.tuple #[.slice a_18 l_18 c_18, .int .i64 x_20]) h15
def D2.g (R : Rt) (fr : Fr) (h : Hp) : Prop := gSlice (fr 8) fun a8 l8 c8 => D2.t R a8 l8 c8 h
theorem D2.ok (R : Rt) (fr : Fr) (h : Hp) (g : D2.g R fr h) : den prog E (cAt C [true, true, true, true, true, true, true, true]) (retQ E [.tmp 4, .tmp 5] R) fr h := by
  obtain ⟨a8, l8, c8, e8, g⟩ := gSlice_elim g
  exact den_enter [(8, .slice a8 l8 c8)] ⟨e8, trivial⟩ (by kernel_rfl) g
def L4.g (N : Option Addr → Nat → Nat → Int → Int → Option Addr → Nat → Nat → Int → Int → Hp → Prop) (fr : Fr) (h : Hp) : Prop := gSlice (fr 0) fun a0 l0 c0 => gInt .i64 (fr 6) fun x6 => gInt .i64 (fr 7) fun x7 => gSlice (fr 8) fun a8 l8 c8 => gInt .i64 (fr 34) fun x34 => gInt .i64 (fr 35) fun x35 => N a0 l0 c0 x6 x7 a8 l8 c8 x34 x35 h
def D5.t (R : Rt) (N4 : Option Addr → Nat → Nat → Int → Int → Option Addr → Nat → Nat → Int → Int → Hp → Prop) (a0 : Option Addr) (l0 : Nat) (c0 : Nat) (x6 : Int) (x7 : Int) (a8 : Option Addr) (l8 : Nat) (c8 : Nat) (x34 : Int) (x35 : Int) (h : Hp) : Prop :=
  cond (decide (x35 < x34)) (letK (IntKind.i64.wrap (x6 + x35)) fun n21 =>
  idxK a8 l8 n21 1 fun q22 =>
  ldK h q22 fun v23 =>
  gInt .u64 v23 fun x_24 =>
  idxK a0 l0 x35 1 fun q25 =>
  ldK h q25 fun v26 =>
  gInt .u64 v26 fun x_27 =>
  0 ≤ x7 ∧ letK (shlI .u64 x_27 x7) fun n28 =>
  letK (orI .u64 x_24 n28) fun n29 =>
  idxK a8 l8 n21 1 fun q30 =>
  stK h q30 (.int .u64 n29) fun h31 =>
  letK (IntKind.i64.wrap (x6 + x35)) fun n32 =>
  letK (IntKind.i64.wrap (n32 + 1)) fun n33 =>
  idxK a0 l0 x35 1 fun q34 =>
  ldK h31 q34 fun v35 =>
  gInt .u64 v35 fun x_36 =>
  0 ≤ (1 : Int) ∧ letK (shrI .u64 x_36 1) fun n37 =>
  letK (IntKind.i64.wrap (63 - x7)) fun n38 =>
  0 ≤ n38 ∧ letK (shrI .u64 n37 n38) fun n39 =>
  idxK a8 l8 n33 1 fun q40 =>
  stK h31 q40 (.int .u64 n39) fun h41 =>
  letK (IntKind.i64.wrap (x35 + 1)) fun n42 =>
  N4 a0 l0 c0 x6 x7 a8 l8 c8 x34 n42 h41) (D2.t R a8 l8 c8 h)
def D5.g (R : Rt) (N4 : Option Addr → Nat → Nat → Int → Int → Option Addr → Nat → Nat → Int → Int → Hp → Prop) (fr : Fr) (h : Hp) : Prop := gSlice (fr 0) fun a0 l0 c0 => gInt .i64 (fr 6) fun x6 => gInt .i64 (fr 7) fun x7 => gSlice (fr 8) fun a8 l8 c8 => gInt .i64 (fr 34) fun x34 => gInt .i64 (fr 35) fun x35 => D5.t R N4 a0 l0 c0 x6 x7 a8 l8 c8 x34 x35 h
theorem D5.ok (R : Rt) (N4 : Option Addr → Nat → Nat → Int → Int → Option Addr → Nat → Nat → Int → Int → Hp → Prop) (fr : Fr) (h : Hp) (g : D5.g R N4 fr h) : den prog E (cAt C [true, true, true, true, true, true, true, false, true, false, false]) (Ex.then (L4.g N4) (Ex.inBlock 0 (Ex.then (D2.g R) (retQ E [.tmp 4, .tmp 5] R)))) fr h := by
  obtain ⟨a0, l0, c0, e0, g⟩ := gSlice_elim g
  obtain ⟨x6, e6, g⟩ := gInt_elim g
  obtain ⟨x7, e7, g⟩ := gInt_elim g
  obtain ⟨a8, l8, c8, e8, g⟩ := gSlice_elim g
  obtain ⟨x34, e34, g⟩ := gInt_elim g
  obtain ⟨x35, e35, g⟩ := gInt_elim g
  exact den_enter [(0, .slice a0 l0 c0), (6, .int .i64 x6), (7, .int .i64 x7), (8, .slice a8 l8 c8), (34, .int .i64 x34), (35, .int .i64 x35)] ⟨e0, e6, e7, e8, e34, e35, trivial⟩ (by kernel_rfl) g
def L4.t (R : Rt) : Nat → Option Addr → Nat → Nat → Int → Int → Option Addr → Nat → Nat → Int → Int → Hp → Prop
  | 0 => fun _ _ _ _ _ _ _ _ _ _ _ => False
  | n + 1 => fun a0 l0 c0 x6 x7 a8 l8 c8 x34 x35 h => D5.t R (L4.t R n) a0 l0 c0 x6 x7 a8 l8 c8 x34 x35 h
theorem L4.ok (R : Rt) (fr : Fr) (h : Hp) (g : L4.g (fun a0 l0 c0 x6 x7 a8 l8 c8 x34 x35 h => ∃ n, L4.t R n a0 l0 c0 x6 x7 a8 l8 c8 x34 x35 h) fr h) : den prog E (cAt C [true, true, true, true, true, true, true, false, true, false]) (Ex.inBlock 0 (Ex.then (D2.g R) (retQ E [.tmp 4, .tmp 5] R))) fr h := by
  obtain ⟨a0, l0, c0, e0, g⟩ := gSlice_elim g
  obtain ⟨x6, e6, g⟩ := gInt_elim g
  obtain ⟨x7, e7, g⟩ := gInt_elim g
  obtain ⟨a8, l8, c8, e8, g⟩ := gSlice_elim g
  obtain ⟨x34, e34, g⟩ := gInt_elim g
  obtain ⟨x35, e35, g⟩ := gInt_elim g
  obtain ⟨n, g⟩ := g
  refine loop_ok (fun n => L4.g (L4.t R n)) (b := (cAt C [true, true, true, true, true, true, true, false, true, false, false])) (by kernel_rfl) (fun fr h g => ?_) (fun n => D5.ok R (L4.t R n)) n fr h (gSlice_intro e0 (gInt_intro e6 (gInt_intro e7 (gSlice_intro e8 (gInt_intro e34 (gInt_intro e35 (g)))))))
  obtain ⟨a0, l0, c0, e0, g⟩ := gSlice_elim g
  obtain ⟨x6, e6, g⟩ := gInt_elim g
  obtain ⟨x7, e7, g⟩ := gInt_elim g
  obtain ⟨a8, l8, c8, e8, g⟩ := gSlice_elim g
  obtain ⟨x34, e34, g⟩ := gInt_elim g
  obtain ⟨x35, e35, g⟩ := gInt_elim g
  exact g
theorem B6.ok (R : Rt) (fr : Fr) (h : Hp) (g : L4.g (fun a0 l0 c0 x6 x7 a8 l8 c8 x34 x35 h => ∃ n, L4.t R n a0 l0 c0 x6 x7 a8 l8 c8 x34 x35 h) fr h) : den prog E (cAt C [true, true, true, true, true, true, true, false, true]) (Ex.then (D2.g R) (retQ E [.tmp 4, .tmp 5] R)) fr h :=
  den_block (by kernel_rfl) (L4.ok R fr h g)
def D3.t (R : Rt) (a0 : Option Addr) (l0 : Nat) (c0 : Nat) (x6 : Int) (x7 : Int) (a8 : Option Addr) (l8 : Nat) (c8 : Nat) (h : Hp) : Prop :=
  (∃ n, L4.t R n a0 l0 c0 x6 x7 a8 l8 c8 (((l0 : Nat) : Int)) 0 h)
def D3.g (R : Rt) (fr : Fr) (h : Hp) : Prop := gSlice (fr 0) fun a0 l0 c0 => gInt .i64 (fr 6) fun x6 => gInt .i64 (fr 7) fun x7 => gSlice (fr 8) fun a8 l8 c8 => D3.t R a0 l0 c0 x6 x7 a8 l8 c8 h
theorem D3.ok (R : Rt) (fr : Fr) (h : Hp) (g : D3.g R fr h) : den prog E (cAt C [true, true, true, true, true, true, true, false]) (Ex.then (D2.g R) (retQ E [.tmp 4, .tmp 5] R)) fr h := by
  obtain ⟨a0, l0, c0, e0, g⟩ := gSlice_elim g
  obtain ⟨x6, e6, g⟩ := gInt_elim g
  obtain ⟨x7, e7, g⟩ := gInt_elim g
  obtain ⟨a8, l8, c8, e8, g⟩ := gSlice_elim g
  exact den_cut 1 (r := (cAt C [true, true, true, true, true, true, true, false, true])) (by kernel_rfl) (B6.ok R) (den_enter [(0, .slice a0 l0 c0), (6, .int .i64 x6), (7, .int .i64 x7), (8, .slice a8 l8 c8)] ⟨e0, e6, e7, e8, trivial⟩ (by kernel_rfl) g)
theorem W7.ok (R : Rt) (fr : Fr) (h : Hp) (g : D3.g R fr h) : den prog E (cAt C [true, true, true, true, true, true, true]) (retQ E [.tmp 4, .tmp 5] R) fr h :=
  den_then (by kernel_rfl) (D2.ok R) (D3.ok R fr h g)
def D1.t (R : Rt) (a0 : Option Addr) (l0 : Nat) (c0 : Nat) (x1 : Int) (h : Hp) : Prop :=
  cond (decide (x1 < 0)) (R (.tuple #[.slice none 0 0, .int .i64 1]) h) (HC nat_Form.id #[.slice a0 l0 c0] h fun v1 h2 =>
  gBool v1 fun b_3 =>
  cond (!b_3) (R (.tuple #[.slice none 0 0, .int .i64 2]) h2) (cond ((((l0 : Nat) : Int)) == 0) (R (.tuple #[.slice none 0 0, .int .i64 0]) h2) (HC nat_Bits.id #[.slice a0 l0 c0] h2 fun v4 h5 =>
  gInt .i64 v4 fun x_6 =>
  letK (IntKind.i64.wrap (524288 - x_6)) fun n7 =>
  cond (decide (x1 > n7)) (R (.tuple #[.slice none 0 0, .int .i64 5]) h5) ((64 : Int) ≠ 0 ∧ letK (IntKind.i64.wrap (Int.tdiv x1 64)) fun n8 =>
  (64 : Int) ≠ 0 ∧ letK (Int.tmod x1 64) fun n9 =>
  letK (IntKind.i64.wrap (n8 + (((l0 : Nat) : Int)))) fun n10 =>
  letK (IntKind.i64.wrap (n10 + 1)) fun n11 =>
  mkK h5 23 T23 n11 n11 fun q12 h13 =>
  D3.t R a0 l0 c0 n8 n9 (some q12) n11.toNat n11.toNat h13))))
def D1.g (R : Rt) (fr : Fr) (h : Hp) : Prop := gSlice (fr 0) fun a0 l0 c0 => gInt .i64 (fr 1) fun x1 => D1.t R a0 l0 c0 x1 h
theorem D1.ok (R : Rt) (fr : Fr) (h : Hp) (g : D1.g R fr h) : den prog E C (retQ E [.tmp 4, .tmp 5] R) fr h := by
  obtain ⟨a0, l0, c0, e0, g⟩ := gSlice_elim g
  obtain ⟨x1, e1, g⟩ := gInt_elim g
  exact den_cut 7 (r := (cAt C [true, true, true, true, true, true, true])) (by kernel_rfl) (W7.ok R) (den_enter [(0, .slice a0 l0 c0), (1, .int .i64 x1)] ⟨e0, e1, trivial⟩ (by kernel_rfl) g)
def t (a0 : Option Addr) (l0 : Nat) (c0 : Nat) (x1 : Int) (h : Hp) (R : Rt) : Prop := D1.t R a0 l0 c0 x1 h
theorem ok {a0 : Option Addr} {l0 : Nat} {c0 : Nat} {x1 : Int} {h : Hp} {R : Rt} (g : t a0 l0 c0 x1 h R) : HC id #[.slice a0 l0 c0, .int .i64 x1] h R :=
  calls_of_den' envOk (c := C) (rs := [.tmp 4, .tmp 5]) Tryd.func11 (by kernel_rfl) (by kernel_rfl) (by kernel_rfl) (args := [.slice a0 l0 c0, .int .i64 x1]) (by kernel_rfl) (D1.ok R _ h (gSlice_intro rfl (gInt_intro rfl (g))))
end nat_Shl

namespace nat_Word
noncomputable def C : Code := bodyOf Tryd.f12
def D1.t (R : Rt) (x0 : Int) (h : Hp) : Prop :=
  cond (x0 == 0) (R (.slice none 0 0) h) (boxK h 23 [.int .u64 x0] fun q1 h2 => R (.slice (some q1) 1 1) h2)
def D1.g (R : Rt) (fr : Fr) (h : Hp) : Prop := gInt .u64 (fr 0) fun x0 => D1.t R x0 h
theorem D1.ok (R : Rt) (fr : Fr) (h : Hp) (g : D1.g R fr h) : den prog E C (retQ E [.tmp 2] R) fr h := by
  obtain ⟨x0, e0, g⟩ := gInt_elim g
  exact den_enter [(0, .int .u64 x0)] ⟨e0, trivial⟩ (by kernel_rfl) g
def t (x0 : Int) (h : Hp) (R : Rt) : Prop := D1.t R x0 h
theorem ok {x0 : Int} {h : Hp} {R : Rt} (g : t x0 h R) : HC id #[.int .u64 x0] h R :=
  calls_of_den' envOk (c := C) (rs := [.tmp 2]) Tryd.func12 (by kernel_rfl) (by kernel_rfl) (by kernel_rfl) (args := [.int .u64 x0]) (by kernel_rfl) (D1.ok R _ h (gInt_intro rfl (g)))
end nat_Word

namespace natdiv_QuoRem
noncomputable def C : Code := bodyOf Tryd.f13
def D2.t (R : Rt) (a0 : Option Addr) (l0 : Nat) (c0 : Nat) (a1 : Option Addr) (l1 : Nat) (c1 : Nat) (h : Hp) : Prop :=
  cond ((((l1 : Nat) : Int)) == 0) (R (.tuple #[.slice none 0 0, .slice none 0 0, .int .i64 4]) h) (HC nat_Cmp.id #[.slice a0 l0 c0, .slice a1 l1 c1] h fun v7 h8 =>
  gInt .i64 v7 fun x_9 =>
  cond (decide (x_9 < 0)) (HC nat_Norm.id #[.slice a0 l0 c0] h8 fun v10 h11 =>
  gTup v10 fun y12 =>
  uncons y12 fun v13 y13 =>
  gSlice v13 fun a_14 l_14 c_14 =>
  uncons y13 fun v15 y15 =>
  gInt .i64 v15 fun x_16 =>
  unnil y15 <| R (.tuple #[.slice none 0 0, .slice a_14 l_14 c_14, .int .i64 0]) h11) (cond ((((l1 : Nat) : Int)) == 1) (idxK a1 l1 0 1 fun q17 =>
  ldK h8 q17 fun v18 =>
  gInt .u64 v18 fun x_19 =>
  HC nat_DivWord.id #[.slice a0 l0 c0, .int .u64 x_19] h8 fun v20 h21 =>
  gTup v20 fun y22 =>
  uncons y22 fun v23 y23 =>
  gSlice v23 fun a_24 l_24 c_24 =>
  uncons y23 fun v25 y25 =>
  gInt .u64 v25 fun x_26 =>
  uncons y25 fun v27 y27 =>
  gInt .i64 v27 fun x_28 =>
  unnil y27 <| HC nat_Word.id #[.int .u64 x_26] h21 fun v29 h30 =>
  gSlice v29 fun a_31 l_31 c_31 =>
  R (.tuple #[.slice a_24 l_24 c_24, .slice a_31 l_31 c_31, .int .i64 0]) h30) (letK (IntKind.i64.wrap ((((l1 : Nat) : Int)) - 1)) fun n32 =>
  idxK a1 l1 n32 1 fun q33 =>
  ldK h8 q33 fun v34 =>
  gInt .u64 v34 fun x_35 =>
  HC bits_LeadingZeros64.id #[.int .u64 x_35] h8 fun v36 h37 =>
  gInt .i64 v36 fun x_38 =>
  letK (IntKind.i64.wrap ((((l0 : Nat) : Int)) + 1)) fun n39 =>
  HC natdiv_shifted.id #[.slice a0 l0 c0, .int .i64 x_38, .int .i64 n39] h37 fun v40 h41 =>
  gSlice v40 fun a_42 l_42 c_42 =>
  HC natdiv_shifted.id #[.slice a1 l1 c1, .int .i64 x_38, .int .i64 (((l1 : Nat) : Int))] h41 fun v43 h44 =>
  gSlice v43 fun a_45 l_45 c_45 =>
  HC natdiv_long.id #[.slice a_42 l_42 c_42, .slice a_45 l_45 c_45] h44 fun v46 h47 =>
  gSlice v46 fun a_48 l_48 c_48 =>
  slK 1 a_42 l_42 c_42 none (some (.int .i64 (((l_45 : Nat) : Int)))) none fun a_49 l_49 c_49 =>
  HC nat_Norm.id #[.slice a_49 l_49 c_49] h47 fun v50 h51 =>
  gTup v50 fun y52 =>
  uncons y52 fun v53 y53 =>
  gSlice v53 fun a_54 l_54 c_54 =>
  uncons y53 fun v55 y55 =>
  gInt .i64 v55 fun x_56 =>
  unnil y55 <| HC nat_Shr.id #[.slice a_54 l_54 c_54, .int .i64 x_38] h51 fun v57 h58 =>
  gTup v57 fun y59 =>
  uncons y59 fun v60 y60 =>
  gSlice v60 fun a_61 l_61 c_61 =>
  uncons y60 fun v62 y62 =>
  gInt .i64 v62 fun x_63 =>
  unnil y62 <| HC nat_Norm.id #[.slice a_48 l_48 c_48] h58 fun v64 h65 =>
  gTup v64 fun y66 =>
  uncons y66 fun v67 y67 =>
  gSlice v67 fun a_68 l_68 c_68 =>
  uncons y67 fun v69 y69 =>
  gInt .i64 v69 fun x_70 =>
  unnil y69 <| R (.tuple #[.slice a_68 l_68 c_68, .slice a_61 l_61 c_61, .int .i64 0]) h65)))
def D2.g (R : Rt) (fr : Fr) (h : Hp) : Prop := gSlice (fr 0) fun a0 l0 c0 => gSlice (fr 1) fun a1 l1 c1 => D2.t R a0 l0 c0 a1 l1 c1 h
theorem D2.ok (R : Rt) (fr : Fr) (h : Hp) (g : D2.g R fr h) : den prog E (cAt C [true, true]) (retQ E [.tmp 4, .tmp 5, .tmp 6] R) fr h := by
  obtain ⟨a0, l0, c0, e0, g⟩ := gSlice_elim g
  obtain ⟨a1, l1, c1, e1, g⟩ := gSlice_elim g
  exact den_enter [(0, .slice a0 l0 c0), (1, .slice a1 l1 c1)] ⟨e0, e1, trivial⟩ (by kernel_rfl) g
def D1.t (R : Rt) (a0 : Option Addr) (l0 : Nat) (c0 : Nat) (a1 : Option Addr) (l1 : Nat) (c1 : Nat) (h : Hp) : Prop :=
  HC nat_Form.id #[.slice a0 l0 c0] h fun v1 h2 =>
  gBool v1 fun b_3 =>
  cond (!b_3) (R (.tuple #[.slice none 0 0, .slice none 0 0, .int .i64 2]) h2) (HC nat_Form.id #[.slice a1 l1 c1] h2 fun v4 h5 =>
  gBool v4 fun b_6 =>
  cond (!b_6) (R (.tuple #[.slice none 0 0, .slice none 0 0, .int .i64 2]) h5) (D2.t R a0 l0 c0 a1 l1 c1 h5))
def D1.g (R : Rt) (fr : Fr) (h : Hp) : Prop := gSlice (fr 0) fun a0 l0 c0 => gSlice (fr 1) fun a1 l1 c1 => D1.t R a0 l0 c0 a1 l1 c1 h
theorem D1.ok (R : Rt) (fr : Fr) (h : Hp) (g : D1.g R fr h) : den prog E C (retQ E [.tmp 4, .tmp 5, .tmp 6] R) fr h := by
  obtain ⟨a0, l0, c0, e0, g⟩ := gSlice_elim g
  obtain ⟨a1, l1, c1, e1, g⟩ := gSlice_elim g
  exact den_cut 2 (r := (cAt C [true, true])) (by kernel_rfl) (D2.ok R) (den_enter [(0, .slice a0 l0 c0), (1, .slice a1 l1 c1)] ⟨e0, e1, trivial⟩ (by kernel_rfl) g)
def t (a0 : Option Addr) (l0 : Nat) (c0 : Nat) (a1 : Option Addr) (l1 : Nat) (c1 : Nat) (h : Hp) (R : Rt) : Prop := D1.t R a0 l0 c0 a1 l1 c1 h
theorem ok {a0 : Option Addr} {l0 : Nat} {c0 : Nat} {a1 : Option Addr} {l1 : Nat} {c1 : Nat} {h : Hp} {R : Rt} (g : t a0 l0 c0 a1 l1 c1 h R) : HC id #[.slice a0 l0 c0, .slice a1 l1 c1] h R :=
  calls_of_den' envOk (c := C) (rs := [.tmp 4, .tmp 5, .tmp 6]) Tryd.func13 (by kernel_rfl) (by kernel_rfl) (by kernel_rfl) (args := [.slice a0 l0 c0, .slice a1 l1 c1]) (by kernel_rfl) (D1.ok R _ h (gSlice_intro rfl (gSlice_intro rfl (g))))
end natdiv_QuoRem

namespace nat_Cmp
noncomputable def C : Code := bodyOf Tryd.f14
def D2.t (R : Rt)  (h : Hp) : Prop :=
  R (.int .i64 0) h
def D2.g (R : Rt) (fr : Fr) (h : Hp) : Prop := D2.t R  h
theorem D2.ok (R : Rt) (fr : Fr) (h : Hp) (g : D2.g R fr h) : den prog E (cAt C [true, true, true, true]) (retQ E [.tmp 4] R) fr h := by
  exact den_enter [] trivial (by kernel_rfl) g
def L4.g (N : Option Addr → Nat → Nat → Option Addr → Nat → Nat → Int → Hp → Prop) (fr : Fr) (h : Hp) : Prop := gSlice (fr 5) fun a5 l5 c5 => gSlice (fr 6) fun a6 l6 c6 => gInt .i64 (fr 7) fun x7 => N a5 l5 c5 a6 l6 c6 x7 h
def D5.t (R : Rt) (N4 : Option Addr → Nat → Nat → Option Addr → Nat → Nat → Int → Hp → Prop) (a5 : Option Addr) (l5 : Nat) (c5 : Nat) (a6 : Option Addr) (l6 : Nat) (c6 : Nat) (x7 : Int) (h : Hp) : Prop :=
  cond (decide (x7 ≥ 0)) (idxK a5 l5 x7 1 fun q8 =>
  ldK h q8 fun v9 =>
  gInt .u64 v9 fun x_10 =>
  idxK a6 l6 x7 1 fun q11 =>
  ldK h q11 fun v12 =>
  gInt .u64 v12 fun x_13 =>
  cond (x_10 != x_13) (idxK a5 l5 x7 1 fun q14 =>
  ldK h q14 fun v15 =>
  gInt .u64 v15 fun x_16 =>
  idxK a6 l6 x7 1 fun q17 =>
  ldK h q17 fun v18 =>
  gInt .u64 v18 fun x_19 =>
  cond (decide (x_16 < x_19)) (R (.int .i64 (-1)) h) (R (.int .i64 1) h)) (letK (IntKind.i64.wrap (x7 - 1)) fun n20 =>
  N4 a5 l5 c5 a6 l6 c6 n20 h)) (D2.t R h)
def D5.g (R : Rt) (N4 : Option Addr → Nat → Nat → Option Addr → Nat → Nat → Int → Hp → Prop) (fr : Fr) (h : Hp) : Prop := gSlice (fr 5) fun a5 l5 c5 => gSlice (fr 6) fun a6 l6 c6 => gInt .i64 (fr 7) fun x7 => D5.t R N4 a5 l5 c5 a6 l6 c6 x7 h
theorem D5.ok (R : Rt) (N4 : Option Addr → Nat → Nat → Option Addr → Nat → Nat → Int → Hp → Prop) (fr : Fr) (h : Hp) (g : D5.g R N4 fr h) : den prog E (cAt C [true, true, true, false, true, false, false]) (Ex.then (L4.g N4) (Ex.inBlock 0 (Ex.then (D2.g R) (retQ E [.tmp 4] R)))) fr h := by
  obtain ⟨a5, l5, c5, e5, g⟩ := gSlice_elim g
  obtain ⟨a6, l6, c6, e6, g⟩ := gSlice_elim g
  obtain ⟨x7, e7, g⟩ := gInt_elim g
  exact den_enter [(5, .slice a5 l5 c5), (6, .slice a6 l6 c6), (7, .int .i64 x7)] ⟨e5, e6, e7, trivial⟩ (by kernel_rfl) g
def L4.t (R : Rt) : Nat → Option Addr → Nat → Nat → Option Addr → Nat → Nat → Int → Hp → Prop
  | 0 => fun _ _ _ _ _ _ _ _ => False
  | n + 1 => fun a5 l5 c5 a6 l6 c6 x7 h => D5.t R (L4.t R n) a5 l5 c5 a6 l6 c6 x7 h
theorem L4.ok (R : Rt) (fr : Fr) (h : Hp) (g : L4.g (fun a5 l5 c5 a6 l6 c6 x7 h => ∃ n, L4.t R n a5 l5 c5 a6 l6 c6 x7 h) fr h) : den prog E (cAt C [true, true, true, false, true, false]) (Ex.inBlock 0 (Ex.then (D2.g R) (retQ E [.tmp 4] R))) fr h := by
  obtain ⟨a5, l5, c5, e5, g⟩ := gSlice_elim g
  obtain ⟨a6, l6, c6, e6, g⟩ := gSlice_elim g
  obtain ⟨x7, e7, g⟩ := gInt_elim g
  obtain ⟨n, g⟩ := g
  refine loop_ok (fun n => L4.g (L4.t R n)) (b := (cAt C [true, true, true, false, true, false, false])) (by kernel_rfl) (fun fr h g => ?_) (fun n => D5.ok R (L4.t R n)) n fr h (gSlice_intro e5 (gSlice_intro e6 (gInt_intro e7 (g))))
  obtain ⟨a5, l5, c5, e5, g⟩ := gSlice_elim g
  obtain ⟨a6, l6, c6, e6, g⟩ := gSlice_elim g
  obtain ⟨x7, e7, g⟩ := gInt_elim g
  exact g
theorem B6.ok (R : Rt) (fr : Fr) (h : Hp) (g : L4.g (fun a5 l5 c5 a6 l6 c6 x7 h => ∃ n, L4.t R n a5 l5 c5 a6 l6 c6 x7 h) fr h) : den prog E (cAt C [true, true, true, false, true]) (Ex.then (D2.g R) (retQ E [.tmp 4] R)) fr h :=
  den_block (by kernel_rfl) (L4.ok R fr h g)
def D3.t (R : Rt) (a5 : Option Addr) (l5 : Nat) (c5 : Nat) (a6 : Option Addr) (l6 : Nat) (c6 : Nat) (h : Hp) : Prop :=
  letK (IntKind.i64.wrap ((((l5 : Nat) : Int)) - 1)) fun n7 => (∃ n, L4.t R n a5 l5 c5 a6 l6 c6 n7 h)
def D3.g (R : Rt) (fr : Fr) (h : Hp) : Prop := gSlice (fr 5) fun a5 l5 c5 => gSlice (fr 6) fun a6 l6 c6 => D3.t R a5 l5 c5 a6 l6 c6 h
theorem D3.ok (R : Rt) (fr : Fr) (h : Hp) (g : D3.g R fr h) : den prog E (cAt C [true, true, true, false]) (Ex.then (D2.g R) (retQ E [.tmp 4] R)) fr h := by
  obtain ⟨a5, l5, c5, e5, g⟩ := gSlice_elim g
  obtain ⟨a6, l6, c6, e6, g⟩ := gSlice_elim g
  exact den_cut 1 (r := (cAt C [true, true, true, false, true])) (by kernel_rfl) (B6.ok R) (den_enter [(5, .slice a5 l5 c5), (6, .slice a6 l6 c6)] ⟨e5, e6, trivial⟩ (by kernel_rfl) g)
theorem W7.ok (R : Rt) (fr : Fr) (h : Hp) (g : D3.g R fr h) : den prog E (cAt C [true, true, true]) (retQ E [.tmp 4] R) fr h :=
  den_then (by kernel_rfl) (D2.ok R) (D3.ok R fr h g)
def D1.t (R : Rt) (a0 : Option Addr) (l0 : Nat) (c0 : Nat) (a1 : Option Addr) (l1 : Nat) (c1 : Nat) (h : Hp) : Prop :=
  HC nat_trim.id #[.slice a0 l0 c0] h fun v1 h2 =>
  gSlice v1 fun a_3 l_3 c_3 =>
  HC nat_trim.id #[.slice a1 l1 c1] h2 fun v4 h5 =>
  gSlice v4 fun a_6 l_6 c_6 =>
  cond ((((l_3 : Nat) : Int)) != (((l_6 : Nat) : Int))) (cond (decide ((((l_3 : Nat) : Int)) < (((l_6 : Nat) : Int)))) (R (.int .i64 (-1)) h5) (R (.int .i64 1) h5)) (D3.t R a_3 l_3 c_3 a_6 l_6 c_6 h5)
def D1.g (R : Rt) (fr : Fr) (h : Hp) : Prop := gSlice (fr 0) fun a0 l0 c0 => gSlice (fr 1) fun a1 l1 c1 => D1.t R a0 l0 c0 a1 l1 c1 h
theorem D1.ok (R : Rt) (fr : Fr) (h : Hp) (g : D1.g R fr h) : den prog E C (retQ E [.tmp 4] R) fr h := by
  obtain ⟨a0, l0, c0, e0, g⟩ := gSlice_elim g
  obtain ⟨a1, l1, c1, e1, g⟩ := gSlice_elim g
  exact den_cut 3 (r := (cAt C [true, true, true])) (by kernel_rfl) (W7.ok R) (den_enter [(0, .slice a0 l0 c0), (1, .slice a1 l1 c1)] ⟨e0, e1, trivial⟩ (by kernel_rfl) g)
def t (a0 : Option Addr) (l0 : Nat) (c0 : Nat) (a1 : Option Addr) (l1 : Nat) (c1 : Nat) (h : Hp) (R : Rt) : Prop := D1.t R a0 l0 c0 a1 l1 c1 h
theorem ok {a0 : Option Addr} {l0 : Nat} {c0 : Nat} {a1 : Option Addr} {l1 : Nat} {c1 : Nat} {h : Hp} {R : Rt} (g : t a0 l0 c0 a1 l1 c1 h R) : HC id #[.slice a0 l0 c0, .slice a1 l1 c1] h R :=
  calls_of_den' envOk (c := C) (rs := [.tmp 4]) Tryd.func14 (by kernel_rfl) (by kernel_rfl) (by kernel_rfl) (args := [.slice a0 l0 c0, .slice a1 l1 c1]) (by kernel_rfl) (D1.ok R _ h (gSlice_intro rfl (gSlice_intro rfl (g))))
end nat_Cmp

namespace nat_Form
noncomputable def C : Code := bodyOf Tryd.f15
def D1.t (R : Rt) (a0 : Option Addr) (l0 : Nat) (c0 : Nat) (h : Hp) : Prop :=
  cond (decide ((((l0 : Nat) : Int)) ≤ 8192)) (cond ((((l0 : Nat) : Int)) == 0) (R (.bool true) h) (letK (IntKind.i64.wrap ((((l0 : Nat) : Int)) - 1)) fun n1 =>
  idxK a0 l0 n1 1 fun q2 =>
  ldK h q2 fun v3 =>
  gInt .u64 v3 fun x_4 =>
  R (.bool (x_4 != 0)) h)) (R (.bool false) h)
def D1.g (R : Rt) (fr : Fr) (h : Hp) : Prop := gSlice (fr 0) fun a0 l0 c0 => D1.t R a0 l0 c0 h
theorem D1.ok (R : Rt) (fr : Fr) (h : Hp) (g : D1.g R fr h) : den prog E C (retQ E [.tmp 2] R) fr h := by
  obtain ⟨a0, l0, c0, e0, g⟩ := gSlice_elim g
  exact den_enter [(0, .slice a0 l0 c0)] ⟨e0, trivial⟩ (by kernel_rfl) g
def t (a0 : Option Addr) (l0 : Nat) (c0 : Nat) (h : Hp) (R : Rt) : Prop := D1.t R a0 l0 c0 h
theorem ok {a0 : Option Addr} {l0 : Nat} {c0 : Nat} {h : Hp} {R : Rt} (g : t a0 l0 c0 h R) : HC id #[.slice a0 l0 c0] h R :=
  calls_of_den' envOk (c := C) (rs := [.tmp 2]) Tryd.func15 (by kernel_rfl) (by kernel_rfl) (by kernel_rfl) (args := [.slice a0 l0 c0]) (by kernel_rfl) (D1.ok R _ h (gSlice_intro rfl (g)))
end nat_Form

namespace nat_told
noncomputable def C : Code := bodyOf Tryd.f16
def D1.t (R : Rt) (a0 : Option Addr) (l0 : Nat) (c0 : Nat) (h : Hp) : Prop :=
  HC nat_trim.id #[.slice a0 l0 c0] h fun v1 h2 =>
  gSlice v1 fun a_3 l_3 c_3 =>
  cond (decide ((((l_3 : Nat) : Int)) > 8192)) (R (.tuple #[.slice none 0 0, .int .i64 5]) h2) (R (.tuple #[.slice a_3 l_3 c_3, .int .i64 0]) h2)
def D1.g (R : Rt) (fr : Fr) (h : Hp) : Prop := gSlice (fr 0) fun a0 l0 c0 => D1.t R a0 l0 c0 h
theorem D1.ok (R : Rt) (fr : Fr) (h : Hp) (g : D1.g R fr h) : den prog E C (retQ E [.tmp 2, .tmp 3] R) fr h := by
  obtain ⟨a0, l0, c0, e0, g⟩ := gSlice_elim g
  exact den_enter [(0, .slice a0 l0 c0)] ⟨e0, trivial⟩ (by kernel_rfl) g
def t (a0 : Option Addr) (l0 : Nat) (c0 : Nat) (h : Hp) (R : Rt) : Prop := D1.t R a0 l0 c0 h
theorem ok {a0 : Option Addr} {l0 : Nat} {c0 : Nat} {h : Hp} {R : Rt} (g : t a0 l0 c0 h R) : HC id #[.slice a0 l0 c0] h R :=
  calls_of_den' envOk (c := C) (rs := [.tmp 2, .tmp 3]) Tryd.func16 (by kernel_rfl) (by kernel_rfl) (by kernel_rfl) (args := [.slice a0 l0 c0]) (by kernel_rfl) (D1.ok R _ h (gSlice_intro rfl (g)))
end nat_told

namespace nat_trim
noncomputable def C : Code := bodyOf Tryd.f17
def D2.t (R : Rt) (a0 : Option Addr) (l0 : Nat) (c0 : Nat) (x3 : Int) (h : Hp) : Prop :=
  slK 1 a0 l0 c0 none (some (.int .i64 x3)) none fun a_1 l_1 c_1 => R (.slice a_1 l_1 c_1) h
def D2.g (R : Rt) (fr : Fr) (h : Hp) : Prop := gSlice (fr 0) fun a0 l0 c0 => gInt .i64 (fr 3) fun x3 => D2.t R a0 l0 c0 x3 h
theorem D2.ok (R : Rt) (fr : Fr) (h : Hp) (g : D2.g R fr h) : den prog E (cAt C [true, true, true]) (retQ E [.tmp 2] R) fr h := by
  obtain ⟨a0, l0, c0, e0, g⟩ := gSlice_elim g
  obtain ⟨x3, e3, g⟩ := gInt_elim g
  exact den_enter [(0, .slice a0 l0 c0), (3, .int .i64 x3)] ⟨e0, e3, trivial⟩ (by kernel_rfl) g
def L3.g (N : Option Addr → Nat → Nat → Int → Hp → Prop) (fr : Fr) (h : Hp) : Prop := gSlice (fr 0) fun a0 l0 c0 => gInt .i64 (fr 3) fun x3 => N a0 l0 c0 x3 h
def D4.t (R : Rt) (N3 : Option Addr → Nat → Nat → Int → Hp → Prop) (a0 : Option Addr) (l0 : Nat) (c0 : Nat) (x3 : Int) (h : Hp) : Prop :=
  cond (decide (x3 > 0)) (letK (IntKind.i64.wrap (x3 - 1)) fun n2 =>
  idxK a0 l0 n2 1 fun q3 =>
  ldK h q3 fun v4 =>
  gInt .u64 v4 fun x_5 =>
  cond (x_5 == 0) (letK (IntKind.i64.wrap (x3 - 1)) fun n6 =>
  N3 a0 l0 c0 n6 h) (D2.t R a0 l0 c0 x3 h)) (D2.t R a0 l0 c0 x3 h)
def D4.g (R : Rt) (N3 : Option Addr → Nat → Nat → Int → Hp → Prop) (fr : Fr) (h : Hp) : Prop := gSlice (fr 0) fun a0 l0 c0 => gInt .i64 (fr 3) fun x3 => D4.t R N3 a0 l0 c0 x3 h
theorem D4.ok (R : Rt) (N3 : Option Addr → Nat → Nat → Int → Hp → Prop) (fr : Fr) (h : Hp) (g : D4.g R N3 fr h) : den prog E (cAt C [true, true, false, false, false]) (Ex.then (L3.g N3) (Ex.inBlock 0 (Ex.then (D2.g R) (retQ E [.tmp 2] R)))) fr h := by
  obtain ⟨a0, l0, c0, e0, g⟩ := gSlice_elim g
  obtain ⟨x3, e3, g⟩ := gInt_elim g
  exact den_enter [(0, .slice a0 l0 c0), (3, .int .i64 x3)] ⟨e0, e3, trivial⟩ (by kernel_rfl) g
def L3.t (R : Rt) : Nat → Option Addr → Nat → Nat → Int → Hp → Prop
  | 0 => fun _ _ _ _ _ => False
  | n + 1 => fun a0 l0 c0 x3 h => D4.t R (L3.t R n) a0 l0 c0 x3 h
theorem L3.ok (R : Rt) (fr : Fr) (h : Hp) (g : L3.g (fun a0 l0 c0 x3 h => ∃ n, L3.t R n a0 l0 c0 x3 h) fr h) : den prog E (cAt C [true, true, false, false]) (Ex.inBlock 0 (Ex.then (D2.g R) (retQ E [.tmp 2] R))) fr h := by
  obtain ⟨a0, l0, c0, e0, g⟩ := gSlice_elim g
  obtain ⟨x3, e3, g⟩ := gInt_elim g
  obtain ⟨n, g⟩ := g
  refine loop_ok (fun n => L3.g (L3.t R n)) (b := (cAt C [true, true, false, false, false])) (by kernel_rfl) (fun fr h g => ?_) (fun n => D4.ok R (L3.t R n)) n fr h (gSlice_intro e0 (gInt_intro e3 (g)))
  obtain ⟨a0, l0, c0, e0, g⟩ := gSlice_elim g
  obtain ⟨x3, e3, g⟩ := gInt_elim g
  exact g
theorem B5.ok (R : Rt) (fr : Fr) (h : Hp) (g : L3.g (fun a0 l0 c0 x3 h => ∃ n, L3.t R n a0 l0 c0 x3 h) fr h) : den prog E (cAt C [true, true, false]) (Ex.then (D2.g R) (retQ E [.tmp 2] R)) fr h :=
  den_block (by kernel_rfl) (L3.ok R fr h g)
theorem W6.ok (R : Rt) (fr : Fr) (h : Hp) (g : L3.g (fun a0 l0 c0 x3 h => ∃ n, L3.t R n a0 l0 c0 x3 h) fr h) : den prog E (cAt C [true, true]) (retQ E [.tmp 2] R) fr h :=
  den_then (by kernel_rfl) (D2.ok R) (B5.ok R fr h g)
def D1.t (R : Rt) (a0 : Option Addr) (l0 : Nat) (c0 : Nat) (h : Hp) : Prop :=
  (∃ n, L3.t R n a0 l0 c0 (((l0 : Nat) : Int)) h)
def D1.g (R : Rt) (fr : Fr) (h : Hp) : Prop := gSlice (fr 0) fun a0 l0 c0 => D1.t R a0 l0 c0 h
theorem D1.ok (R : Rt) (fr : Fr) (h : Hp) (g : D1.g R fr h) : den prog E C (retQ E [.tmp 2] R) fr h := by
  obtain ⟨a0, l0, c0, e0, g⟩ := gSlice_elim g
  exact den_cut 2 (r := (cAt C [true, true])) (by kernel_rfl) (W6.ok R) (den_enter [(0, .slice a0 l0 c0)] ⟨e0, trivial⟩ (by kernel_rfl) g)
def t (a0 : Option Addr) (l0 : Nat) (c0 : Nat) (h : Hp) (R : Rt) : Prop := D1.t R a0 l0 c0 h
theorem ok {a0 : Option Addr} {l0 : Nat} {c0 : Nat} {h : Hp} {R : Rt} (g : t a0 l0 c0 h R) : HC id #[.slice a0 l0 c0] h R :=
  calls_of_den' envOk (c := C) (rs := [.tmp 2]) Tryd.func17 (by kernel_rfl) (by kernel_rfl) (by kernel_rfl) (args := [.slice a0 l0 c0]) (by kernel_rfl) (D1.ok R _ h (gSlice_intro rfl (g)))
end nat_trim

namespace piconst_arctan
noncomputable def C : Code := bodyOf Tryd.f18
def D2.t (R : Rt) (a8 : Option Addr) (l8 : Nat) (c8 : Nat) (a9 : Option Addr) (l9 : Nat) (c9 : Nat) (x10 : Int) (h : Hp) : Prop :=
  HC nat_Sub.id #[.slice a8 l8 c8, .slice a9 l9 c9] h fun v24 h25 =>
  gTup v24 fun y26 =>
  uncons y26 fun v27 y27 =>
  gSlice v27 fun a_28 l_28 c_28 =>
  uncons y27 fun v29 y29 =>
  gInt .i64 v29 fun x_30 =>
  unnil y29 <| R (.tuple #[.slice a_28 l_28 c_28, .int .u64 x10]) h25
def D2.g (R : Rt) (fr : Fr) (h : Hp) : Prop := gSlice (fr 8) fun a8 l8 c8 => gSlice (fr 9) fun a9 l9 c9 => gInt .u64 (fr 10) fun x10 => D2.t R a8 l8 c8 a9 l9 c9 x10 h
theorem D2.ok (R : Rt) (fr : Fr) (h : Hp) (g : D2.g R fr h) : den prog E (cAt C [true, true, true, true, true, true]) (retQ E [.tmp 4, .tmp 5] R) fr h := by
  obtain ⟨a8, l8, c8, e8, g⟩ := gSlice_elim g
  obtain ⟨a9, l9, c9, e9, g⟩ := gSlice_elim g
  obtain ⟨x10, e10, g⟩ := gInt_elim g
  exact den_enter [(8, .slice a8 l8 c8), (9, .slice a9 l9 c9), (10, .int .u64 x10)] ⟨e8, e9, e10, trivial⟩ (by kernel_rfl) g
def L4.g (N : Int → Option Addr → Nat → Nat → Option Addr → Nat → Nat → Option Addr → Nat → Nat → Int → Int → Hp → Prop) (fr : Fr) (h : Hp) : Prop := gInt .u64 (fr 0) fun x0 => gSlice (fr 6) fun a6 l6 c6 => gSlice (fr 8) fun a8 l8 c8 => gSlice (fr 9) fun a9 l9 c9 => gInt .u64 (fr 10) fun x10 => gInt .u64 (fr 11) fun x11 => N x0 a6 l6 c6 a8 l8 c8 a9 l9 c9 x10 x11 h
def D5.t (R : Rt) (N4 : Int → Option Addr → Nat → Nat → Option Addr → Nat → Nat → Option Addr → Nat → Nat → Int → Int → Hp → Prop) (x0 : Int) (a6 : Option Addr) (l6 : Nat) (c6 : Nat) (a8 : Option Addr) (l8 : Nat) (c8 : Nat) (a9 : Option Addr) (l9 : Nat) (c9 : Nat) (x10 : Int) (x11 : Int) (h : Hp) : Prop :=
  cond (decide ((((l6 : Nat) : Int)) > 0)) (HC nat_DivWord.id #[.slice a6 l6 c6, .int .u64 x11] h fun v31 h32 =>
  gTup v31 fun y33 =>
  uncons y33 fun v34 y34 =>
  gSlice v34 fun a_35 l_35 c_35 =>
  uncons y34 fun v36 y36 =>
  gInt .u64 v36 fun x_37 =>
  uncons y36 fun v38 y38 =>
  gInt .i64 v38 fun x_39 =>
  unnil y38 <| (4 : Int) ≠ 0 ∧ letK (Int.tmod x11 4) fun n40 =>
  cond (n40 == 1) (HC nat_Add.id #[.slice a8 l8 c8, .slice a_35 l_35 c_35] h32 fun v41 h42 =>
  gTup v41 fun y43 =>
  uncons y43 fun v44 y44 =>
  gSlice v44 fun a_45 l_45 c_45 =>
  uncons y44 fun v46 y46 =>
  gInt .i64 v46 fun x_47 =>
  unnil y46 <| HC piconst_next.id #[.slice a6 l6 c6, .int .u64 x0] h42 fun v48 h49 =>
  gSlice v48 fun a_50 l_50 c_50 =>
  letK (IntKind.u64.wrap (x10 + 3)) fun n51 =>
  letK (IntKind.u64.wrap (x11 + 2)) fun n52 =>
  N4 x0 a_50 l_50 c_50 a_45 l_45 c_45 a9 l9 c9 n51 n52 h49) (HC nat_Add.id #[.slice a9 l9 c9, .slice a_35 l_35 c_35] h32 fun v53 h54 =>
  gTup v53 fun y55 =>
  uncons y55 fun v56 y56 =>
  gSlice v56 fun a_57 l_57 c_57 =>
  uncons y56 fun v58 y58 =>
  gInt .i64 v58 fun x_59 =>
  unnil y58 <| HC piconst_next.id #[.slice a6 l6 c6, .int .u64 x0] h54 fun v60 h61 =>
  gSlice v60 fun a_62 l_62 c_62 =>
  letK (IntKind.u64.wrap (x10 + 3)) fun n63 =>
  letK (IntKind.u64.wrap (x11 + 2)) fun n64 =>
  N4 x0 a_62 l_62 c_62 a8 l8 c8 a_57 l_57 c_57 n63 n64 h61)) (D2.t R a8 l8 c8 a9 l9 c9 x10 h)
def D5.g (R : Rt) (N4 : Int → Option Addr → Nat → Nat → Option Addr → Nat → Nat → Option Addr → Nat → Nat → Int → Int → Hp → Prop) (fr : Fr) (h : Hp) : Prop := gInt .u64 (fr 0) fun x0 => gSlice (fr 6) fun a6 l6 c6 => gSlice (fr 8) fun a8 l8 c8 => gSlice (fr 9) fun a9 l9 c9 => gInt .u64 (fr 10) fun x10 => gInt .u64 (fr 11) fun x11 => D5.t R N4 x0 a6 l6 c6 a8 l8 c8 a9 l9 c9 x10 x11 h
theorem D5.ok (R : Rt) (N4 : Int → Option Addr → Nat → Nat → Option Addr → Nat → Nat → Option Addr → Nat → Nat → Int → Int → Hp → Prop) (fr : Fr) (h : Hp) (g : D5.g R N4 fr h) : den prog E (cAt C [true, true, true, true, true, false, true, false, false]) (Ex.then (L4.g N4) (Ex.inBlock 0 (Ex.then (D2.g R) (retQ E [.tmp 4, .tmp 5] R)))) fr h := by
  obtain ⟨x0, e0, g⟩ := gInt_elim g
  obtain ⟨a6, l6, c6, e6, g⟩ := gSlice_elim g
  obtain ⟨a8, l8, c8, e8, g⟩ := gSlice_elim g
  obtain ⟨a9, l9, c9, e9, g⟩ := gSlice_elim g
  obtain ⟨x10, e10, g⟩ := gInt_elim g
  obtain ⟨x11, e11, g⟩ := gInt_elim g
  exact den_enter [(0, .int .u64 x0), (6, .slice a6 l6 c6), (8, .slice a8 l8 c8), (9, .slice a9 l9 c9), (10, .int .u64 x10), (11, .int .u64 x11)] ⟨e0, e6, e8, e9, e10, e11, trivial⟩ (by kernel_rfl) g
def L4.t (R : Rt) : Nat → Int → Option Addr → Nat → Nat → Option Addr → Nat → Nat → Option Addr → Nat → Nat → Int → Int → Hp → Prop
  | 0 => fun _ _ _ _ _ _ _ _ _ _ _ _ _ => False
  | n + 1 => fun x0 a6 l6 c6 a8 l8 c8 a9 l9 c9 x10 x11 h => D5.t R (L4.t R n) x0 a6 l6 c6 a8 l8 c8 a9 l9 c9 x10 x11 h
theorem L4.ok (R : Rt) (fr : Fr) (h : Hp) (g : L4.g (fun x0 a6 l6 c6 a8 l8 c8 a9 l9 c9 x10 x11 h => ∃ n, L4.t R n x0 a6 l6 c6 a8 l8 c8 a9 l9 c9 x10 x11 h) fr h) : den prog E (cAt C [true, true, true, true, true, false, true, false]) (Ex.inBlock 0 (Ex.then (D2.g R) (retQ E [.tmp 4, .tmp 5] R))) fr h := by
  obtain ⟨x0, e0, g⟩ := gInt_elim g
  obtain ⟨a6, l6, c6, e6, g⟩ := gSlice_elim g
  obtain ⟨a8, l8, c8, e8, g⟩ := gSlice_elim g
  obtain ⟨a9, l9, c9, e9, g⟩ := gSlice_elim g
  obtain ⟨x10, e10, g⟩ := gInt_elim g
  obtain ⟨x11, e11, g⟩ := gInt_elim g
  obtain ⟨n, g⟩ := g
  refine loop_ok (fun n => L4.g (L4.t R n)) (b := (cAt C [true, true, true, true, true, false, true, false, false])) (by kernel_rfl) (fun fr h g => ?_) (fun n => D5.ok R (L4.t R n)) n fr h (gInt_intro e0 (gSlice_intro e6 (gSlice_intro e8 (gSlice_intro e9 (gInt_intro e10 (gInt_intro e11 (g)))))))
  obtain ⟨x0, e0, g⟩ := gInt_elim g
  obtain ⟨a6, l6, c6, e6, g⟩ := gSlice_elim g
  obtain ⟨a8, l8, c8, e8, g⟩ := gSlice_elim g
  obtain ⟨a9, l9, c9, e9, g⟩ := gSlice_elim g
  obtain ⟨x10, e10, g⟩ := gInt_elim g
  obtain ⟨x11, e11, g⟩ := gInt_elim g
  exact g
theorem B6.ok (R : Rt) (fr : Fr) (h : Hp) (g : L4.g (fun x0 a6 l6 c6 a8 l8 c8 a9 l9 c9 x10 x11 h => ∃ n, L4.t R n x0 a6 l6 c6 a8 l8 c8 a9 l9 c9 x10 x11 h) fr h) : den prog E (cAt C [true, true, true, true, true, false, true]) (Ex.then (D2.g R) (retQ E [.tmp 4, .tmp 5] R)) fr h :=
  den_block (by kernel_rfl) (L4.ok R fr h g)
def D3.t (R : Rt) (x0 : Int) (a6 : Option Addr) (l6 : Nat) (c6 : Nat) (a8 : Option Addr) (l8 : Nat) (c8 : Nat) (a9 : Option Addr) (l9 : Nat) (c9 : Nat) (x10 : Int) (h : Hp) : Prop :=
  (∃ n, L4.t R n x0 a6 l6 c6 a8 l8 c8 a9 l9 c9 x10 1 h)
def D3.g (R : Rt) (fr : Fr) (h : Hp) : Prop := gInt .u64 (fr 0) fun x0 => gSlice (fr 6) fun a6 l6 c6 => gSlice (fr 8) fun a8 l8 c8 => gSlice (fr 9) fun a9 l9 c9 => gInt .u64 (fr 10) fun x10 => D3.t R x0 a6 l6 c6 a8 l8 c8 a9 l9 c9 x10 h
theorem D3.ok (R : Rt) (fr : Fr) (h : Hp) (g : D3.g R fr h) : den prog E (cAt C [true, true, true, true, true, false]) (Ex.then (D2.g R) (retQ E [.tmp 4, .tmp 5] R)) fr h := by
  obtain ⟨x0, e0, g⟩ := gInt_elim g
  obtain ⟨a6, l6, c6, e6, g⟩ := gSlice_elim g
  obtain ⟨a8, l8, c8, e8, g⟩ := gSlice_elim g
  obtain ⟨a9, l9, c9, e9, g⟩ := gSlice_elim g
  obtain ⟨x10, e10, g⟩ := gInt_elim g
  exact den_cut 1 (r := (cAt C [true, true, true, true, true, false, true])) (by kernel_rfl) (B6.ok R) (den_enter [(0, .int .u64 x0), (6, .slice a6 l6 c6), (8, .slice a8 l8 c8), (9, .slice a9 l9 c9), (10, .int .u64 x10)] ⟨e0, e6, e8, e9, e10, trivial⟩ (by kernel_rfl) g)
theorem W7.ok (R : Rt) (fr : Fr) (h : Hp) (g : D3.g R fr h) : den prog E (cAt C [true, true, true, true, true]) (retQ E [.tmp 4, .tmp 5] R) fr h :=
  den_then (by kernel_rfl) (D2.ok R) (D3.ok R fr h g)
def D1.t (R : Rt) (x0 : Int) (x1 : Int) (h : Hp) : Prop :=
  HC nat_Word.id #[.int .u64 1] h fun v1 h2 =>
  gSlice v1 fun a_3 l_3 c_3 =>
  HC nat_Shl.id #[.slice a_3 l_3 c_3, .int .i64 x1] h2 fun v4 h5 =>
  gTup v4 fun y6 =>
  uncons y6 fun v7 y7 =>
  gSlice v7 fun a_8 l_8 c_8 =>
  uncons y7 fun v9 y9 =>
  gInt .i64 v9 fun x_10 =>
  unnil y9 <| HC nat_DivWord.id #[.slice a_8 l_8 c_8, .int .u64 x0] h5 fun v11 h12 =>
  gTup v11 fun y13 =>
  uncons y13 fun v14 y14 =>
  gSlice v14 fun a_15 l_15 c_15 =>
  uncons y14 fun v16 y16 =>
  gInt .u64 v16 fun x_17 =>
  uncons y16 fun v18 y18 =>
  gInt .i64 v18 fun x_19 =>
  unnil y18 <| boxK h12 23 [] fun q20 h21 =>
  boxK h21 23 [] fun q22 h23 =>
  D3.t R x0 a_15 l_15 c_15 (some q20) 0 0 (some q22) 0 0 2 h23
def D1.g (R : Rt) (fr : Fr) (h : Hp) : Prop := gInt .u64 (fr 0) fun x0 => gInt .i64 (fr 1) fun x1 => D1.t R x0 x1 h
theorem D1.ok (R : Rt) (fr : Fr) (h : Hp) (g : D1.g R fr h) : den prog E C (retQ E [.tmp 4, .tmp 5] R) fr h := by
  obtain ⟨x0, e0, g⟩ := gInt_elim g
  obtain ⟨x1, e1, g⟩ := gInt_elim g
  exact den_cut 5 (r := (cAt C [true, true, true, true, true])) (by kernel_rfl) (W7.ok R) (den_enter [(0, .int .u64 x0), (1, .int .i64 x1)] ⟨e0, e1, trivial⟩ (by kernel_rfl) g)
def t (x0 : Int) (x1 : Int) (h : Hp) (R : Rt) : Prop := D1.t R x0 x1 h
theorem ok {x0 : Int} {x1 : Int} {h : Hp} {R : Rt} (g : t x0 x1 h R) : HC id #[.int .u64 x0, .int .i64 x1] h R :=
  calls_of_den' envOk (c := C) (rs := [.tmp 4, .tmp 5]) Tryd.func18 (by kernel_rfl) (by kernel_rfl) (by kernel_rfl) (args := [.int .u64 x0, .int .i64 x1]) (by kernel_rfl) (D1.ok R _ h (gInt_intro rfl (gInt_intro rfl (g))))
end piconst_arctan

namespace nat_MulWord
noncomputable def C : Code := bodyOf Tryd.f19
def D2.t (R : Rt) (a0 : Option Addr) (l0 : Nat) (c0 : Nat) (a6 : Option Addr) (l6 : Nat) (c6 : Nat) (x7 : Int) (h : Hp) : Prop :=
  idxK a6 l6 (((l0 : Nat) : Int)) 1 fun q7 =>
  stK h q7 (.int .u64 x7) fun h8 =>
  HC nat_told.id #[.slice a6 l6 c6] h8 fun v9 h10 =>
  gTup v9 fun y11 =>
  uncons y11 fun v12 y12 =>
  gSlice v12 fun a_13 l_13 c_13 =>
  uncons y12 fun v14 y14 =>
  gInt .i64 v14 fun x_15 =>
  unnil y14 <| R (.tuple #[.slice a_13 l_13 c_13, .int .i64 x_15]) h10
def D2.g (R : Rt) (fr : Fr) (h : Hp) : Prop := gSlice (fr 0) fun a0 l0 c0 => gSlice (fr 6) fun a6 l6 c6 => gInt .u64 (fr 7) fun x7 => D2.t R a0 l0 c0 a6 l6 c6 x7 h
theorem D2.ok (R : Rt) (fr : Fr) (h : Hp) (g : D2.g R fr h) : den prog E (cAt C [true, true, true, true, true]) (retQ E [.tmp 4, .tmp 5] R) fr h := by
  obtain ⟨a0, l0, c0, e0, g⟩ := gSlice_elim g
  obtain ⟨a6, l6, c6, e6, g⟩ := gSlice_elim g
  obtain ⟨x7, e7, g⟩ := gInt_elim g
  exact den_enter [(0, .slice a0 l0 c0), (6, .slice a6 l6 c6), (7, .int .u64 x7)] ⟨e0, e6, e7, trivial⟩ (by kernel_rfl) g
def L4.g (N : Option Addr → Nat → Nat → Int → Option Addr → Nat → Nat → Int → Int → Int → Hp → Prop) (fr : Fr) (h : Hp) : Prop := gSlice (fr 0) fun a0 l0 c0 => gInt .u64 (fr 1) fun x1 => gSlice (fr 6) fun a6 l6 c6 => gInt .u64 (fr 7) fun x7 => gInt .i64 (fr 20) fun x20 => gInt .i64 (fr 21) fun x21 => N a0 l0 c0 x1 a6 l6 c6 x7 x20 x21 h
def D5.t (R : Rt) (N4 : Option Addr → Nat → Nat → Int → Option Addr → Nat → Nat → Int → Int → Int → Hp → Prop) (a0 : Option Addr) (l0 : Nat) (c0 : Nat) (x1 : Int) (a6 : Option Addr) (l6 : Nat) (c6 : Nat) (x7 : Int) (x20 : Int) (x21 : Int) (h : Hp) : Prop :=
  cond (decide (x21 < x20)) (idxK a0 l0 x21 1 fun q16 =>
  ldK h q16 fun v17 =>
  gInt .u64 v17 fun x_18 =>
  HC bits_Mul64.id #[.int .u64 x_18, .int .u64 x1] h fun v19 h20 =>
  gTup v19 fun y21 =>
  uncons y21 fun v22 y22 =>
  gInt .u64 v22 fun x_23 =>
  uncons y22 fun v24 y24 =>
  gInt .u64 v24 fun x_25 =>
  unnil y24 <| addK x_25 x7 0 fun n26 m26 =>
  idxK a6 l6 x21 1 fun q27 =>
  stK h20 q27 (.int .u64 n26) fun h28 =>
  letK (IntKind.u64.wrap (x_23 + m26)) fun n29 =>
  letK (IntKind.i64.wrap (x21 + 1)) fun n30 =>
  N4 a0 l0 c0 x1 a6 l6 c6 n29 x20 n30 h28) (D2.t R a0 l0 c0 a6 l6 c6 x7 h)
def D5.g (R : Rt) (N4 : Option Addr → Nat → Nat → Int → Option Addr → Nat → Nat → Int → Int → Int → Hp → Prop) (fr : Fr) (h : Hp) : Prop := gSlice (fr 0) fun a0 l0 c0 => gInt .u64 (fr 1) fun x1 => gSlice (fr 6) fun a6 l6 c6 => gInt .u64 (fr 7) fun x7 => gInt .i64 (fr 20) fun x20 => gInt .i64 (fr 21) fun x21 => D5.t R N4 a0 l0 c0 x1 a6 l6 c6 x7 x20 x21 h
theorem D5.ok (R : Rt) (N4 : Option Addr → Nat → Nat → Int → Option Addr → Nat → Nat → Int → Int → Int → Hp → Prop) (fr : Fr) (h : Hp) (g : D5.g R N4 fr h) : den prog E (cAt C [true, true, true, true, false, true, false, false]) (Ex.then (L4.g N4) (Ex.inBlock 0 (Ex.then (D2.g R) (retQ E [.tmp 4, .tmp 5] R)))) fr h := by
  obtain ⟨a0, l0, c0, e0, g⟩ := gSlice_elim g
  obtain ⟨x1, e1, g⟩ := gInt_elim g
  obtain ⟨a6, l6, c6, e6, g⟩ := gSlice_elim g
  obtain ⟨x7, e7, g⟩ := gInt_elim g
  obtain ⟨x20, e20, g⟩ := gInt_elim g
  obtain ⟨x21, e21, g⟩ := gInt_elim g
  exact den_enter [(0, .slice a0 l0 c0), (1, .int .u64 x1), (6, .slice a6 l6 c6), (7, .int .u64 x7), (20, .int .i64 x20), (21, .int .i64 x21)] ⟨e0, e1, e6, e7, e20, e21, trivial⟩ (by kernel_rfl) g
def L4.t (R : Rt) : Nat → Option Addr → Nat → Nat → Int → Option Addr → Nat → Nat → Int → Int → Int → Hp → Prop
  | 0 => fun _ _ _ _ _ _ _ _ _ _ _ => False
  | n + 1 => fun a0 l0 c0 x1 a6 l6 c6 x7 x20 x21 h => D5.t R (L4.t R n) a0 l0 c0 x1 a6 l6 c6 x7 x20 x21 h
theorem L4.ok (R : Rt) (fr : Fr) (h : Hp) (g : L4.g (fun a0 l0 c0 x1 a6 l6 c6 x7 x20 x21 h => ∃ n, L4.t R n a0 l0 c0 x1 a6 l6 c6 x7 x20 x21 h) fr h) : den prog E (cAt C [true, true, true, true, false, true, false]) (Ex.inBlock 0 (Ex.then (D2.g R) (retQ E [.tmp 4, .tmp 5] R))) fr h := by
  obtain ⟨a0, l0, c0, e0, g⟩ := gSlice_elim g
  obtain ⟨x1, e1, g⟩ := gInt_elim g
  obtain ⟨a6, l6, c6, e6, g⟩ := gSlice_elim g
  obtain ⟨x7, e7, g⟩ := gInt_elim g
  obtain ⟨x20, e20, g⟩ := gInt_elim g
  obtain ⟨x21, e21, g⟩ := gInt_elim g
  obtain ⟨n, g⟩ := g
  refine loop_ok (fun n => L4.g (L4.t R n)) (b := (cAt C [true, true, true, true, false, true, false, false])) (by kernel_rfl) (fun fr h g => ?_) (fun n => D5.ok R (L4.t R n)) n fr h (gSlice_intro e0 (gInt_intro e1 (gSlice_intro e6 (gInt_intro e7 (gInt_intro e20 (gInt_intro e21 (g)))))))
  obtain ⟨a0, l0, c0, e0, g⟩ := gSlice_elim g
  obtain ⟨x1, e1, g⟩ := gInt_elim g
  obtain ⟨a6, l6, c6, e6, g⟩ := gSlice_elim g
  obtain ⟨x7, e7, g⟩ := gInt_elim g
  obtain ⟨x20, e20, g⟩ := gInt_elim g
  obtain ⟨x21, e21, g⟩ := gInt_elim g
  exact g
theorem B6.ok (R : Rt) (fr : Fr) (h : Hp) (g : L4.g (fun a0 l0 c0 x1 a6 l6 c6 x7 x20 x21 h => ∃ n, L4.t R n a0 l0 c0 x1 a6 l6 c6 x7 x20 x21 h) fr h) : den prog E (cAt C [true, true, true, true, false, true]) (Ex.then (D2.g R) (retQ E [.tmp 4, .tmp 5] R)) fr h :=
  den_block (by kernel_rfl) (L4.ok R fr h g)
def D3.t (R : Rt) (a0 : Option Addr) (l0 : Nat) (c0 : Nat) (x1 : Int) (a6 : Option Addr) (l6 : Nat) (c6 : Nat) (x7 : Int) (h : Hp) : Prop :=
  (∃ n, L4.t R n a0 l0 c0 x1 a6 l6 c6 x7 (((l0 : Nat) : Int)) 0 h)
def D3.g (R : Rt) (fr : Fr) (h : Hp) : Prop := gSlice (fr 0) fun a0 l0 c0 => gInt .u64 (fr 1) fun x1 => gSlice (fr 6) fun a6 l6 c6 => gInt .u64 (fr 7) fun x7 => D3.t R a0 l0 c0 x1 a6 l6 c6 x7 h
theorem D3.ok (R : Rt) (fr : Fr) (h : Hp) (g : D3.g R fr h) : den prog E (cAt C [true, true, true, true, false]) (Ex.then (D2.g R) (retQ E [.tmp 4, .tmp 5] R)) fr h := by
  obtain ⟨a0, l0, c0, e0, g⟩ := gSlice_elim g
  obtain ⟨x1, e1, g⟩ := gInt_elim g
  obtain ⟨a6, l6, c6, e6, g⟩ := gSlice_elim g
  obtain ⟨x7, e7, g⟩ := gInt_elim g
  exact den_cut 1 (r := (cAt C [true, true, true, true, false, true])) (by kernel_rfl) (B6.ok R) (den_enter [(0, .slice a0 l0 c0), (1, .int .u64 x1), (6, .slice a6 l6 c6), (7, .int .u64 x7)] ⟨e0, e1, e6, e7, trivial⟩ (by kernel_rfl) g)
theorem W7.ok (R : Rt) (fr : Fr) (h : Hp) (g : D3.g R fr h) : den prog E (cAt C [true, true, true, true]) (retQ E [.tmp 4, .tmp 5] R) fr h :=
  den_then (by kernel_rfl) (D2.ok R) (D3.ok R fr h g)
def D1.t (R : Rt) (a0 : Option Addr) (l0 : Nat) (c0 : Nat) (x1 : Int) (h : Hp) : Prop :=
  HC nat_Form.id #[.slice a0 l0 c0] h fun v1 h2 =>
  gBool v1 fun b_3 =>
  cond (!b_3) (R (.tuple #[.slice none 0 0, .int .i64 2]) h2) (letK (IntKind.i64.wrap ((((l0 : Nat) : Int)) + 1)) fun n4 =>
  mkK h2 23 T23 n4 n4 fun q5 h6 =>
  D3.t R a0 l0 c0 x1 (some q5) n4.toNat n4.toNat 0 h6)
def D1.g (R : Rt) (fr : Fr) (h : Hp) : Prop := gSlice (fr 0) fun a0 l0 c0 => gInt .u64 (fr 1) fun x1 => D1.t R a0 l0 c0 x1 h
theorem D1.ok (R : Rt) (fr : Fr) (h : Hp) (g : D1.g R fr h) : den prog E C (retQ E [.tmp 4, .tmp 5] R) fr h := by
  obtain ⟨a0, l0, c0, e0, g⟩ := gSlice_elim g
  obtain ⟨x1, e1, g⟩ := gInt_elim g
  exact den_cut 4 (r := (cAt C [true, true, true, true])) (by kernel_rfl) (W7.ok R) (den_enter [(0, .slice a0 l0 c0), (1, .int .u64 x1)] ⟨e0, e1, trivial⟩ (by kernel_rfl) g)
def t (a0 : Option Addr) (l0 : Nat) (c0 : Nat) (x1 : Int) (h : Hp) (R : Rt) : Prop := D1.t R a0 l0 c0 x1 h
theorem ok {a0 : Option Addr} {l0 : Nat} {c0 : Nat} {x1 : Int} {h : Hp} {R : Rt} (g : t a0 l0 c0 x1 h R) : HC id #[.slice a0 l0 c0, .int .u64 x1] h R :=
  calls_of_den' envOk (c := C) (rs := [.tmp 4, .tmp 5]) Tryd.func19 (by kernel_rfl) (by kernel_rfl) (by kernel_rfl) (args := [.slice a0 l0 c0, .int .u64 x1]) (by kernel_rfl) (D1.ok R _ h (gSlice_intro rfl (gInt_intro rfl (g))))
end nat_MulWord

namespace nat_Sub
noncomputable def C : Code := bodyOf Tryd.f20
def D3.t (R : Rt) (a6 : Option Addr) (l6 : Nat) (c6 : Nat) (h : Hp) : Prop :=
  HC nat_told.id #[.slice a6 l6 c6] h fun v12 h13 =>
  gTup v12 fun y14 =>
  uncons y14 fun v15 y15 =>
  gSlice v15 fun a_16 l_16 c_16 =>
  uncons y15 fun v17 y17 =>
  gInt .i64 v17 fun x_18 =>
  unnil y17 <| R (.tuple #[.slice a_16 l_16 c_16, .int .i64 x_18]) h13
def D3.g (R : Rt) (fr : Fr) (h : Hp) : Prop := gSlice (fr 6) fun a6 l6 c6 => D3.t R a6 l6 c6 h
theorem D3.ok (R : Rt) (fr : Fr) (h : Hp) (g : D3.g R fr h) : den prog E (cAt C [true, true, true, true, true, true]) (retQ E [.tmp 4, .tmp 5] R) fr h := by
  obtain ⟨a6, l6, c6, e6, g⟩ := gSlice_elim g
  exact den_enter [(6, .slice a6 l6 c6)] ⟨e6, trivial⟩ (by kernel_rfl) g
def L5.g (N : Option Addr → Nat → Nat → Option Addr → Nat → Nat → Option Addr → Nat → Nat → Int → Int → Int → Hp → Prop) (fr : Fr) (h : Hp) : Prop := gSlice (fr 0) fun a0 l0 c0 => gSlice (fr 1) fun a1 l1 c1 => gSlice (fr 6) fun a6 l6 c6 => gInt .u64 (fr 7) fun x7 => gInt .i64 (fr 26) fun x26 => gInt .i64 (fr 27) fun x27 => N a0 l0 c0 a1 l1 c1 a6 l6 c6 x7 x26 x27 h
def D6.t (R : Rt) (N5 : Option Addr → Nat → Nat → Option Addr → Nat → Nat → Option Addr → Nat → Nat → Int → Int → Int → Hp → Prop) (a0 : Option Addr) (l0 : Nat) (c0 : Nat) (a1 : Option Addr) (l1 : Nat) (c1 : Nat) (a6 : Option Addr) (l6 : Nat) (c6 : Nat) (x7 : Int) (x26 : Int) (x27 : Int) (h : Hp) : Prop :=
  cond (decide (x27 < x26)) (cond (decide (x27 < (((l1 : Nat) : Int)))) (idxK a1 l1 x27 1 fun q19 =>
  ldK h q19 fun v20 =>
  gInt .u64 v20 fun x_21 =>
  idxK a0 l0 x27 1 fun q22 =>
  ldK h q22 fun v23 =>
  gInt .u64 v23 fun x_24 =>
  subK x_24 x_21 x7 fun n25 m25 =>
  idxK a6 l6 x27 1 fun q26 =>
  stK h q26 (.int .u64 n25) fun h27 =>
  letK (IntKind.i64.wrap (x27 + 1)) fun n28 =>
  N5 a0 l0 c0 a1 l1 c1 a6 l6 c6 m25 x26 n28 h27) (idxK a0 l0 x27 1 fun q29 =>
  ldK h q29 fun v30 =>
  gInt .u64 v30 fun x_31 =>
  subK x_31 0 x7 fun n32 m32 =>
  idxK a6 l6 x27 1 fun q33 =>
  stK h q33 (.int .u64 n32) fun h34 =>
  letK (IntKind.i64.wrap (x27 + 1)) fun n35 =>
  N5 a0 l0 c0 a1 l1 c1 a6 l6 c6 m32 x26 n35 h34)) (D3.t R a6 l6 c6 h)
def D6.g (R : Rt) (N5 : Option Addr → Nat → Nat → Option Addr → Nat → Nat → Option Addr → Nat → Nat → Int → Int → Int → Hp → Prop) (fr : Fr) (h : Hp) : Prop := gSlice (fr 0) fun a0 l0 c0 => gSlice (fr 1) fun a1 l1 c1 => gSlice (fr 6) fun a6 l6 c6 => gInt .u64 (fr 7) fun x7 => gInt .i64 (fr 26) fun x26 => gInt .i64 (fr 27) fun x27 => D6.t R N5 a0 l0 c0 a1 l1 c1 a6 l6 c6 x7 x26 x27 h
theorem D6.ok (R : Rt) (N5 : Option Addr → Nat → Nat → Option Addr → Nat → Nat → Option Addr → Nat → Nat → Int → Int → Int → Hp → Prop) (fr : Fr) (h : Hp) (g : D6.g R N5 fr h) : den prog E (cAt C [true, true, true, true, true, false, true, false, false]) (Ex.then (L5.g N5) (Ex.inBlock 0 (Ex.then (D3.g R) (retQ E [.tmp 4, .tmp 5] R)))) fr h := by
  obtain ⟨a0, l0, c0, e0, g⟩ := gSlice_elim g
  obtain ⟨a1, l1, c1, e1, g⟩ := gSlice_elim g
  obtain ⟨a6, l6, c6, e6, g⟩ := gSlice_elim g
  obtain ⟨x7, e7, g⟩ := gInt_elim g
  obtain ⟨x26, e26, g⟩ := gInt_elim g
  obtain ⟨x27, e27, g⟩ := gInt_elim g
  exact den_enter [(0, .slice a0 l0 c0), (1, .slice a1 l1 c1), (6, .slice a6 l6 c6), (7, .int .u64 x7), (26, .int .i64 x26), (27, .int .i64 x27)] ⟨e0, e1, e6, e7, e26, e27, trivial⟩ (by kernel_rfl) g
def L5.t (R : Rt) : Nat → Option Addr → Nat → Nat → Option Addr → Nat → Nat → Option Addr → Nat → Nat → Int → Int → Int → Hp → Prop
  | 0 => fun _ _ _ _ _ _ _ _ _ _ _ _ _ => False
  | n + 1 => fun a0 l0 c0 a1 l1 c1 a6 l6 c6 x7 x26 x27 h => D6.t R (L5.t R n) a0 l0 c0 a1 l1 c1 a6 l6 c6 x7 x26 x27 h
theorem L5.ok (R : Rt) (fr : Fr) (h : Hp) (g : L5.g (fun a0 l0 c0 a1 l1 c1 a6 l6 c6 x7 x26 x27 h => ∃ n, L5.t R n a0 l0 c0 a1 l1 c1 a6 l6 c6 x7 x26 x27 h) fr h) : den prog E (cAt C [true, true, true, true, true, false, true, false]) (Ex.inBlock 0 (Ex.then (D3.g R) (retQ E [.tmp 4, .tmp 5] R))) fr h := by
  obtain ⟨a0, l0, c0, e0, g⟩ := gSlice_elim g
  obtain ⟨a1, l1, c1, e1, g⟩ := gSlice_elim g
  obtain ⟨a6, l6, c6, e6, g⟩ := gSlice_elim g
  obtain ⟨x7, e7, g⟩ := gInt_elim g
  obtain ⟨x26, e26, g⟩ := gInt_elim g
  obtain ⟨x27, e27, g⟩ := gInt_elim g
  obtain ⟨n, g⟩ := g
  refine loop_ok (fun n => L5.g (L5.t R n)) (b := (cAt C [true, true, true, true, true, false, true, false, false])) (by kernel_rfl) (fun fr h g => ?_) (fun n => D6.ok R (L5.t R n)) n fr h (gSlice_intro e0 (gSlice_intro e1 (gSlice_intro e6 (gInt_intro e7 (gInt_intro e26 (gInt_intro e27 (g)))))))
  obtain ⟨a0, l0, c0, e0, g⟩ := gSlice_elim g
  obtain ⟨a1, l1, c1, e1, g⟩ := gSlice_elim g
  obtain ⟨a6, l6, c6, e6, g⟩ := gSlice_elim g
  obtain ⟨x7, e7, g⟩ := gInt_elim g
  obtain ⟨x26, e26, g⟩ := gInt_elim g
  obtain ⟨x27, e27, g⟩ := gInt_elim g
  exact g
theorem B7.ok (R : Rt) (fr : Fr) (h : Hp) (g : L5.g (fun a0 l0 c0 a1 l1 c1 a6 l6 c6 x7 x26 x27 h => ∃ n, L5.t R n a0 l0 c0 a1 l1 c1 a6 l6 c6 x7 x26 x27 h) fr h) : den prog E (cAt C [true, true, true, true, true, false, true]) (Ex.then (D3.g R) (retQ E [.tmp 4, .tmp 5] R)) fr h :=
  den_block (by kernel_rfl) (L5.ok R fr h g)
def D4.t (R : Rt) (a0 : Option Addr) (l0 : Nat) (c0 : Nat) (a1 : Option Addr) (l1 : Nat) (c1 : Nat) (a6 : Option Addr) (l6 : Nat) (c6 : Nat) (x7 : Int) (h : Hp) : Prop :=
  (∃ n, L5.t R n a0 l0 c0 a1 l1 c1 a6 l6 c6 x7 (((l0 : Nat) : Int)) 0 h)
def D4.g (R : Rt) (fr : Fr) (h : Hp) : Prop := gSlice (fr 0) fun a0 l0 c0 => gSlice (fr 1) fun a1 l1 c1 => gSlice (fr 6) fun a6 l6 c6 => gInt .u64 (fr 7) fun x7 => D4.t R a0 l0 c0 a1 l1 c1 a6 l6 c6 x7 h
theorem D4.ok (R : Rt) (fr : Fr) (h : Hp) (g : D4.g R fr h) : den prog E (cAt C [true, true, true, true, true, false]) (Ex.then (D3.g R) (retQ E [.tmp 4, .tmp 5] R)) fr h := by
  obtain ⟨a0, l0, c0, e0, g⟩ := gSlice_elim g
  obtain ⟨a1, l1, c1, e1, g⟩ := gSlice_elim g
  obtain ⟨a6, l6, c6, e6, g⟩ := gSlice_elim g
  obtain ⟨x7, e7, g⟩ := gInt_elim g
  exact den_cut 1 (r := (cAt C [true, true, true, true, true, false, true])) (by kernel_rfl) (B7.ok R) (den_enter [(0, .slice a0 l0 c0), (1, .slice a1 l1 c1), (6, .slice a6 l6 c6), (7, .int .u64 x7)] ⟨e0, e1, e6, e7, trivial⟩ (by kernel_rfl) g)
theorem W8.ok (R : Rt) (fr : Fr) (h : Hp) (g : D4.g R fr h) : den prog E (cAt C [true, true, true, true, true]) (retQ E [.tmp 4, .tmp 5] R) fr h :=
  den_then (by kernel_rfl) (D3.ok R) (D4.ok R fr h g)
def D2.t (R : Rt) (a0 : Option Addr) (l0 : Nat) (c0 : Nat) (a1 : Option Addr) (l1 : Nat) (c1 : Nat) (h : Hp) : Prop :=
  HC nat_Cmp.id #[.slice a0 l0 c0, .slice a1 l1 c1] h fun v7 h8 =>
  gInt .i64 v7 fun x_9 =>
  cond (decide (x_9 < 0)) (R (.tuple #[.slice none 0 0, .int .i64 3]) h8) (mkK h8 23 T23 (((l0 : Nat) : Int)) (((l0 : Nat) : Int)) fun q10 h11 =>
  D4.t R a0 l0 c0 a1 l1 c1 (some q10) ((((l0 : Nat) : Int)).toNat) ((((l0 : Nat) : Int)).toNat) 0 h11)
def D2.g (R : Rt) (fr : Fr) (h : Hp) : Prop := gSlice (fr 0) fun a0 l0 c0 => gSlice (fr 1) fun a1 l1 c1 => D2.t R a0 l0 c0 a1 l1 c1 h
theorem D2.ok (R : Rt) (fr : Fr) (h : Hp) (g : D2.g R fr h) : den prog E (cAt C [true, true]) (retQ E [.tmp 4, .tmp 5] R) fr h := by
  obtain ⟨a0, l0, c0, e0, g⟩ := gSlice_elim g
  obtain ⟨a1, l1, c1, e1, g⟩ := gSlice_elim g
  exact den_cut 3 (r := (cAt C [true, true, true, true, true])) (by kernel_rfl) (W8.ok R) (den_enter [(0, .slice a0 l0 c0), (1, .slice a1 l1 c1)] ⟨e0, e1, trivial⟩ (by kernel_rfl) g)
def D1.t (R : Rt) (a0 : Option Addr) (l0 : Nat) (c0 : Nat) (a1 : Option Addr) (l1 : Nat) (c1 : Nat) (h : Hp) : Prop :=
  HC nat_Form.id #[.slice a0 l0 c0] h fun v1 h2 =>
  gBool v1 fun b_3 =>
  cond (!b_3) (R (.tuple #[.slice none 0 0, .int .i64 2]) h2) (HC nat_Form.id #[.slice a1 l1 c1] h2 fun v4 h5 =>
  gBool v4 fun b_6 =>
  cond (!b_6) (R (.tuple #[.slice none 0 0, .int .i64 2]) h5) (D2.t R a0 l0 c0 a1 l1 c1 h5))
def D1.g (R : Rt) (fr : Fr) (h : Hp) : Prop := gSlice (fr 0) fun a0 l0 c0 => gSlice (fr 1) fun a1 l1 c1 => D1.t R a0 l0 c0 a1 l1 c1 h
theorem D1.ok (R : Rt) (fr : Fr) (h : Hp) (g : D1.g R fr h) : den prog E C (retQ E [.tmp 4, .tmp 5] R) fr h := by
  obtain ⟨a0, l0, c0, e0, g⟩ := gSlice_elim g
  obtain ⟨a1, l1, c1, e1, g⟩ := gSlice_elim g
  exact den_cut 2 (r := (cAt C [true, true])) (by kernel_rfl) (D2.ok R) (den_enter [(0, .slice a0 l0 c0), (1, .slice a1 l1 c1)] ⟨e0, e1, trivial⟩ (by kernel_rfl) g)
def t (a0 : Option Addr) (l0 : Nat) (c0 : Nat) (a1 : Option Addr) (l1 : Nat) (c1 : Nat) (h : Hp) (R : Rt) : Prop := D1.t R a0 l0 c0 a1 l1 c1 h
theorem ok {a0 : Option Addr} {l0 : Nat} {c0 : Nat} {a1 : Option Addr} {l1 : Nat} {c1 : Nat} {h : Hp} {R : Rt} (g : t a0 l0 c0 a1 l1 c1 h R) : HC id #[.slice a0 l0 c0, .slice a1 l1 c1] h R :=
  calls_of_den' envOk (c := C) (rs := [.tmp 4, .tmp 5]) Tryd.func20 (by kernel_rfl) (by kernel_rfl) (by kernel_rfl) (args := [.slice a0 l0 c0, .slice a1 l1 c1]) (by kernel_rfl) (D1.ok R _ h (gSlice_intro rfl (gSlice_intro rfl (g))))
end nat_Sub

namespace piconst_around
noncomputable def C : Code := bodyOf Tryd.f21
def D1.t (R : Rt) (a0 : Option Addr) (l0 : Nat) (c0 : Nat) (x1 : Int) (h : Hp) : Prop :=
  HC nat_Word.id #[.int .u64 x1] h fun v1 h2 =>
  gSlice v1 fun a_3 l_3 c_3 =>
  HC nat_Sub.id #[.slice a0 l0 c0, .slice a_3 l_3 c_3] h2 fun v4 h5 =>
  gTup v4 fun y6 =>
  uncons y6 fun v7 y7 =>
  gSlice v7 fun a_8 l_8 c_8 =>
  uncons y7 fun v9 y9 =>
  gInt .i64 v9 fun x_10 =>
  unnil y9 <| HC nat_Word.id #[.int .u64 x1] h5 fun v11 h12 =>
  gSlice v11 fun a_13 l_13 c_13 =>
  HC nat_Add.id #[.slice a0 l0 c0, .slice a_13 l_13 c_13] h12 fun v14 h15 =>
  gTup v14 fun y16 =>
  uncons y16 fun v17 y17 =>
  gSlice v17 fun a_18 l_18 c_18 =>
  uncons y17 fun v19 y19 =>
  gInt .i64 v19 fun x_20 =>
  unnil y19 <| R (.tuple #[.slice a_8 l_8 c_8, .slice a_18 l_18 c_18]) h15
def D1.g (R : Rt) (fr : Fr) (h : Hp) : Prop := gSlice (fr 0) fun a0 l0 c0 => gInt .u64 (fr 1) fun x1 => D1.t R a0 l0 c0 x1 h
theorem D1.ok (R : Rt) (fr : Fr) (h : Hp) (g : D1.g R fr h) : den prog E C (retQ E [.tmp 4, .tmp 5] R) fr h := by
  obtain ⟨a0, l0, c0, e0, g⟩ := gSlice_elim g
  obtain ⟨x1, e1, g⟩ := gInt_elim g
  exact den_enter [(0, .slice a0 l0 c0), (1, .int .u64 x1)] ⟨e0, e1, trivial⟩ (by kernel_rfl) g
def t (a0 : Option Addr) (l0 : Nat) (c0 : Nat) (x1 : Int) (h : Hp) (R : Rt) : Prop := D1.t R a0 l0 c0 x1 h
theorem ok {a0 : Option Addr} {l0 : Nat} {c0 : Nat} {x1 : Int} {h : Hp} {R : Rt} (g : t a0 l0 c0 x1 h R) : HC id #[.slice a0 l0 c0, .int .u64 x1] h R :=
  calls_of_den' envOk (c := C) (rs := [.tmp 4, .tmp 5]) Tryd.func21 (by kernel_rfl) (by kernel_rfl) (by kernel_rfl) (args := [.slice a0 l0 c0, .int .u64 x1]) (by kernel_rfl) (D1.ok R _ h (gSlice_intro rfl (gInt_intro rfl (g))))
end piconst_around

namespace nat_Bits
noncomputable def C : Code := bodyOf Tryd.f22
def D1.t (R : Rt) (a0 : Option Addr) (l0 : Nat) (c0 : Nat) (h : Hp) : Prop :=
  HC nat_trim.id #[.slice a0 l0 c0] h fun v1 h2 =>
  gSlice v1 fun a_3 l_3 c_3 =>
  cond ((((l_3 : Nat) : Int)) == 0) (R (.int .i64 0) h2) (letK (IntKind.i64.wrap ((((l_3 : Nat) : Int)) - 1)) fun n4 =>
  letK (IntKind.i64.wrap (64 * n4)) fun n5 =>
  letK (IntKind.i64.wrap ((((l_3 : Nat) : Int)) - 1)) fun n6 =>
  idxK a_3 l_3 n6 1 fun q7 =>
  ldK h2 q7 fun v8 =>
  gInt .u64 v8 fun x_9 =>
  HC bits_Len64.id #[.int .u64 x_9] h2 fun v10 h11 =>
  gInt .i64 v10 fun x_12 =>
  letK (IntKind.i64.wrap (n5 + x_12)) fun n13 =>
  R (.int .i64 n13) h11)
def D1.g (R : Rt) (fr : Fr) (h : Hp) : Prop := gSlice (fr 0) fun a0 l0 c0 => D1.t R a0 l0 c0 h
theorem D1.ok (R : Rt) (fr : Fr) (h : Hp) (g : D1.g R fr h) : den prog E C (retQ E [.tmp 2] R) fr h := by
  obtain ⟨a0, l0, c0, e0, g⟩ := gSlice_elim g
  exact den_enter [(0, .slice a0 l0 c0)] ⟨e0, trivial⟩ (by kernel_rfl) g
def t (a0 : Option Addr) (l0 : Nat) (c0 : Nat) (h : Hp) (R : Rt) : Prop := D1.t R a0 l0 c0 h
theorem ok {a0 : Option Addr} {l0 : Nat} {c0 : Nat} {h : Hp} {R : Rt} (g : t a0 l0 c0 h R) : HC id #[.slice a0 l0 c0] h R :=
  calls_of_den' envOk (c := C) (rs := [.tmp 2]) Tryd.func22 (by kernel_rfl) (by kernel_rfl) (by kernel_rfl) (args := [.slice a0 l0 c0]) (by kernel_rfl) (D1.ok R _ h (gSlice_intro rfl (g)))
end nat_Bits

namespace nat_DivWord
noncomputable def C : Code := bodyOf Tryd.f23
def D2.t (R : Rt) (a7 : Option Addr) (l7 : Nat) (c7 : Nat) (x8 : Int) (h : Hp) : Prop :=
  HC nat_told.id #[.slice a7 l7 c7] h fun v6 h7 =>
  gTup v6 fun y8 =>
  uncons y8 fun v9 y9 =>
  gSlice v9 fun a_10 l_10 c_10 =>
  uncons y9 fun v11 y11 =>
  gInt .i64 v11 fun x_12 =>
  unnil y11 <| R (.tuple #[.slice a_10 l_10 c_10, .int .u64 x8, .int .i64 0]) h7
def D2.g (R : Rt) (fr : Fr) (h : Hp) : Prop := gSlice (fr 7) fun a7 l7 c7 => gInt .u64 (fr 8) fun x8 => D2.t R a7 l7 c7 x8 h
theorem D2.ok (R : Rt) (fr : Fr) (h : Hp) (g : D2.g R fr h) : den prog E (cAt C [true, true, true, true, true, true]) (retQ E [.tmp 4, .tmp 5, .tmp 6] R) fr h := by
  obtain ⟨a7, l7, c7, e7, g⟩ := gSlice_elim g
  obtain ⟨x8, e8, g⟩ := gInt_elim g
  exact den_enter [(7, .slice a7 l7 c7), (8, .int .u64 x8)] ⟨e7, e8, trivial⟩ (by kernel_rfl) g
def L4.g (N : Option Addr → Nat → Nat → Int → Option Addr → Nat → Nat → Int → Int → Hp → Prop) (fr : Fr) (h : Hp) : Prop := gSlice (fr 0) fun a0 l0 c0 => gInt .u64 (fr 1) fun x1 => gSlice (fr 7) fun a7 l7 c7 => gInt .u64 (fr 8) fun x8 => gInt .i64 (fr 9) fun x9 => N a0 l0 c0 x1 a7 l7 c7 x8 x9 h
def D5.t (R : Rt) (N4 : Option Addr → Nat → Nat → Int → Option Addr → Nat → Nat → Int → Int → Hp → Prop) (a0 : Option Addr) (l0 : Nat) (c0 : Nat) (x1 : Int) (a7 : Option Addr) (l7 : Nat) (c7 : Nat) (x8 : Int) (x9 : Int) (h : Hp) : Prop :=
  cond (decide (x9 ≥ 0)) (idxK a0 l0 x9 1 fun q14 =>
  ldK h q14 fun v15 =>
  gInt .u64 v15 fun x_16 =>
  HC bits_Div64.id #[.int .u64 x8, .int .u64 x_16, .int .u64 x1] h fun v17 h18 =>
  gTup v17 fun y19 =>
  uncons y19 fun v20 y20 =>
  gInt .u64 v20 fun x_21 =>
  uncons y20 fun v22 y22 =>
  gInt .u64 v22 fun x_23 =>
  unnil y22 <| idxK a7 l7 x9 1 fun q24 =>
  stK h18 q24 (.int .u64 x_21) fun h25 =>
  letK (IntKind.i64.wrap (x9 - 1)) fun n26 =>
  N4 a0 l0 c0 x1 a7 l7 c7 x_23 n26 h25) (D2.t R a7 l7 c7 x8 h)
def D5.g (R : Rt) (N4 : Option Addr → Nat → Nat → Int → Option Addr → Nat → Nat → Int → Int → Hp → Prop) (fr : Fr) (h : Hp) : Prop := gSlice (fr 0) fun a0 l0 c0 => gInt .u64 (fr 1) fun x1 => gSlice (fr 7) fun a7 l7 c7 => gInt .u64 (fr 8) fun x8 => gInt .i64 (fr 9) fun x9 => D5.t R N4 a0 l0 c0 x1 a7 l7 c7 x8 x9 h
theorem D5.ok (R : Rt) (N4 : Option Addr → Nat → Nat → Int → Option Addr → Nat → Nat → Int → Int → Hp → Prop) (fr : Fr) (h : Hp) (g : D5.g R N4 fr h) : den prog E (cAt C [true, true, true, true, true, false, true, false, false]) (Ex.then (L4.g N4) (Ex.inBlock 0 (Ex.then (D2.g R) (retQ E [.tmp 4, .tmp 5, .tmp 6] R)))) fr h := by
  obtain ⟨a0, l0, c0, e0, g⟩ := gSlice_elim g
  obtain ⟨x1, e1, g⟩ := gInt_elim g
  obtain ⟨a7, l7, c7, e7, g⟩ := gSlice_elim g
  obtain ⟨x8, e8, g⟩ := gInt_elim g
  obtain ⟨x9, e9, g⟩ := gInt_elim g
  exact den_enter [(0, .slice a0 l0 c0), (1, .int .u64 x1), (7, .slice a7 l7 c7), (8, .int .u64 x8), (9, .int .i64 x9)] ⟨e0, e1, e7, e8, e9, trivial⟩ (by kernel_rfl) g
def L4.t (R : Rt) : Nat → Option Addr → Nat → Nat → Int → Option Addr → Nat → Nat → Int → Int → Hp → Prop
  | 0 => fun _ _ _ _ _ _ _ _ _ _ => False
  | n + 1 => fun a0 l0 c0 x1 a7 l7 c7 x8 x9 h => D5.t R (L4.t R n) a0 l0 c0 x1 a7 l7 c7 x8 x9 h
theorem L4.ok (R : Rt) (fr : Fr) (h : Hp) (g : L4.g (fun a0 l0 c0 x1 a7 l7 c7 x8 x9 h => ∃ n, L4.t R n a0 l0 c0 x1 a7 l7 c7 x8 x9 h) fr h) : den prog E (cAt C [true, true, true, true, true, false, true, false]) (Ex.inBlock 0 (Ex.then (D2.g R) (retQ E [.tmp 4, .tmp 5, .tmp 6] R))) fr h := by
  obtain ⟨a0, l0, c0, e0, g⟩ := gSlice_elim g
  obtain ⟨x1, e1, g⟩ := gInt_elim g
  obtain ⟨a7, l7, c7, e7, g⟩ := gSlice_elim g
  obtain ⟨x8, e8, g⟩ := gInt_elim g
  obtain ⟨x9, e9, g⟩ := gInt_elim g
  obtain ⟨n, g⟩ := g
  refine loop_ok (fun n => L4.g (L4.t R n)) (b := (cAt C [true, true, true, true, true, false, true, false, false])) (by kernel_rfl) (fun fr h g => ?_) (fun n => D5.ok R (L4.t R n)) n fr h (gSlice_intro e0 (gInt_intro e1 (gSlice_intro e7 (gInt_intro e8 (gInt_intro e9 (g))))))
  obtain ⟨a0, l0, c0, e0, g⟩ := gSlice_elim g
  obtain ⟨x1, e1, g⟩ := gInt_elim g
  obtain ⟨a7, l7, c7, e7, g⟩ := gSlice_elim g
  obtain ⟨x8, e8, g⟩ := gInt_elim g
  obtain ⟨x9, e9, g⟩ := gInt_elim g
  exact g
theorem B6.ok (R : Rt) (fr : Fr) (h : Hp) (g : L4.g (fun a0 l0 c0 x1 a7 l7 c7 x8 x9 h => ∃ n, L4.t R n a0 l0 c0 x1 a7 l7 c7 x8 x9 h) fr h) : den prog E (cAt C [true, true, true, true, true, false, true]) (Ex.then (D2.g R) (retQ E [.tmp 4, .tmp 5, .tmp 6] R)) fr h :=
  den_block (by kernel_rfl) (L4.ok R fr h g)
def D3.t (R : Rt) (a0 : Option Addr) (l0 : Nat) (c0 : Nat) (x1 : Int) (a7 : Option Addr) (l7 : Nat) (c7 : Nat) (x8 : Int) (h : Hp) : Prop :=
  letK (IntKind.i64.wrap ((((l0 : Nat) : Int)) - 1)) fun n13 => (∃ n, L4.t R n a0 l0 c0 x1 a7 l7 c7 x8 n13 h)
def D3.g (R : Rt) (fr : Fr) (h : Hp) : Prop := gSlice (fr 0) fun a0 l0 c0 => gInt .u64 (fr 1) fun x1 => gSlice (fr 7) fun a7 l7 c7 => gInt .u64 (fr 8) fun x8 => D3.t R a0 l0 c0 x1 a7 l7 c7 x8 h
theorem D3.ok (R : Rt) (fr : Fr) (h : Hp) (g : D3.g R fr h) : den prog E (cAt C [true, true, true, true, true, false]) (Ex.then (D2.g R) (retQ E [.tmp 4, .tmp 5, .tmp 6] R)) fr h := by
  obtain ⟨a0, l0, c0, e0, g⟩ := gSlice_elim g
  obtain ⟨x1, e1, g⟩ := gInt_elim g
  obtain ⟨a7, l7, c7, e7, g⟩ := gSlice_elim g
  obtain ⟨x8, e8, g⟩ := gInt_elim g
  exact den_cut 1 (r := (cAt C [true, true, true, true, true, false, true])) (by kernel_rfl) (B6.ok R) (den_enter [(0, .slice a0 l0 c0), (1, .int .u64 x1), (7, .slice a7 l7 c7), (8, .int .u64 x8)] ⟨e0, e1, e7, e8, trivial⟩ (by kernel_rfl) g)
theorem W7.ok (R : Rt) (fr : Fr) (h : Hp) (g : D3.g R fr h) : den prog E (cAt C [true, true, true, true, true]) (retQ E [.tmp 4, .tmp 5, .tmp 6] R) fr h :=
  den_then (by kernel_rfl) (D2.ok R) (D3.ok R fr h g)
def D1.t (R : Rt) (a0 : Option Addr) (l0 : Nat) (c0 : Nat) (x1 : Int) (h : Hp) : Prop :=
  HC nat_Form.id #[.slice a0 l0 c0] h fun v1 h2 =>
  gBool v1 fun b_3 =>
  cond (!b_3) (R (.tuple #[.slice none 0 0, .int .u64 0, .int .i64 2]) h2) (cond (x1 == 0) (R (.tuple #[.slice none 0 0, .int .u64 0, .int .i64 4]) h2) (mkK h2 23 T23 (((l0 : Nat) : Int)) (((l0 : Nat) : Int)) fun q4 h5 =>
  D3.t R a0 l0 c0 x1 (some q4) ((((l0 : Nat) : Int)).toNat) ((((l0 : Nat) : Int)).toNat) 0 h5))
def D1.g (R : Rt) (fr : Fr) (h : Hp) : Prop := gSlice (fr 0) fun a0 l0 c0 => gInt .u64 (fr 1) fun x1 => D1.t R a0 l0 c0 x1 h
theorem D1.ok (R : Rt) (fr : Fr) (h : Hp) (g : D1.g R fr h) : den prog E C (retQ E [.tmp 4, .tmp 5, .tmp 6] R) fr h := by
  obtain ⟨a0, l0, c0, e0, g⟩ := gSlice_elim g
  obtain ⟨x1, e1, g⟩ := gInt_elim g
  exact den_cut 5 (r := (cAt C [true, true, true, true, true])) (by kernel_rfl) (W7.ok R) (den_enter [(0, .slice a0 l0 c0), (1, .int .u64 x1)] ⟨e0, e1, trivial⟩ (by kernel_rfl) g)
def t (a0 : Option Addr) (l0 : Nat) (c0 : Nat) (x1 : Int) (h : Hp) (R : Rt) : Prop := D1.t R a0 l0 c0 x1 h
theorem ok {a0 : Option Addr} {l0 : Nat} {c0 : Nat} {x1 : Int} {h : Hp} {R : Rt} (g : t a0 l0 c0 x1 h R) : HC id #[.slice a0 l0 c0, .int .u64 x1] h R :=
  calls_of_den' envOk (c := C) (rs := [.tmp 4, .tmp 5, .tmp 6]) Tryd.func23 (by kernel_rfl) (by kernel_rfl) (by kernel_rfl) (args := [.slice a0 l0 c0, .int .u64 x1]) (by kernel_rfl) (D1.ok R _ h (gSlice_intro rfl (gInt_intro rfl (g))))
end nat_DivWord

namespace bits_LeadingZeros64
noncomputable def C : Code := bodyOf Tryd.f24
def D1.t (R : Rt) (x0 : Int) (h : Hp) : Prop :=
  HC bits_Len64.id #[.int .u64 x0] h fun v1 h2 =>
  gInt .i64 v1 fun x_3 =>
  letK (IntKind.i64.wrap (64 - x_3)) fun n4 =>
  R (.int .i64 n4) h2
def D1.g (R : Rt) (fr : Fr) (h : Hp) : Prop := gInt .u64 (fr 0) fun x0 => D1.t R x0 h
theorem D1.ok (R : Rt) (fr : Fr) (h : Hp) (g : D1.g R fr h) : den prog E C (retQ E [.tmp 2] R) fr h := by
  obtain ⟨x0, e0, g⟩ := gInt_elim g
  exact den_enter [(0, .int .u64 x0)] ⟨e0, trivial⟩ (by kernel_rfl) g
def t (x0 : Int) (h : Hp) (R : Rt) : Prop := D1.t R x0 h
theorem ok {x0 : Int} {h : Hp} {R : Rt} (g : t x0 h R) : HC id #[.int .u64 x0] h R :=
  calls_of_den' envOk (c := C) (rs := [.tmp 2]) Tryd.func24 (by kernel_rfl) (by kernel_rfl) (by kernel_rfl) (args := [.int .u64 x0]) (by kernel_rfl) (D1.ok R _ h (gInt_intro rfl (g)))
end bits_LeadingZeros64

namespace natdiv_shifted
noncomputable def C : Code := bodyOf Tryd.f25
def D2.t (R : Rt) (a7 : Option Addr) (l7 : Nat) (c7 : Nat) (h : Hp) : Prop :=
  R (.slice a7 l7 c7) h
def D2.g (R : Rt) (fr : Fr) (h : Hp) : Prop := gSlice (fr 7) fun a7 l7 c7 => D2.t R a7 l7 c7 h
theorem D2.ok (R : Rt) (fr : Fr) (h : Hp) (g : D2.g R fr h) : den prog E (cAt C [true, true, true, true, true, true]) (retQ E [.tmp 6] R) fr h := by
  obtain ⟨a7, l7, c7, e7, g⟩ := gSlice_elim g
  exact den_enter [(7, .slice a7 l7 c7)] ⟨e7, trivial⟩ (by kernel_rfl) g
def L4.g (N : Int → Option Addr → Nat → Nat → Int → Int → Int → Hp → Prop) (fr : Fr) (h : Hp) : Prop := gInt .i64 (fr 1) fun x1 => gSlice (fr 7) fun a7 l7 c7 => gInt .u64 (fr 8) fun x8 => gInt .i64 (fr 19) fun x19 => gInt .i64 (fr 20) fun x20 => N x1 a7 l7 c7 x8 x19 x20 h
def D5.t (R : Rt) (N4 : Int → Option Addr → Nat → Nat → Int → Int → Int → Hp → Prop) (x1 : Int) (a7 : Option Addr) (l7 : Nat) (c7 : Nat) (x8 : Int) (x19 : Int) (x20 : Int) (h : Hp) : Prop :=
  cond (decide (x20 < x19)) (idxK a7 l7 x20 1 fun q4 =>
  ldK h q4 fun v5 =>
  gInt .u64 v5 fun x_6 =>
  0 ≤ x1 ∧ letK (shlI .u64 x_6 x1) fun n7 =>
  letK (orI .u64 n7 x8) fun n8 =>
  idxK a7 l7 x20 1 fun q9 =>
  ldK h q9 fun v10 =>
  gInt .u64 v10 fun x_11 =>
  letK (IntKind.i64.wrap (64 - x1)) fun n12 =>
  0 ≤ n12 ∧ letK (shrI .u64 x_11 n12) fun n13 =>
  idxK a7 l7 x20 1 fun q14 =>
  stK h q14 (.int .u64 n8) fun h15 =>
  letK (IntKind.i64.wrap (x20 + 1)) fun n16 =>
  N4 x1 a7 l7 c7 n13 x19 n16 h15) (D2.t R a7 l7 c7 h)
def D5.g (R : Rt) (N4 : Int → Option Addr → Nat → Nat → Int → Int → Int → Hp → Prop) (fr : Fr) (h : Hp) : Prop := gInt .i64 (fr 1) fun x1 => gSlice (fr 7) fun a7 l7 c7 => gInt .u64 (fr 8) fun x8 => gInt .i64 (fr 19) fun x19 => gInt .i64 (fr 20) fun x20 => D5.t R N4 x1 a7 l7 c7 x8 x19 x20 h
theorem D5.ok (R : Rt) (N4 : Int → Option Addr → Nat → Nat → Int → Int → Int → Hp → Prop) (fr : Fr) (h : Hp) (g : D5.g R N4 fr h) : den prog E (cAt C [true, true, true, true, true, false, true, false, false]) (Ex.then (L4.g N4) (Ex.inBlock 0 (Ex.then (D2.g R) (retQ E [.tmp 6] R)))) fr h := by
  obtain ⟨x1, e1, g⟩ := gInt_elim g
  obtain ⟨a7, l7, c7, e7, g⟩ := gSlice_elim g
  obtain ⟨x8, e8, g⟩ := gInt_elim g
  obtain ⟨x19, e19, g⟩ := gInt_elim g
  obtain ⟨x20, e20, g⟩ := gInt_elim g
  exact den_enter [(1, .int .i64 x1), (7, .slice a7 l7 c7), (8, .int .u64 x8), (19, .int .i64 x19), (20, .int .i64 x20)] ⟨e1, e7, e8, e19, e20, trivial⟩ (by kernel_rfl) g
def L4.t (R : Rt) : Nat → Int → Option Addr → Nat → Nat → Int → Int → Int → Hp → Prop
  | 0 => fun _ _ _ _ _ _ _ _ => False
  | n + 1 => fun x1 a7 l7 c7 x8 x19 x20 h => D5.t R (L4.t R n) x1 a7 l7 c7 x8 x19 x20 h
theorem L4.ok (R : Rt) (fr : Fr) (h : Hp) (g : L4.g (fun x1 a7 l7 c7 x8 x19 x20 h => ∃ n, L4.t R n x1 a7 l7 c7 x8 x19 x20 h) fr h) : den prog E (cAt C [true, true, true, true, true, false, true, false]) (Ex.inBlock 0 (Ex.then (D2.g R) (retQ E [.tmp 6] R))) fr h := by
  obtain ⟨x1, e1, g⟩ := gInt_elim g
  obtain ⟨a7, l7, c7, e7, g⟩ := gSlice_elim g
  obtain ⟨x8, e8, g⟩ := gInt_elim g
  obtain ⟨x19, e19, g⟩ := gInt_elim g
  obtain ⟨x20, e20, g⟩ := gInt_elim g
  obtain ⟨n, g⟩ := g
  refine loop_ok (fun n => L4.g (L4.t R n)) (b := (cAt C [true, true, true, true, true, false, true, false, false])) (by kernel_rfl) (fun fr h g => ?_) (fun n => D5.ok R (L4.t R n)) n fr h (gInt_intro e1 (gSlice_intro e7 (gInt_intro e8 (gInt_intro e19 (gInt_intro e20 (g))))))
  obtain ⟨x1, e1, g⟩ := gInt_elim g
  obtain ⟨a7, l7, c7, e7, g⟩ := gSlice_elim g
  obtain ⟨x8, e8, g⟩ := gInt_elim g
  obtain ⟨x19, e19, g⟩ := gInt_elim g
  obtain ⟨x20, e20, g⟩ := gInt_elim g
  exact g
theorem B6.ok (R : Rt) (fr : Fr) (h : Hp) (g : L4.g (fun x1 a7 l7 c7 x8 x19 x20 h => ∃ n, L4.t R n x1 a7 l7 c7 x8 x19 x20 h) fr h) : den prog E (cAt C [true, true, true, true, true, false, true]) (Ex.then (D2.g R) (retQ E [.tmp 6] R)) fr h :=
  den_block (by kernel_rfl) (L4.ok R fr h g)
def D3.t (R : Rt) (x1 : Int) (a7 : Option Addr) (l7 : Nat) (c7 : Nat) (x8 : Int) (h : Hp) : Prop :=
  (∃ n, L4.t R n x1 a7 l7 c7 x8 (((l7 : Nat) : Int)) 0 h)
def D3.g (R : Rt) (fr : Fr) (h : Hp) : Prop := gInt .i64 (fr 1) fun x1 => gSlice (fr 7) fun a7 l7 c7 => gInt .u64 (fr 8) fun x8 => D3.t R x1 a7 l7 c7 x8 h
theorem D3.ok (R : Rt) (fr : Fr) (h : Hp) (g : D3.g R fr h) : den prog E (cAt C [true, true, true, true, true, false]) (Ex.then (D2.g R) (retQ E [.tmp 6] R)) fr h := by
  obtain ⟨x1, e1, g⟩ := gInt_elim g
  obtain ⟨a7, l7, c7, e7, g⟩ := gSlice_elim g
  obtain ⟨x8, e8, g⟩ := gInt_elim g
  exact den_cut 1 (r := (cAt C [true, true, true, true, true, false, true])) (by kernel_rfl) (B6.ok R) (den_enter [(1, .int .i64 x1), (7, .slice a7 l7 c7), (8, .int .u64 x8)] ⟨e1, e7, e8, trivial⟩ (by kernel_rfl) g)
theorem W7.ok (R : Rt) (fr : Fr) (h : Hp) (g : D3.g R fr h) : den prog E (cAt C [true, true, true, true, true]) (retQ E [.tmp 6] R) fr h :=
  den_then (by kernel_rfl) (D2.ok R) (D3.ok R fr h g)
def D1.t (R : Rt) (a0 : Option Addr) (l0 : Nat) (c0 : Nat) (x1 : Int) (x2 : Int) (h : Hp) : Prop :=
  mkK h 23 T23 x2 x2 fun q1 h2 =>
  cpK h2 1 (some q1) x2.toNat (.slice a0 l0 c0) fun n3 h3 =>
  cond (x1 == 0) (R (.slice (some q1) x2.toNat x2.toNat) h3) (D3.t R x1 (some q1) x2.toNat x2.toNat 0 h3)
def D1.g (R : Rt) (fr : Fr) (h : Hp) : Prop := gSlice (fr 0) fun a0 l0 c0 => gInt .i64 (fr 1) fun x1 => gInt .i64 (fr 2) fun x2 => D1.t R a0 l0 c0 x1 x2 h
theorem D1.ok (R : Rt) (fr : Fr) (h : Hp) (g : D1.g R fr h) : den prog E C (retQ E [.tmp 6] R) fr h := by
  obtain ⟨a0, l0, c0, e0, g⟩ := gSlice_elim g
  obtain ⟨x1, e1, g⟩ := gInt_elim g
  obtain ⟨x2, e2, g⟩ := gInt_elim g
  exact den_cut 5 (r := (cAt C [true, true, true, true, true])) (by kernel_rfl) (W7.ok R) (den_enter [(0, .slice a0 l0 c0), (1, .int .i64 x1), (2, .int .i64 x2)] ⟨e0, e1, e2, trivial⟩ (by kernel_rfl) g)
def t (a0 : Option Addr) (l0 : Nat) (c0 : Nat) (x1 : Int) (x2 : Int) (h : Hp) (R : Rt) : Prop := D1.t R a0 l0 c0 x1 x2 h
theorem ok {a0 : Option Addr} {l0 : Nat} {c0 : Nat} {x1 : Int} {x2 : Int} {h : Hp} {R : Rt} (g : t a0 l0 c0 x1 x2 h R) : HC id #[.slice a0 l0 c0, .int .i64 x1, .int .i64 x2] h R :=
  calls_of_den' envOk (c := C) (rs := [.tmp 6]) Tryd.func25 (by kernel_rfl) (by kernel_rfl) (by kernel_rfl) (args := [.slice a0 l0 c0, .int .i64 x1, .int .i64 x2]) (by kernel_rfl) (D1.ok R _ h (gSlice_intro rfl (gInt_intro rfl (gInt_intro rfl (g)))))
end natdiv_shifted

namespace natdiv_long
noncomputable def C : Code := bodyOf Tryd.f26
def D3.t (R : Rt) (a6 : Option Addr) (l6 : Nat) (c6 : Nat) (h : Hp) : Prop :=
  R (.slice a6 l6 c6) h
def D3.g (R : Rt) (fr : Fr) (h : Hp) : Prop := gSlice (fr 6) fun a6 l6 c6 => D3.t R a6 l6 c6 h
theorem D3.ok (R : Rt) (fr : Fr) (h : Hp) (g : D3.g R fr h) : den prog E (cAt C [true, false, true, true, true, true]) (retQ E [.tmp 4] R) fr h := by
  obtain ⟨a6, l6, c6, e6, g⟩ := gSlice_elim g
  exact den_enter [(6, .slice a6 l6 c6)] ⟨e6, trivial⟩ (by kernel_rfl) g
def L5.g (N : Option Addr → Nat → Nat → Option Addr → Nat → Nat → Int → Option Addr → Nat → Nat → Int → Hp → Prop) (fr : Fr) (h : Hp) : Prop := gSlice (fr 0) fun a0 l0 c0 => gSlice (fr 1) fun a1 l1 c1 => gInt .i64 (fr 5) fun x5 => gSlice (fr 6) fun a6 l6 c6 => gInt .i64 (fr 7) fun x7 => N a0 l0 c0 a1 l1 c1 x5 a6 l6 c6 x7 h
def D7.t (R : Rt) (N5 : Option Addr → Nat → Nat → Option Addr → Nat → Nat → Int → Option Addr → Nat → Nat → Int → Hp → Prop) (a0 : Option Addr) (l0 : Nat) (c0 : Nat) (a1 : Option Addr) (l1 : Nat) (c1 : Nat) (x5 : Int) (a6 : Option Addr) (l6 : Nat) (c6 : Nat) (x7 : Int) (h : Hp) : Prop :=
  letK (IntKind.i64.wrap (x7 - 1)) fun n6 => N5 a0 l0 c0 a1 l1 c1 x5 a6 l6 c6 n6 h
def D7.g (R : Rt) (N5 : Option Addr → Nat → Nat → Option Addr → Nat → Nat → Int → Option Addr → Nat → Nat → Int → Hp → Prop) (fr : Fr) (h : Hp) : Prop := gSlice (fr 0) fun a0 l0 c0 => gSlice (fr 1) fun a1 l1 c1 => gInt .i64 (fr 5) fun x5 => gSlice (fr 6) fun a6 l6 c6 => gInt .i64 (fr 7) fun x7 => D7.t R N5 a0 l0 c0 a1 l1 c1 x5 a6 l6 c6 x7 h
theorem D7.ok (R : Rt) (N5 : Option Addr → Nat → Nat → Option Addr → Nat → Nat → Int → Option Addr → Nat → Nat → Int → Hp → Prop) (fr : Fr) (h : Hp) (g : D7.g R N5 fr h) : den prog E (cAt C [true, false, true, true, true, false, true, false, false, true, true]) (Ex.then (L5.g N5) (Ex.inBlock 0 (Ex.then (D3.g R) (retQ E [.tmp 4] R)))) fr h := by
  obtain ⟨a0, l0, c0, e0, g⟩ := gSlice_elim g
  obtain ⟨a1, l1, c1, e1, g⟩ := gSlice_elim g
  obtain ⟨x5, e5, g⟩ := gInt_elim g
  obtain ⟨a6, l6, c6, e6, g⟩ := gSlice_elim g
  obtain ⟨x7, e7, g⟩ := gInt_elim g
  exact den_enter [(0, .slice a0 l0 c0), (1, .slice a1 l1 c1), (5, .int .i64 x5), (6, .slice a6 l6 c6), (7, .int .i64 x7)] ⟨e0, e1, e5, e6, e7, trivial⟩ (by kernel_rfl) g
def L9.g (N : Option Addr → Nat → Nat → Option Addr → Nat → Nat → Int → Option Addr → Nat → Nat → Int → Int → Option Addr → Nat → Nat → Hp → Prop) (fr : Fr) (h : Hp) : Prop := gSlice (fr 0) fun a0 l0 c0 => gSlice (fr 1) fun a1 l1 c1 => gInt .i64 (fr 5) fun x5 => gSlice (fr 6) fun a6 l6 c6 => gInt .i64 (fr 7) fun x7 => gInt .u64 (fr 8) fun x8 => gSlice (fr 9) fun a9 l9 c9 => N a0 l0 c0 a1 l1 c1 x5 a6 l6 c6 x7 x8 a9 l9 c9 h
def D10.t (R : Rt) (N5 : Option Addr → Nat → Nat → Option Addr → Nat → Nat → Int → Option Addr → Nat → Nat → Int → Hp → Prop) (N9 : Option Addr → Nat → Nat → Option Addr → Nat → Nat → Int → Option Addr → Nat → Nat → Int → Int → Option Addr → Nat → Nat → Hp → Prop) (a0 : Option Addr) (l0 : Nat) (c0 : Nat) (a1 : Option Addr) (l1 : Nat) (c1 : Nat) (x5 : Int) (a6 : Option Addr) (l6 : Nat) (c6 : Nat) (x7 : Int) (x8 : Int) (a9 : Option Addr) (l9 : Nat) (c9 : Nat) (h : Hp) : Prop :=
  letK (IntKind.u64.wrap (x8 - 1)) fun n31 =>
  HC natdiv_giveBack.id #[.slice a9 l9 c9, .slice a1 l1 c1] h fun v32 h33 =>
  gInt .u64 v32 fun x_34 =>
  cond (x_34 == 1) (idxK a6 l6 x7 1 fun q35 =>
  stK h33 q35 (.int .u64 n31) fun h36 =>
  D7.t R N5 a0 l0 c0 a1 l1 c1 x5 a6 l6 c6 x7 h36) (N9 a0 l0 c0 a1 l1 c1 x5 a6 l6 c6 x7 n31 a9 l9 c9 h33)
def D10.g (R : Rt) (N5 : Option Addr → Nat → Nat → Option Addr → Nat → Nat → Int → Option Addr → Nat → Nat → Int → Hp → Prop) (N9 : Option Addr → Nat → Nat → Option Addr → Nat → Nat → Int → Option Addr → Nat → Nat → Int → Int → Option Addr → Nat → Nat → Hp → Prop) (fr : Fr) (h : Hp) : Prop := gSlice (fr 0) fun a0 l0 c0 => gSlice (fr 1) fun a1 l1 c1 => gInt .i64 (fr 5) fun x5 => gSlice (fr 6) fun a6 l6 c6 => gInt .i64 (fr 7) fun x7 => gInt .u64 (fr 8) fun x8 => gSlice (fr 9) fun a9 l9 c9 => D10.t R N5 N9 a0 l0 c0 a1 l1 c1 x5 a6 l6 c6 x7 x8 a9 l9 c9 h
theorem D10.ok (R : Rt) (N5 : Option Addr → Nat → Nat → Option Addr → Nat → Nat → Int → Option Addr → Nat → Nat → Int → Hp → Prop) (N9 : Option Addr → Nat → Nat → Option Addr → Nat → Nat → Int → Option Addr → Nat → Nat → Int → Int → Option Addr → Nat → Nat → Hp → Prop) (fr : Fr) (h : Hp) (g : D10.g R N5 N9 fr h) : den prog E (cAt C [true, false, true, true, true, false, true, false, false, true, false, false, true, true, true, false, false]) (Ex.then (L9.g N9) (Ex.inBlock 2 (Ex.inBlock 1 (Ex.then (D7.g R N5) (Ex.then (L5.g N5) (Ex.inBlock 0 (Ex.then (D3.g R) (retQ E [.tmp 4] R)))))))) fr h := by
  obtain ⟨a0, l0, c0, e0, g⟩ := gSlice_elim g
  obtain ⟨a1, l1, c1, e1, g⟩ := gSlice_elim g
  obtain ⟨x5, e5, g⟩ := gInt_elim g
  obtain ⟨a6, l6, c6, e6, g⟩ := gSlice_elim g
  obtain ⟨x7, e7, g⟩ := gInt_elim g
  obtain ⟨x8, e8, g⟩ := gInt_elim g
  obtain ⟨a9, l9, c9, e9, g⟩ := gSlice_elim g
  exact den_enter [(0, .slice a0 l0 c0), (1, .slice a1 l1 c1), (5, .int .i64 x5), (6, .slice a6 l6 c6), (7, .int .i64 x7), (8, .int .u64 x8), (9, .slice a9 l9 c9)] ⟨e0, e1, e5, e6, e7, e8, e9, trivial⟩ (by kernel_rfl) g
def L9.t (R : Rt) (N5 : Option Addr → Nat → Nat → Option Addr → Nat → Nat → Int → Option Addr → Nat → Nat → Int → Hp → Prop) : Nat → Option Addr → Nat → Nat → Option Addr → Nat → Nat → Int → Option Addr → Nat → Nat → Int → Int → Option Addr → Nat → Nat → Hp → Prop
  | 0 => fun _ _ _ _ _ _ _ _ _ _ _ _ _ _ _ _ => False
  | n + 1 => fun a0 l0 c0 a1 l1 c1 x5 a6 l6 c6 x7 x8 a9 l9 c9 h => D10.t R N5 (L9.t R N5 n) a0 l0 c0 a1 l1 c1 x5 a6 l6 c6 x7 x8 a9 l9 c9 h
theorem L9.ok (R : Rt) (N5 : Option Addr → Nat → Nat → Option Addr → Nat → Nat → Int → Option Addr → Nat → Nat → Int → Hp → Prop) (fr : Fr) (h : Hp) (g : L9.g (fun a0 l0 c0 a1 l1 c1 x5 a6 l6 c6 x7 x8 a9 l9 c9 h => ∃ n, L9.t R N5 n a0 l0 c0 a1 l1 c1 x5 a6 l6 c6 x7 x8 a9 l9 c9 h) fr h) : den prog E (cAt C [true, false, true, true, true, false, true, false, false, true, false, false, true, true, true, false]) (Ex.inBlock 2 (Ex.inBlock 1 (Ex.then (D7.g R N5) (Ex.then (L5.g N5) (Ex.inBlock 0 (Ex.then (D3.g R) (retQ E [.tmp 4] R))))))) fr h := by
  obtain ⟨a0, l0, c0, e0, g⟩ := gSlice_elim g
  obtain ⟨a1, l1, c1, e1, g⟩ := gSlice_elim g
  obtain ⟨x5, e5, g⟩ := gInt_elim g
  obtain ⟨a6, l6, c6, e6, g⟩ := gSlice_elim g
  obtain ⟨x7, e7, g⟩ := gInt_elim g
  obtain ⟨x8, e8, g⟩ := gInt_elim g
  obtain ⟨a9, l9, c9, e9, g⟩ := gSlice_elim g
  obtain ⟨n, g⟩ := g
  refine loop_ok (fun n => L9.g (L9.t R N5 n)) (b := (cAt C [true, false, true, true, true, false, true, false, false, true, false, false, true, true, true, false, false])) (by kernel_rfl) (fun fr h g => ?_) (fun n => D10.ok R N5 (L9.t R N5 n)) n fr h (gSlice_intro e0 (gSlice_intro e1 (gInt_intro e5 (gSlice_intro e6 (gInt_intro e7 (gInt_intro e8 (gSlice_intro e9 (g))))))))
  obtain ⟨a0, l0, c0, e0, g⟩ := gSlice_elim g
  obtain ⟨a1, l1, c1, e1, g⟩ := gSlice_elim g
  obtain ⟨x5, e5, g⟩ := gInt_elim g
  obtain ⟨a6, l6, c6, e6, g⟩ := gSlice_elim g
  obtain ⟨x7, e7, g⟩ := gInt_elim g
  obtain ⟨x8, e8, g⟩ := gInt_elim g
  obtain ⟨a9, l9, c9, e9, g⟩ := gSlice_elim g
  exact g
theorem B11.ok (R : Rt) (N5 : Option Addr → Nat → Nat → Option Addr → Nat → Nat → Int → Option Addr → Nat → Nat → Int → Hp → Prop) (fr : Fr) (h : Hp) (g : L9.g (fun a0 l0 c0 a1 l1 c1 x5 a6 l6 c6 x7 x8 a9 l9 c9 h => ∃ n, L9.t R N5 n a0 l0 c0 a1 l1 c1 x5 a6 l6 c6 x7 x8 a9 l9 c9 h) fr h) : den prog E (cAt C [true, false, true, true, true, false, true, false, false, true, false, false, true, true, true]) (Ex.inBlock 1 (Ex.then (D7.g R N5) (Ex.then (L5.g N5) (Ex.inBlock 0 (Ex.then (D3.g R) (retQ E [.tmp 4] R)))))) fr h :=
  den_block (by kernel_rfl) (L9.ok R N5 fr h g)
def D8.t (R : Rt) (N5 : Option Addr → Nat → Nat → Option Addr → Nat → Nat → Int → Option Addr → Nat → Nat → Int → Hp → Prop) (a0 : Option Addr) (l0 : Nat) (c0 : Nat) (a1 : Option Addr) (l1 : Nat) (c1 : Nat) (x5 : Int) (a6 : Option Addr) (l6 : Nat) (c6 : Nat) (x7 : Int) (h : Hp) : Prop :=
  letK (IntKind.i64.wrap (x7 + x5)) fun n7 =>
  idxK a0 l0 n7 1 fun q8 =>
  ldK h q8 fun v9 =>
  gInt .u64 v9 fun x_10 =>
  letK (IntKind.i64.wrap (x7 + x5)) fun n11 =>
  letK (IntKind.i64.wrap (n11 - 1)) fun n12 =>
  idxK a0 l0 n12 1 fun q13 =>
  ldK h q13 fun v14 =>
  gInt .u64 v14 fun x_15 =>
  letK (IntKind.i64.wrap (x5 - 1)) fun n16 =>
  idxK a1 l1 n16 1 fun q17 =>
  ldK h q17 fun v18 =>
  gInt .u64 v18 fun x_19 =>
  HC natdiv_trial.id #[.int .u64 x_10, .int .u64 x_15, .int .u64 x_19] h fun v20 h21 =>
  gInt .u64 v20 fun x_22 =>
  letK (IntKind.i64.wrap (x7 + x5)) fun n23 =>
  letK (IntKind.i64.wrap (n23 + 1)) fun n24 =>
  slK 1 a0 l0 c0 (some (.int .i64 x7)) (some (.int .i64 n24)) none fun a_25 l_25 c_25 =>
  HC natdiv_takeMul.id #[.slice a_25 l_25 c_25, .slice a1 l1 c1, .int .u64 x_22] h21 fun v26 h27 =>
  gInt .u64 v26 fun x_28 =>
  cond (x_28 == 0) (idxK a6 l6 x7 1 fun q29 =>
  stK h27 q29 (.int .u64 x_22) fun h30 =>
  D7.t R N5 a0 l0 c0 a1 l1 c1 x5 a6 l6 c6 x7 h30) ((∃ n, L9.t R N5 n a0 l0 c0 a1 l1 c1 x5 a6 l6 c6 x7 x_22 a_25 l_25 c_25 h27))
def D8.g (R : Rt) (N5 : Option Addr → Nat → Nat → Option Addr → Nat → Nat → Int → Option Addr → Nat → Nat → Int → Hp → Prop) (fr : Fr) (h : Hp) : Prop := gSlice (fr 0) fun a0 l0 c0 => gSlice (fr 1) fun a1 l1 c1 => gInt .i64 (fr 5) fun x5 => gSlice (fr 6) fun a6 l6 c6 => gInt .i64 (fr 7) fun x7 => D8.t R N5 a0 l0 c0 a1 l1 c1 x5 a6 l6 c6 x7 h
theorem D8.ok (R : Rt) (N5 : Option Addr → Nat → Nat → Option Addr → Nat → Nat → Int → Option Addr → Nat → Nat → Int → Hp → Prop) (fr : Fr) (h : Hp) (g : D8.g R N5 fr h) : den prog E (cAt C [true, false, true, true, true, false, true, false, false, true, false, false]) (Ex.inBlock 1 (Ex.then (D7.g R N5) (Ex.then (L5.g N5) (Ex.inBlock 0 (Ex.then (D3.g R) (retQ E [.tmp 4] R)))))) fr h := by
  obtain ⟨a0, l0, c0, e0, g⟩ := gSlice_elim g
  obtain ⟨a1, l1, c1, e1, g⟩ := gSlice_elim g
  obtain ⟨x5, e5, g⟩ := gInt_elim g
  obtain ⟨a6, l6, c6, e6, g⟩ := gSlice_elim g
  obtain ⟨x7, e7, g⟩ := gInt_elim g
  exact den_cut 3 (r := (cAt C [true, false, true, true, true, false, true, false, false, true, false, false, true, true, true])) (by kernel_rfl) (B11.ok R N5) (den_enter [(0, .slice a0 l0 c0), (1, .slice a1 l1 c1), (5, .int .i64 x5), (6, .slice a6 l6 c6), (7, .int .i64 x7)] ⟨e0, e1, e5, e6, e7, trivial⟩ (by kernel_rfl) g)
theorem B12.ok (R : Rt) (N5 : Option Addr → Nat → Nat → Option Addr → Nat → Nat → Int → Option Addr → Nat → Nat → Int → Hp → Prop) (fr : Fr) (h : Hp) (g : D8.g R N5 fr h) : den prog E (cAt C [true, false, true, true, true, false, true, false, false, true, false]) (Ex.then (D7.g R N5) (Ex.then (L5.g N5) (Ex.inBlock 0 (Ex.then (D3.g R) (retQ E [.tmp 4] R))))) fr h :=
  den_block (by kernel_rfl) (D8.ok R N5 fr h g)
theorem W13.ok (R : Rt) (N5 : Option Addr → Nat → Nat → Option Addr → Nat → Nat → Int → Option Addr → Nat → Nat → Int → Hp → Prop) (fr : Fr) (h : Hp) (g : D8.g R N5 fr h) : den prog E (cAt C [true, false, true, true, true, false, true, false, false, true]) (Ex.then (L5.g N5) (Ex.inBlock 0 (Ex.then (D3.g R) (retQ E [.tmp 4] R)))) fr h :=
  den_then (by kernel_rfl) (D7.ok R N5) (B12.ok R N5 fr h g)
def D6.t (R : Rt) (N5 : Option Addr → Nat → Nat → Option Addr → Nat → Nat → Int → Option Addr → Nat → Nat → Int → Hp → Prop) (a0 : Option Addr) (l0 : Nat) (c0 : Nat) (a1 : Option Addr) (l1 : Nat) (c1 : Nat) (x5 : Int) (a6 : Option Addr) (l6 : Nat) (c6 : Nat) (x7 : Int) (h : Hp) : Prop :=
  cond (decide (x7 ≥ 0)) (D8.t R N5 a0 l0 c0 a1 l1 c1 x5 a6 l6 c6 x7 h) (D3.t R a6 l6 c6 h)
def D6.g (R : Rt) (N5 : Option Addr → Nat → Nat → Option Addr → Nat → Nat → Int → Option Addr → Nat → Nat → Int → Hp → Prop) (fr : Fr) (h : Hp) : Prop := gSlice (fr 0) fun a0 l0 c0 => gSlice (fr 1) fun a1 l1 c1 => gInt .i64 (fr 5) fun x5 => gSlice (fr 6) fun a6 l6 c6 => gInt .i64 (fr 7) fun x7 => D6.t R N5 a0 l0 c0 a1 l1 c1 x5 a6 l6 c6 x7 h
theorem D6.ok (R : Rt) (N5 : Option Addr → Nat → Nat → Option Addr → Nat → Nat → Int → Option Addr → Nat → Nat → Int → Hp → Prop) (fr : Fr) (h : Hp) (g : D6.g R N5 fr h) : den prog E (cAt C [true, false, true, true, true, false, true, false, false]) (Ex.then (L5.g N5) (Ex.inBlock 0 (Ex.then (D3.g R) (retQ E [.tmp 4] R)))) fr h := by
  obtain ⟨a0, l0, c0, e0, g⟩ := gSlice_elim g
  obtain ⟨a1, l1, c1, e1, g⟩ := gSlice_elim g
  obtain ⟨x5, e5, g⟩ := gInt_elim g
  obtain ⟨a6, l6, c6, e6, g⟩ := gSlice_elim g
  obtain ⟨x7, e7, g⟩ := gInt_elim g
  exact den_cut 1 (r := (cAt C [true, false, true, true, true, false, true, false, false, true])) (by kernel_rfl) (W13.ok R N5) (den_enter [(0, .slice a0 l0 c0), (1, .slice a1 l1 c1), (5, .int .i64 x5), (6, .slice a6 l6 c6), (7, .int .i64 x7)] ⟨e0, e1, e5, e6, e7, trivial⟩ (by kernel_rfl) g)
def L5.t (R : Rt) : Nat → Option Addr → Nat → Nat → Option Addr → Nat → Nat → Int → Option Addr → Nat → Nat → Int → Hp → Prop
  | 0 => fun _ _ _ _ _ _ _ _ _ _ _ _ => False
  | n + 1 => fun a0 l0 c0 a1 l1 c1 x5 a6 l6 c6 x7 h => D6.t R (L5.t R n) a0 l0 c0 a1 l1 c1 x5 a6 l6 c6 x7 h
theorem L5.ok (R : Rt) (fr : Fr) (h : Hp) (g : L5.g (fun a0 l0 c0 a1 l1 c1 x5 a6 l6 c6 x7 h => ∃ n, L5.t R n a0 l0 c0 a1 l1 c1 x5 a6 l6 c6 x7 h) fr h) : den prog E (cAt C [true, false, true, true, true, false, true, false]) (Ex.inBlock 0 (Ex.then (D3.g R) (retQ E [.tmp 4] R))) fr h := by
  obtain ⟨a0, l0, c0, e0, g⟩ := gSlice_elim g
  obtain ⟨a1, l1, c1, e1, g⟩ := gSlice_elim g
  obtain ⟨x5, e5, g⟩ := gInt_elim g
  obtain ⟨a6, l6, c6, e6, g⟩ := gSlice_elim g
  obtain ⟨x7, e7, g⟩ := gInt_elim g
  obtain ⟨n, g⟩ := g
  refine loop_ok (fun n => L5.g (L5.t R n)) (b := (cAt C [true, false, true, true, true, false, true, false, false])) (by kernel_rfl) (fun fr h g => ?_) (fun n => D6.ok R (L5.t R n)) n fr h (gSlice_intro e0 (gSlice_intro e1 (gInt_intro e5 (gSlice_intro e6 (gInt_intro e7 (g))))))
  obtain ⟨a0, l0, c0, e0, g⟩ := gSlice_elim g
  obtain ⟨a1, l1, c1, e1, g⟩ := gSlice_elim g
  obtain ⟨x5, e5, g⟩ := gInt_elim g
  obtain ⟨a6, l6, c6, e6, g⟩ := gSlice_elim g
  obtain ⟨x7, e7, g⟩ := gInt_elim g
  exact g
theorem B14.ok (R : Rt) (fr : Fr) (h : Hp) (g : L5.g (fun a0 l0 c0 a1 l1 c1 x5 a6 l6 c6 x7 h => ∃ n, L5.t R n a0 l0 c0 a1 l1 c1 x5 a6 l6 c6 x7 h) fr h) : den prog E (cAt C [true, false, true, true, true, false, true]) (Ex.then (D3.g R) (retQ E [.tmp 4] R)) fr h :=
  den_block (by kernel_rfl) (L5.ok R fr h g)
def D4.t (R : Rt) (a0 : Option Addr) (l0 : Nat) (c0 : Nat) (a1 : Option Addr) (l1 : Nat) (c1 : Nat) (x5 : Int) (a6 : Option Addr) (l6 : Nat) (c6 : Nat) (h : Hp) : Prop :=
  letK (IntKind.i64.wrap ((((l0 : Nat) : Int)) - x5)) fun n4 =>
  letK (IntKind.i64.wrap (n4 - 1)) fun n5 =>
  (∃ n, L5.t R n a0 l0 c0 a1 l1 c1 x5 a6 l6 c6 n5 h)
def D4.g (R : Rt) (fr : Fr) (h : Hp) : Prop := gSlice (fr 0) fun a0 l0 c0 => gSlice (fr 1) fun a1 l1 c1 => gInt .i64 (fr 5) fun x5 => gSlice (fr 6) fun a6 l6 c6 => D4.t R a0 l0 c0 a1 l1 c1 x5 a6 l6 c6 h
theorem D4.ok (R : Rt) (fr : Fr) (h : Hp) (g : D4.g R fr h) : den prog E (cAt C [true, false, true, true, true, false]) (Ex.then (D3.g R) (retQ E [.tmp 4] R)) fr h := by
  obtain ⟨a0, l0, c0, e0, g⟩ := gSlice_elim g
  obtain ⟨a1, l1, c1, e1, g⟩ := gSlice_elim g
  obtain ⟨x5, e5, g⟩ := gInt_elim g
  obtain ⟨a6, l6, c6, e6, g⟩ := gSlice_elim g
  exact den_cut 1 (r := (cAt C [true, false, true, true, true, false, true])) (by kernel_rfl) (B14.ok R) (den_enter [(0, .slice a0 l0 c0), (1, .slice a1 l1 c1), (5, .int .i64 x5), (6, .slice a6 l6 c6)] ⟨e0, e1, e5, e6, trivial⟩ (by kernel_rfl) g)
theorem W15.ok (R : Rt) (fr : Fr) (h : Hp) (g : D4.g R fr h) : den prog E (cAt C [true, false, true, true, true]) (retQ E [.tmp 4] R) fr h :=
  den_then (by kernel_rfl) (D3.ok R) (D4.ok R fr h g)
def D2.t (R : Rt) (a0 : Option Addr) (l0 : Nat) (c0 : Nat) (a1 : Option Addr) (l1 : Nat) (c1 : Nat) (h : Hp) : Prop :=
  letK (IntKind.i64.wrap ((((l0 : Nat) : Int)) - (((l1 : Nat) : Int)))) fun n1 =>
  mkK h 23 T23 n1 n1 fun q2 h3 =>
  D4.t R a0 l0 c0 a1 l1 c1 (((l1 : Nat) : Int)) (some q2) n1.toNat n1.toNat h3
def D2.g (R : Rt) (fr : Fr) (h : Hp) : Prop := gSlice (fr 0) fun a0 l0 c0 => gSlice (fr 1) fun a1 l1 c1 => D2.t R a0 l0 c0 a1 l1 c1 h
theorem D2.ok (R : Rt) (fr : Fr) (h : Hp) (g : D2.g R fr h) : den prog E (cAt C [true, false]) (retQ E [.tmp 4] R) fr h := by
  obtain ⟨a0, l0, c0, e0, g⟩ := gSlice_elim g
  obtain ⟨a1, l1, c1, e1, g⟩ := gSlice_elim g
  exact den_cut 3 (r := (cAt C [true, false, true, true, true])) (by kernel_rfl) (W15.ok R) (den_enter [(0, .slice a0 l0 c0), (1, .slice a1 l1 c1)] ⟨e0, e1, trivial⟩ (by kernel_rfl) g)
theorem B16.ok (R : Rt) (fr : Fr) (h : Hp) (g : D2.g R fr h) : den prog E (cAt C [true]) (retQ E [.tmp 4] R) fr h :=
  den_scope (by kernel_rfl) (D2.ok R fr h g)
def D1.t (R : Rt) (a0 : Option Addr) (l0 : Nat) (c0 : Nat) (a1 : Option Addr) (l1 : Nat) (c1 : Nat) (h : Hp) : Prop :=
  D2.t R a0 l0 c0 a1 l1 c1 h
def D1.g (R : Rt) (fr : Fr) (h : Hp) : Prop := gSlice (fr 0) fun a0 l0 c0 => gSlice (fr 1) fun a1 l1 c1 => D1.t R a0 l0 c0 a1 l1 c1 h
theorem D1.ok (R : Rt) (fr : Fr) (h : Hp) (g : D1.g R fr h) : den prog E C (retQ E [.tmp 4] R) fr h := by
  obtain ⟨a0, l0, c0, e0, g⟩ := gSlice_elim g
  obtain ⟨a1, l1, c1, e1, g⟩ := gSlice_elim g
  exact den_cut 1 (r := (cAt C [true])) (by kernel_rfl) (B16.ok R) (den_enter [(0, .slice a0 l0 c0), (1, .slice a1 l1 c1)] ⟨e0, e1, trivial⟩ (by kernel_rfl) g)
def t (a0 : Option Addr) (l0 : Nat) (c0 : Nat) (a1 : Option Addr) (l1 : Nat) (c1 : Nat) (h : Hp) (R : Rt) : Prop := D1.t R a0 l0 c0 a1 l1 c1 h
theorem ok {a0 : Option Addr} {l0 : Nat} {c0 : Nat} {a1 : Option Addr} {l1 : Nat} {c1 : Nat} {h : Hp} {R : Rt} (g : t a0 l0 c0 a1 l1 c1 h R) : HC id #[.slice a0 l0 c0, .slice a1 l1 c1] h R :=
  calls_of_den' envOk (c := C) (rs := [.tmp 4]) Tryd.func26 (by kernel_rfl) (by kernel_rfl) (by kernel_rfl) (args := [.slice a0 l0 c0, .slice a1 l1 c1]) (by kernel_rfl) (D1.ok R _ h (gSlice_intro rfl (gSlice_intro rfl (g))))
end natdiv_long

namespace nat_Shr
noncomputable def C : Code := bodyOf Tryd.f27
def D2.t (R : Rt) (a8 : Option Addr) (l8 : Nat) (c8 : Nat) (h : Hp) : Prop :=
  HC nat_told.id #[.slice a8 l8 c8] h fun v9 h10 =>
  gTup v9 fun y11 =>
  uncons y11 fun v12 y12 =>
  gSlice v12 fun a_13 l_13 c_13 =>
  uncons y12 fun v14 y14 =>
  gInt .i64 v14 fun x_15 =>
  unnil y14 <| R (.tuple #[.slice a_13 l_13 c_13, .int .i64 x_15]) h10
def D2.g (R : Rt) (fr : Fr) (h : Hp) : Prop := gSlice (fr 8) fun a8 l8 c8 => D2.t R a8 l8 c8 h
theorem D2.ok (R : Rt) (fr : Fr) (h : Hp) (g : D2.g R fr h) : den prog E (cAt C [true, true, true, true, true, true, true]) (retQ E [.tmp 4, .tmp 5] R) fr h := by
  obtain ⟨a8, l8, c8, e8, g⟩ := gSlice_elim g
  exact den_enter [(8, .slice a8 l8 c8)] ⟨e8, trivial⟩ (by kernel_rfl) g
def L4.g (N : Option Addr → Nat → Nat → Int → Int → Option Addr → Nat → Nat → Int → Int → Hp → Prop) (fr : Fr) (h : Hp) : Prop := gSlice (fr 0) fun a0 l0 c0 => gInt .i64 (fr 6) fun x6 => gInt .i64 (fr 7) fun x7 => gSlice (fr 8) fun a8 l8 c8 => gInt .i64 (fr 29) fun x29 => gInt .i64 (fr 30) fun x30 => N a0 l0 c0 x6 x7 a8 l8 c8 x29 x30 h
def D5.t (R : Rt) (N4 : Option Addr → Nat → Nat → Int → Int → Option Addr → Nat → Nat → Int → Int → Hp → Prop) (a0 : Option Addr) (l0 : Nat) (c0 : Nat) (x6 : Int) (x7 : Int) (a8 : Option Addr) (l8 : Nat) (c8 : Nat) (x29 : Int) (x30 : Int) (h : Hp) : Prop :=
  cond (decide (x30 < x29)) (letK (IntKind.i64.wrap (x6 + x30)) fun n16 =>
  idxK a0 l0 n16 1 fun q17 =>
  ldK h q17 fun v18 =>
  gInt .u64 v18 fun x_19 =>
  0 ≤ x7 ∧ letK (shrI .u64 x_19 x7) fun n20 =>
  idxK a8 l8 x30 1 fun q21 =>
  stK h q21 (.int .u64 n20) fun h22 =>
  letK (IntKind.i64.wrap (x6 + x30)) fun n23 =>
  letK (IntKind.i64.wrap (n23 + 1)) fun n24 =>
  cond (decide (n24 < (((l0 : Nat) : Int)))) (idxK a8 l8 x30 1 fun q25 =>
  ldK h22 q25 fun v26 =>
  gInt .u64 v26 fun x_27 =>
  letK (IntKind.i64.wrap (x6 + x30)) fun n28 =>
  letK (IntKind.i64.wrap (n28 + 1)) fun n29 =>
  idxK a0 l0 n29 1 fun q30 =>
  ldK h22 q30 fun v31 =>
  gInt .u64 v31 fun x_32 =>
  0 ≤ (1 : Int) ∧ letK (shlI .u64 x_32 1) fun n33 =>
  letK (IntKind.i64.wrap (63 - x7)) fun n34 =>
  0 ≤ n34 ∧ letK (shlI .u64 n33 n34) fun n35 =>
  letK (orI .u64 x_27 n35) fun n36 =>
  idxK a8 l8 x30 1 fun q37 =>
  stK h22 q37 (.int .u64 n36) fun h38 =>
  letK (IntKind.i64.wrap (x30 + 1)) fun n39 =>
  N4 a0 l0 c0 x6 x7 a8 l8 c8 x29 n39 h38) (letK (IntKind.i64.wrap (x30 + 1)) fun n40 =>
  N4 a0 l0 c0 x6 x7 a8 l8 c8 x29 n40 h22)) (D2.t R a8 l8 c8 h)
def D5.g (R : Rt) (N4 : Option Addr → Nat → Nat → Int → Int → Option Addr → Nat → Nat → Int → Int → Hp → Prop) (fr : Fr) (h : Hp) : Prop := gSlice (fr 0) fun a0 l0 c0 => gInt .i64 (fr 6) fun x6 => gInt .i64 (fr 7) fun x7 => gSlice (fr 8) fun a8 l8 c8 => gInt .i64 (fr 29) fun x29 => gInt .i64 (fr 30) fun x30 => D5.t R N4 a0 l0 c0 x6 x7 a8 l8 c8 x29 x30 h
theorem D5.ok (R : Rt) (N4 : Option Addr → Nat → Nat → Int → Int → Option Addr → Nat → Nat → Int → Int → Hp → Prop) (fr : Fr) (h : Hp) (g : D5.g R N4 fr h) : den prog E (cAt C [true, true, true, true, true, true, false, true, false, false]) (Ex.then (L4.g N4) (Ex.inBlock 0 (Ex.then (D2.g R) (retQ E [.tmp 4, .tmp 5] R)))) fr h := by
  obtain ⟨a0, l0, c0, e0, g⟩ := gSlice_elim g
  obtain ⟨x6, e6, g⟩ := gInt_elim g
  obtain ⟨x7, e7, g⟩ := gInt_elim g
  obtain ⟨a8, l8, c8, e8, g⟩ := gSlice_elim g
  obtain ⟨x29, e29, g⟩ := gInt_elim g
  obtain ⟨x30, e30, g⟩ := gInt_elim g
  exact den_enter [(0, .slice a0 l0 c0), (6, .int .i64 x6), (7, .int .i64 x7), (8, .slice a8 l8 c8), (29, .int .i64 x29), (30, .int .i64 x30)] ⟨e0, e6, e7, e8, e29, e30, trivial⟩ (by kernel_rfl) g
def L4.t (R : Rt) : Nat → Option Addr → Nat → Nat → Int → Int → Option Addr → Nat → Nat → Int → Int → Hp → Prop
  | 0 => fun _ _ _ _ _ _ _ _ _ _ _ => False
  | n + 1 => fun a0 l0 c0 x6 x7 a8 l8 c8 x29 x30 h => D5.t R (L4.t R n) a0 l0 c0 x6 x7 a8 l8 c8 x29 x30 h
theorem L4.ok (R : Rt) (fr : Fr) (h : Hp) (g : L4.g (fun a0 l0 c0 x6 x7 a8 l8 c8 x29 x30 h => ∃ n, L4.t R n a0 l0 c0 x6 x7 a8 l8 c8 x29 x30 h) fr h) : den prog E (cAt C [true, true, true, true, true, true, false, true, false]) (Ex.inBlock 0 (Ex.then (D2.g R) (retQ E [.tmp 4, .tmp 5] R))) fr h := by
  obtain ⟨a0, l0, c0, e0, g⟩ := gSlice_elim g
  obtain ⟨x6, e6, g⟩ := gInt_elim g
  obtain ⟨x7, e7, g⟩ := gInt_elim g
  obtain ⟨a8, l8, c8, e8, g⟩ := gSlice_elim g
  obtain ⟨x29, e29, g⟩ := gInt_elim g
  obtain ⟨x30, e30, g⟩ := gInt_elim g
  obtain ⟨n, g⟩ := g
  refine loop_ok (fun n => L4.g (L4.t R n)) (b := (cAt C [true, true, true, true, true, true, false, true, false, false])) (by kernel_rfl) (fun fr h g => ?_) (fun n => D5.ok R (L4.t R n)) n fr h (gSlice_intro e0 (gInt_intro e6 (gInt_intro e7 (gSlice_intro e8 (gInt_intro e29 (gInt_intro e30 (g)))))))
  obtain ⟨a0, l0, c0, e0, g⟩ := gSlice_elim g
  obtain ⟨x6, e6, g⟩ := gInt_elim g
  obtain ⟨x7, e7, g⟩ := gInt_elim g
  obtain ⟨a8, l8, c8, e8, g⟩ := gSlice_elim g
  obtain ⟨x29, e29, g⟩ := gInt_elim g
  obtain ⟨x30, e30, g⟩ := gInt_elim g
  exact g
theorem B6.ok (R : Rt) (fr : Fr) (h : Hp) (g : L4.g (fun a0 l0 c0 x6 x7 a8 l8 c8 x29 x30 h => ∃ n, L4.t R n a0 l0 c0 x6 x7 a8 l8 c8 x29 x30 h) fr h) : den prog E (cAt C [true, true, true, true, true, true, false, true]) (Ex.then (D2.g R) (retQ E [.tmp 4, .tmp 5] R)) fr h :=
  den_block (by kernel_rfl) (L4.ok R fr h g)
def D3.t (R : Rt) (a0 : Option Addr) (l0 : Nat) (c0 : Nat) (x6 : Int) (x7 : Int) (a8 : Option Addr) (l8 : Nat) (c8 : Nat) (h : Hp) : Prop :=
  (∃ n, L4.t R n a0 l0 c0 x6 x7 a8 l8 c8 (((l8 : Nat) : Int)) 0 h)
def D3.g (R : Rt) (fr : Fr) (h : Hp) : Prop := gSlice (fr 0) fun a0 l0 c0 => gInt .i64 (fr 6) fun x6 => gInt .i64 (fr 7) fun x7 => gSlice (fr 8) fun a8 l8 c8 => D3.t R a0 l0 c0 x6 x7 a8 l8 c8 h
theorem D3.ok (R : Rt) (fr : Fr) (h : Hp) (g : D3.g R fr h) : den prog E (cAt C [true, true, true, true, true, true, false]) (Ex.then (D2.g R) (retQ E [.tmp 4, .tmp 5] R)) fr h := by
  obtain ⟨a0, l0, c0, e0, g⟩ := gSlice_elim g
  obtain ⟨x6, e6, g⟩ := gInt_elim g
  obtain ⟨x7, e7, g⟩ := gInt_elim g
  obtain ⟨a8, l8, c8, e8, g⟩ := gSlice_elim g
  exact den_cut 1 (r := (cAt C [true, true, true, true, true, true, false, true])) (by kernel_rfl) (B6.ok R) (den_enter [(0, .slice a0 l0 c0), (6, .int .i64 x6), (7, .int .i64 x7), (8, .slice a8 l8 c8)] ⟨e0, e6, e7, e8, trivial⟩ (by kernel_rfl) g)
theorem W7.ok (R : Rt) (fr : Fr) (h : Hp) (g : D3.g R fr h) : den prog E (cAt C [true, true, true, true, true, true]) (retQ E [.tmp 4, .tmp 5] R) fr h :=
  den_then (by kernel_rfl) (D2.ok R) (D3.ok R fr h g)
def D1.t (R : Rt) (a0 : Option Addr) (l0 : Nat) (c0 : Nat) (x1 : Int) (h : Hp) : Prop :=
  cond (decide (x1 < 0)) (R (.tuple #[.slice none 0 0, .int .i64 1]) h) (HC nat_Form.id #[.slice a0 l0 c0] h fun v1 h2 =>
  gBool v1 fun b_3 =>
  cond (!b_3) (R (.tuple #[.slice none 0 0, .int .i64 2]) h2) ((64 : Int) ≠ 0 ∧ letK (IntKind.i64.wrap (Int.tdiv x1 64)) fun n4 =>
  (64 : Int) ≠ 0 ∧ letK (Int.tmod x1 64) fun n5 =>
  cond (decide (n4 ≥ (((l0 : Nat) : Int)))) (R (.tuple #[.slice none 0 0, .int .i64 0]) h2) (letK (IntKind.i64.wrap ((((l0 : Nat) : Int)) - n4)) fun n6 =>
  mkK h2 23 T23 n6 n6 fun q7 h8 =>
  D3.t R a0 l0 c0 n4 n5 (some q7) n6.toNat n6.toNat h8)))
def D1.g (R : Rt) (fr : Fr) (h : Hp) : Prop := gSlice (fr 0) fun a0 l0 c0 => gInt .i64 (fr 1) fun x1 => D1.t R a0 l0 c0 x1 h
theorem D1.ok (R : Rt) (fr : Fr) (h : Hp) (g : D1.g R fr h) : den prog E C (retQ E [.tmp 4, .tmp 5] R) fr h := by
  obtain ⟨a0, l0, c0, e0, g⟩ := gSlice_elim g
  obtain ⟨x1, e1, g⟩ := gInt_elim g
  exact den_cut 6 (r := (cAt C [true, true, true, true, true, true])) (by kernel_rfl) (W7.ok R) (den_enter [(0, .slice a0 l0 c0), (1, .int .i64 x1)] ⟨e0, e1, trivial⟩ (by kernel_rfl) g)
def t (a0 : Option Addr) (l0 : Nat) (c0 : Nat) (x1 : Int) (h : Hp) (R : Rt) : Prop := D1.t R a0 l0 c0 x1 h
theorem ok {a0 : Option Addr} {l0 : Nat} {c0 : Nat} {x1 : Int} {h : Hp} {R : Rt} (g : t a0 l0 c0 x1 h R) : HC id #[.slice a0 l0 c0, .int .i64 x1] h R :=
  calls_of_den' envOk (c := C) (rs := [.tmp 4, .tmp 5]) Tryd.func27 (by kernel_rfl) (by kernel_rfl) (by kernel_rfl) (args := [.slice a0 l0 c0, .int .i64 x1]) (by kernel_rfl) (D1.ok R _ h (gSlice_intro rfl (gInt_intro rfl (g))))
end nat_Shr

namespace nat_Add
noncomputable def C : Code := bodyOf Tryd.f28
def D4.t (R : Rt) (a0 : Option Addr) (l0 : Nat) (c0 : Nat) (a6 : Option Addr) (l6 : Nat) (c6 : Nat) (x7 : Int) (h : Hp) : Prop :=
  idxK a6 l6 (((l0 : Nat) : Int)) 1 fun q10 =>
  stK h q10 (.int .u64 x7) fun h11 =>
  HC nat_told.id #[.slice a6 l6 c6] h11 fun v12 h13 =>
  gTup v12 fun y14 =>
  uncons y14 fun v15 y15 =>
  gSlice v15 fun a_16 l_16 c_16 =>
  uncons y15 fun v17 y17 =>
  gInt .i64 v17 fun x_18 =>
  unnil y17 <| R (.tuple #[.slice a_16 l_16 c_16, .int .i64 x_18]) h13
def D4.g (R : Rt) (fr : Fr) (h : Hp) : Prop := gSlice (fr 0) fun a0 l0 c0 => gSlice (fr 6) fun a6 l6 c6 => gInt .u64 (fr 7) fun x7 => D4.t R a0 l0 c0 a6 l6 c6 x7 h
theorem D4.ok (R : Rt) (fr : Fr) (h : Hp) (g : D4.g R fr h) : den prog E (cAt C [true, true, true, true, true, true]) (retQ E [.tmp 4, .tmp 5] R) fr h := by
  obtain ⟨a0, l0, c0, e0, g⟩ := gSlice_elim g
  obtain ⟨a6, l6, c6, e6, g⟩ := gSlice_elim g
  obtain ⟨x7, e7, g⟩ := gInt_elim g
  exact den_enter [(0, .slice a0 l0 c0), (6, .slice a6 l6 c6), (7, .int .u64 x7)] ⟨e0, e6, e7, trivial⟩ (by kernel_rfl) g
def L6.g (N : Option Addr → Nat → Nat → Option Addr → Nat → Nat → Option Addr → Nat → Nat → Int → Int → Int → Hp → Prop) (fr : Fr) (h : Hp) : Prop := gSlice (fr 0) fun a0 l0 c0 => gSlice (fr 1) fun a1 l1 c1 => gSlice (fr 6) fun a6 l6 c6 => gInt .u64 (fr 7) fun x7 => gInt .i64 (fr 30) fun x30 => gInt .i64 (fr 31) fun x31 => N a0 l0 c0 a1 l1 c1 a6 l6 c6 x7 x30 x31 h
def D7.t (R : Rt) (N6 : Option Addr → Nat → Nat → Option Addr → Nat → Nat → Option Addr → Nat → Nat → Int → Int → Int → Hp → Prop) (a0 : Option Addr) (l0 : Nat) (c0 : Nat) (a1 : Option Addr) (l1 : Nat) (c1 : Nat) (a6 : Option Addr) (l6 : Nat) (c6 : Nat) (x7 : Int) (x30 : Int) (x31 : Int) (h : Hp) : Prop :=
  cond (decide (x31 < x30)) (cond (decide (x31 < (((l1 : Nat) : Int)))) (idxK a1 l1 x31 1 fun q19 =>
  ldK h q19 fun v20 =>
  gInt .u64 v20 fun x_21 =>
  idxK a0 l0 x31 1 fun q22 =>
  ldK h q22 fun v23 =>
  gInt .u64 v23 fun x_24 =>
  addK x_24 x_21 x7 fun n25 m25 =>
  idxK a6 l6 x31 1 fun q26 =>
  stK h q26 (.int .u64 n25) fun h27 =>
  letK (IntKind.i64.wrap (x31 + 1)) fun n28 =>
  N6 a0 l0 c0 a1 l1 c1 a6 l6 c6 m25 x30 n28 h27) (idxK a0 l0 x31 1 fun q29 =>
  ldK h q29 fun v30 =>
  gInt .u64 v30 fun x_31 =>
  addK x_31 0 x7 fun n32 m32 =>
  idxK a6 l6 x31 1 fun q33 =>
  stK h q33 (.int .u64 n32) fun h34 =>
  letK (IntKind.i64.wrap (x31 + 1)) fun n35 =>
  N6 a0 l0 c0 a1 l1 c1 a6 l6 c6 m32 x30 n35 h34)) (D4.t R a0 l0 c0 a6 l6 c6 x7 h)
def D7.g (R : Rt) (N6 : Option Addr → Nat → Nat → Option Addr → Nat → Nat → Option Addr → Nat → Nat → Int → Int → Int → Hp → Prop) (fr : Fr) (h : Hp) : Prop := gSlice (fr 0) fun a0 l0 c0 => gSlice (fr 1) fun a1 l1 c1 => gSlice (fr 6) fun a6 l6 c6 => gInt .u64 (fr 7) fun x7 => gInt .i64 (fr 30) fun x30 => gInt .i64 (fr 31) fun x31 => D7.t R N6 a0 l0 c0 a1 l1 c1 a6 l6 c6 x7 x30 x31 h
theorem D7.ok (R : Rt) (N6 : Option Addr → Nat → Nat → Option Addr → Nat → Nat → Option Addr → Nat → Nat → Int → Int → Int → Hp → Prop) (fr : Fr) (h : Hp) (g : D7.g R N6 fr h) : den prog E (cAt C [true, true, true, true, true, false, true, false, false]) (Ex.then (L6.g N6) (Ex.inBlock 0 (Ex.then (D4.g R) (retQ E [.tmp 4, .tmp 5] R)))) fr h := by
  obtain ⟨a0, l0, c0, e0, g⟩ := gSlice_elim g
  obtain ⟨a1, l1, c1, e1, g⟩ := gSlice_elim g
  obtain ⟨a6, l6, c6, e6, g⟩ := gSlice_elim g
  obtain ⟨x7, e7, g⟩ := gInt_elim g
  obtain ⟨x30, e30, g⟩ := gInt_elim g
  obtain ⟨x31, e31, g⟩ := gInt_elim g
  exact den_enter [(0, .slice a0 l0 c0), (1, .slice a1 l1 c1), (6, .slice a6 l6 c6), (7, .int .u64 x7), (30, .int .i64 x30), (31, .int .i64 x31)] ⟨e0, e1, e6, e7, e30, e31, trivial⟩ (by kernel_rfl) g
def L6.t (R : Rt) : Nat → Option Addr → Nat → Nat → Option Addr → Nat → Nat → Option Addr → Nat → Nat → Int → Int → Int → Hp → Prop
  | 0 => fun _ _ _ _ _ _ _ _ _ _ _ _ _ => False
  | n + 1 => fun a0 l0 c0 a1 l1 c1 a6 l6 c6 x7 x30 x31 h => D7.t R (L6.t R n) a0 l0 c0 a1 l1 c1 a6 l6 c6 x7 x30 x31 h
theorem L6.ok (R : Rt) (fr : Fr) (h : Hp) (g : L6.g (fun a0 l0 c0 a1 l1 c1 a6 l6 c6 x7 x30 x31 h => ∃ n, L6.t R n a0 l0 c0 a1 l1 c1 a6 l6 c6 x7 x30 x31 h) fr h) : den prog E (cAt C [true, true, true, true, true, false, true, false]) (Ex.inBlock 0 (Ex.then (D4.g R) (retQ E [.tmp 4, .tmp 5] R))) fr h := by
  obtain ⟨a0, l0, c0, e0, g⟩ := gSlice_elim g
  obtain ⟨a1, l1, c1, e1, g⟩ := gSlice_elim g
  obtain ⟨a6, l6, c6, e6, g⟩ := gSlice_elim g
  obtain ⟨x7, e7, g⟩ := gInt_elim g
  obtain ⟨x30, e30, g⟩ := gInt_elim g
  obtain ⟨x31, e31, g⟩ := gInt_elim g
  obtain ⟨n, g⟩ := g
  refine loop_ok (fun n => L6.g (L6.t R n)) (b := (cAt C [true, true, true, true, true, false, true, false, false])) (by kernel_rfl) (fun fr h g => ?_) (fun n => D7.ok R (L6.t R n)) n fr h (gSlice_intro e0 (gSlice_intro e1 (gSlice_intro e6 (gInt_intro e7 (gInt_intro e30 (gInt_intro e31 (g)))))))
  obtain ⟨a0, l0, c0, e0, g⟩ := gSlice_elim g
  obtain ⟨a1, l1, c1, e1, g⟩ := gSlice_elim g
  obtain ⟨a6, l6, c6, e6, g⟩ := gSlice_elim g
  obtain ⟨x7, e7, g⟩ := gInt_elim g
  obtain ⟨x30, e30, g⟩ := gInt_elim g
  obtain ⟨x31, e31, g⟩ := gInt_elim g
  exact g
theorem B8.ok (R : Rt) (fr : Fr) (h : Hp) (g : L6.g (fun a0 l0 c0 a1 l1 c1 a6 l6 c6 x7 x30 x31 h => ∃ n, L6.t R n a0 l0 c0 a1 l1 c1 a6 l6 c6 x7 x30 x31 h) fr h) : den prog E (cAt C [true, true, true, true, true, false, true]) (Ex.then (D4.g R) (retQ E [.tmp 4, .tmp 5] R)) fr h :=
  den_block (by kernel_rfl) (L6.ok R fr h g)
def D5.t (R : Rt) (a0 : Option Addr) (l0 : Nat) (c0 : Nat) (a1 : Option Addr) (l1 : Nat) (c1 : Nat) (a6 : Option Addr) (l6 : Nat) (c6 : Nat) (x7 : Int) (h : Hp) : Prop :=
  (∃ n, L6.t R n a0 l0 c0 a1 l1 c1 a6 l6 c6 x7 (((l0 : Nat) : Int)) 0 h)
def D5.g (R : Rt) (fr : Fr) (h : Hp) : Prop := gSlice (fr 0) fun a0 l0 c0 => gSlice (fr 1) fun a1 l1 c1 => gSlice (fr 6) fun a6 l6 c6 => gInt .u64 (fr 7) fun x7 => D5.t R a0 l0 c0 a1 l1 c1 a6 l6 c6 x7 h
theorem D5.ok (R : Rt) (fr : Fr) (h : Hp) (g : D5.g R fr h) : den prog E (cAt C [true, true, true, true, true, false]) (Ex.then (D4.g R) (retQ E [.tmp 4, .tmp 5] R)) fr h := by
  obtain ⟨a0, l0, c0, e0, g⟩ := gSlice_elim g
  obtain ⟨a1, l1, c1, e1, g⟩ := gSlice_elim g
  obtain ⟨a6, l6, c6, e6, g⟩ := gSlice_elim g
  obtain ⟨x7, e7, g⟩ := gInt_elim g
  exact den_cut 1 (r := (cAt C [true, true, true, true, true, false, true])) (by kernel_rfl) (B8.ok R) (den_enter [(0, .slice a0 l0 c0), (1, .slice a1 l1 c1), (6, .slice a6 l6 c6), (7, .int .u64 x7)] ⟨e0, e1, e6, e7, trivial⟩ (by kernel_rfl) g)
theorem W9.ok (R : Rt) (fr : Fr) (h : Hp) (g : D5.g R fr h) : den prog E (cAt C [true, true, true, true, true]) (retQ E [.tmp 4, .tmp 5] R) fr h :=
  den_then (by kernel_rfl) (D4.ok R) (D5.ok R fr h g)
def D3.t (R : Rt) (a0 : Option Addr) (l0 : Nat) (c0 : Nat) (a1 : Option Addr) (l1 : Nat) (c1 : Nat) (h : Hp) : Prop :=
  letK (IntKind.i64.wrap ((((l0 : Nat) : Int)) + 1)) fun n7 =>
  mkK h 23 T23 n7 n7 fun q8 h9 =>
  D5.t R a0 l0 c0 a1 l1 c1 (some q8) n7.toNat n7.toNat 0 h9
def D3.g (R : Rt) (fr : Fr) (h : Hp) : Prop := gSlice (fr 0) fun a0 l0 c0 => gSlice (fr 1) fun a1 l1 c1 => D3.t R a0 l0 c0 a1 l1 c1 h
theorem D3.ok (R : Rt) (fr : Fr) (h : Hp) (g : D3.g R fr h) : den prog E (cAt C [true, true, true]) (retQ E [.tmp 4, .tmp 5] R) fr h := by
  obtain ⟨a0, l0, c0, e0, g⟩ := gSlice_elim g
  obtain ⟨a1, l1, c1, e1, g⟩ := gSlice_elim g
  exact den_cut 2 (r := (cAt C [true, true, true, true, true])) (by kernel_rfl) (W9.ok R) (den_enter [(0, .slice a0 l0 c0), (1, .slice a1 l1 c1)] ⟨e0, e1, trivial⟩ (by kernel_rfl) g)
def D2.t (R : Rt) (a0 : Option Addr) (l0 : Nat) (c0 : Nat) (a1 : Option Addr) (l1 : Nat) (c1 : Nat) (h : Hp) : Prop :=
  cond (decide ((((l0 : Nat) : Int)) < (((l1 : Nat) : Int)))) (D3.t R a1 l1 c1 a0 l0 c0 h) (D3.t R a0 l0 c0 a1 l1 c1 h)
def D2.g (R : Rt) (fr : Fr) (h : Hp) : Prop := gSlice (fr 0) fun a0 l0 c0 => gSlice (fr 1) fun a1 l1 c1 => D2.t R a0 l0 c0 a1 l1 c1 h
theorem D2.ok (R : Rt) (fr : Fr) (h : Hp) (g : D2.g R fr h) : den prog E (cAt C [true, true]) (retQ E [.tmp 4, .tmp 5] R) fr h := by
  obtain ⟨a0, l0, c0, e0, g⟩ := gSlice_elim g
  obtain ⟨a1, l1, c1, e1, g⟩ := gSlice_elim g
  exact den_cut 1 (r := (cAt C [true, true, true])) (by kernel_rfl) (D3.ok R) (den_enter [(0, .slice a0 l0 c0), (1, .slice a1 l1 c1)] ⟨e0, e1, trivial⟩ (by kernel_rfl) g)
def D1.t (R : Rt) (a0 : Option Addr) (l0 : Nat) (c0 : Nat) (a1 : Option Addr) (l1 : Nat) (c1 : Nat) (h : Hp) : Prop :=
  HC nat_Form.id #[.slice a0 l0 c0] h fun v1 h2 =>
  gBool v1 fun b_3 =>
  cond (!b_3) (R (.tuple #[.slice none 0 0, .int .i64 2]) h2) (HC nat_Form.id #[.slice a1 l1 c1] h2 fun v4 h5 =>
  gBool v4 fun b_6 =>
  cond (!b_6) (R (.tuple #[.slice none 0 0, .int .i64 2]) h5) (D2.t R a0 l0 c0 a1 l1 c1 h5))
def D1.g (R : Rt) (fr : Fr) (h : Hp) : Prop := gSlice (fr 0) fun a0 l0 c0 => gSlice (fr 1) fun a1 l1 c1 => D1.t R a0 l0 c0 a1 l1 c1 h
theorem D1.ok (R : Rt) (fr : Fr) (h : Hp) (g : D1.g R fr h) : den prog E C (retQ E [.tmp 4, .tmp 5] R) fr h := by
  obtain ⟨a0, l0, c0, e0, g⟩ := gSlice_elim g
  obtain ⟨a1, l1, c1, e1, g⟩ := gSlice_elim g
  exact den_cut 2 (r := (cAt C [true, true])) (by kernel_rfl) (D2.ok R) (den_enter [(0, .slice a0 l0 c0), (1, .slice a1 l1 c1)] ⟨e0, e1, trivial⟩ (by kernel_rfl) g)
def t (a0 : Option Addr) (l0 : Nat) (c0 : Nat) (a1 : Option Addr) (l1 : Nat) (c1 : Nat) (h : Hp) (R : Rt) : Prop := D1.t R a0 l0 c0 a1 l1 c1 h
theorem ok {a0 : Option Addr} {l0 : Nat} {c0 : Nat} {a1 : Option Addr} {l1 : Nat} {c1 : Nat} {h : Hp} {R : Rt} (g : t a0 l0 c0 a1 l1 c1 h R) : HC id #[.slice a0 l0 c0, .slice a1 l1 c1] h R :=
  calls_of_den' envOk (c := C) (rs := [.tmp 4, .tmp 5]) Tryd.func28 (by kernel_rfl) (by kernel_rfl) (by kernel_rfl) (args := [.slice a0 l0 c0, .slice a1 l1 c1]) (by kernel_rfl) (D1.ok R _ h (gSlice_intro rfl (gSlice_intro rfl (g))))
end nat_Add

namespace piconst_next
noncomputable def C : Code := bodyOf Tryd.f29
def D1.t (R : Rt) (a0 : Option Addr) (l0 : Nat) (c0 : Nat) (x1 : Int) (h : Hp) : Prop :=
  cond (decide (x1 < 4294967296)) (letK (IntKind.u64.wrap (x1 * x1)) fun n1 =>
  HC nat_DivWord.id #[.slice a0 l0 c0, .int .u64 n1] h fun v2 h3 =>
  gTup v2 fun y4 =>
  uncons y4 fun v5 y5 =>
  gSlice v5 fun a_6 l_6 c_6 =>
  uncons y5 fun v7 y7 =>
  gInt .u64 v7 fun x_8 =>
  uncons y7 fun v9 y9 =>
  gInt .i64 v9 fun x_10 =>
  unnil y9 <| R (.slice a_6 l_6 c_6) h3) (HC nat_DivWord.id #[.slice a0 l0 c0, .int .u64 x1] h fun v11 h12 =>
  gTup v11 fun y13 =>
  uncons y13 fun v14 y14 =>
  gSlice v14 fun a_15 l_15 c_15 =>
  uncons y14 fun v16 y16 =>
  gInt .u64 v16 fun x_17 =>
  uncons y16 fun v18 y18 =>
  gInt .i64 v18 fun x_19 =>
  unnil y18 <| HC nat_DivWord.id #[.slice a_15 l_15 c_15, .int .u64 x1] h12 fun v20 h21 =>
  gTup v20 fun y22 =>
  uncons y22 fun v23 y23 =>
  gSlice v23 fun a_24 l_24 c_24 =>
  uncons y23 fun v25 y25 =>
  gInt .u64 v25 fun x_26 =>
  uncons y25 fun v27 y27 =>
  gInt .i64 v27 fun x_28 =>
  unnil y27 <| R (.slice a_24 l_24 c_24) h21)
def D1.g (R : Rt) (fr : Fr) (h : Hp) : Prop := gSlice (fr 0) fun a0 l0 c0 => gInt .u64 (fr 1) fun x1 => D1.t R a0 l0 c0 x1 h
theorem D1.ok (R : Rt) (fr : Fr) (h : Hp) (g : D1.g R fr h) : den prog E C (retQ E [.tmp 4] R) fr h := by
  obtain ⟨a0, l0, c0, e0, g⟩ := gSlice_elim g
  obtain ⟨x1, e1, g⟩ := gInt_elim g
  exact den_enter [(0, .slice a0 l0 c0), (1, .int .u64 x1)] ⟨e0, e1, trivial⟩ (by kernel_rfl) g
def t (a0 : Option Addr) (l0 : Nat) (c0 : Nat) (x1 : Int) (h : Hp) (R : Rt) : Prop := D1.t R a0 l0 c0 x1 h
theorem ok {a0 : Option Addr} {l0 : Nat} {c0 : Nat} {x1 : Int} {h : Hp} {R : Rt} (g : t a0 l0 c0 x1 h R) : HC id #[.slice a0 l0 c0, .int .u64 x1] h R :=
  calls_of_den' envOk (c := C) (rs := [.tmp 4]) Tryd.func29 (by kernel_rfl) (by kernel_rfl) (by kernel_rfl) (args := [.slice a0 l0 c0, .int .u64 x1]) (by kernel_rfl) (D1.ok R _ h (gSlice_intro rfl (gInt_intro rfl (g))))
end piconst_next

namespace bits_Mul64
noncomputable def C : Code := bodyOf Tryd.f30
def D1.t (R : Rt) (x0 : Int) (x1 : Int) (h : Hp) : Prop :=
  letK (andI .u64 x0 4294967295) fun n1 =>
  0 ≤ (32 : Int) ∧ letK (shrI .u64 x0 32) fun n2 =>
  letK (andI .u64 x1 4294967295) fun n3 =>
  0 ≤ (32 : Int) ∧ letK (shrI .u64 x1 32) fun n4 =>
  letK (IntKind.u64.wrap (n1 * n3)) fun n5 =>
  letK (IntKind.u64.wrap (n2 * n3)) fun n6 =>
  0 ≤ (32 : Int) ∧ letK (shrI .u64 n5 32) fun n7 =>
  letK (IntKind.u64.wrap (n6 + n7)) fun n8 =>
  letK (andI .u64 n8 4294967295) fun n9 =>
  0 ≤ (32 : Int) ∧ letK (shrI .u64 n8 32) fun n10 =>
  letK (IntKind.u64.wrap (n1 * n4)) fun n11 =>
  letK (IntKind.u64.wrap (n9 + n11)) fun n12 =>
  letK (IntKind.u64.wrap (n2 * n4)) fun n13 =>
  letK (IntKind.u64.wrap (n13 + n10)) fun n14 =>
  0 ≤ (32 : Int) ∧ letK (shrI .u64 n12 32) fun n15 =>
  letK (IntKind.u64.wrap (n14 + n15)) fun n16 =>
  letK (IntKind.u64.wrap (x0 * x1)) fun n17 =>
  R (.tuple #[.int .u64 n16, .int .u64 n17]) h
def D1.g (R : Rt) (fr : Fr) (h : Hp) : Prop := gInt .u64 (fr 0) fun x0 => gInt .u64 (fr 1) fun x1 => D1.t R x0 x1 h
theorem D1.ok (R : Rt) (fr : Fr) (h : Hp) (g : D1.g R fr h) : den prog E C (retQ E [.tmp 4, .tmp 5] R) fr h := by
  obtain ⟨x0, e0, g⟩ := gInt_elim g
  obtain ⟨x1, e1, g⟩ := gInt_elim g
  exact den_enter [(0, .int .u64 x0), (1, .int .u64 x1)] ⟨e0, e1, trivial⟩ (by kernel_rfl) g
def t (x0 : Int) (x1 : Int) (h : Hp) (R : Rt) : Prop := D1.t R x0 x1 h
theorem ok {x0 : Int} {x1 : Int} {h : Hp} {R : Rt} (g : t x0 x1 h R) : HC id #[.int .u64 x0, .int .u64 x1] h R :=
  calls_of_den' envOk (c := C) (rs := [.tmp 4, .tmp 5]) Tryd.func30 (by kernel_rfl) (by kernel_rfl) (by kernel_rfl) (args := [.int .u64 x0, .int .u64 x1]) (by kernel_rfl) (D1.ok R _ h (gInt_intro rfl (gInt_intro rfl (g))))
end bits_Mul64

namespace bits_Len64
noncomputable def C : Code := bodyOf Tryd.f33
def D4.t (R : Rt) (x0 : Int) (x2 : Int) (h : Hp) : Prop :=
  letK (IntKind.u8.wrap x0) fun n6 =>
  idxS (⟨#[0, 1, 2, 2, 3, 3, 3, 3, 4, 4, 4, 4, 4, 4, 4, 4, 5, 5, 5, 5, 5, 5, 5, 5, 5, 5, 5, 5, 5, 5, 5, 5, 6, 6, 6, 6, 6, 6, 6, 6, 6, 6, 6, 6, 6, 6, 6, 6, 6, 6, 6, 6, 6, 6, 6, 6, 6, 6, 6, 6, 6, 6, 6, 6, 7, 7, 7, 7, 7, 7, 7, 7, 7, 7, 7, 7, 7, 7, 7, 7, 7, 7, 7, 7, 7, 7, 7, 7, 7, 7, 7, 7, 7, 7, 7, 7, 7, 7, 7, 7, 7, 7, 7, 7, 7, 7, 7, 7, 7, 7, 7, 7, 7, 7, 7, 7, 7, 7, 7, 7, 7, 7, 7, 7, 7, 7, 7, 7, 8, 8, 8, 8, 8, 8, 8, 8, 8, 8, 8, 8, 8, 8, 8, 8, 8, 8, 8, 8, 8, 8, 8, 8, 8, 8, 8, 8, 8, 8, 8, 8, 8, 8, 8, 8, 8, 8, 8, 8, 8, 8, 8, 8, 8, 8, 8, 8, 8, 8, 8, 8, 8, 8, 8, 8, 8, 8, 8, 8, 8, 8, 8, 8, 8, 8, 8, 8, 8, 8, 8, 8, 8, 8, 8, 8, 8, 8, 8, 8, 8, 8, 8, 8, 8, 8, 8, 8, 8, 8, 8, 8, 8, 8, 8, 8, 8, 8, 8, 8, 8, 8, 8, 8, 8, 8, 8, 8, 8, 8, 8, 8, 8, 8, 8, 8, 8, 8, 8, 8, 8, 8, 8, 8, 8, 8, 8, 8]⟩ : ByteArray) n6 fun n7 =>
  letK (IntKind.i64.wrap n7) fun n8 =>
  letK (IntKind.i64.wrap (x2 + n8)) fun n9 =>
  R (.int .i64 n9) h
def D4.g (R : Rt) (fr : Fr) (h : Hp) : Prop := gInt .u64 (fr 0) fun x0 => gInt .i64 (fr 2) fun x2 => D4.t R x0 x2 h
theorem D4.ok (R : Rt) (fr : Fr) (h : Hp) (g : D4.g R fr h) : den prog E (cAt C [true, true, true, true]) (retQ E [.tmp 2] R) fr h := by
  obtain ⟨x0, e0, g⟩ := gInt_elim g
  obtain ⟨x2, e2, g⟩ := gInt_elim g
  exact den_enter [(0, .int .u64 x0), (2, .int .i64 x2)] ⟨e0, e2, trivial⟩ (by kernel_rfl) g
def D3.t (R : Rt) (x0 : Int) (x2 : Int) (h : Hp) : Prop :=
  cond (decide (x0 ≥ 256)) (0 ≤ (8 : Int) ∧ letK (shrI .u64 x0 8) fun n4 =>
  letK (IntKind.i64.wrap (x2 + 8)) fun n5 =>
  D4.t R n4 n5 h) (D4.t R x0 x2 h)
def D3.g (R : Rt) (fr : Fr) (h : Hp) : Prop := gInt .u64 (fr 0) fun x0 => gInt .i64 (fr 2) fun x2 => D3.t R x0 x2 h
theorem D3.ok (R : Rt) (fr : Fr) (h : Hp) (g : D3.g R fr h) : den prog E (cAt C [true, true, true]) (retQ E [.tmp 2] R) fr h := by
  obtain ⟨x0, e0, g⟩ := gInt_elim g
  obtain ⟨x2, e2, g⟩ := gInt_elim g
  exact den_cut 1 (r := (cAt C [true, true, true, true])) (by kernel_rfl) (D4.ok R) (den_enter [(0, .int .u64 x0), (2, .int .i64 x2)] ⟨e0, e2, trivial⟩ (by kernel_rfl) g)
def D2.t (R : Rt) (x0 : Int) (x2 : Int) (h : Hp) : Prop :=
  cond (decide (x0 ≥ 65536)) (0 ≤ (16 : Int) ∧ letK (shrI .u64 x0 16) fun n2 =>
  letK (IntKind.i64.wrap (x2 + 16)) fun n3 =>
  D3.t R n2 n3 h) (D3.t R x0 x2 h)
def D2.g (R : Rt) (fr : Fr) (h : Hp) : Prop := gInt .u64 (fr 0) fun x0 => gInt .i64 (fr 2) fun x2 => D2.t R x0 x2 h
theorem D2.ok (R : Rt) (fr : Fr) (h : Hp) (g : D2.g R fr h) : den prog E (cAt C [true, true]) (retQ E [.tmp 2] R) fr h := by
  obtain ⟨x0, e0, g⟩ := gInt_elim g
  obtain ⟨x2, e2, g⟩ := gInt_elim g
  exact den_cut 1 (r := (cAt C [true, true, true])) (by kernel_rfl) (D3.ok R) (den_enter [(0, .int .u64 x0), (2, .int .i64 x2)] ⟨e0, e2, trivial⟩ (by kernel_rfl) g)
def D1.t (R : Rt) (x0 : Int) (h : Hp) : Prop :=
  cond (decide (x0 ≥ 4294967296)) (0 ≤ (32 : Int) ∧ letK (shrI .u64 x0 32) fun n1 =>
  D2.t R n1 32 h) (D2.t R x0 0 h)
def D1.g (R : Rt) (fr : Fr) (h : Hp) : Prop := gInt .u64 (fr 0) fun x0 => D1.t R x0 h
theorem D1.ok (R : Rt) (fr : Fr) (h : Hp) (g : D1.g R fr h) : den prog E C (retQ E [.tmp 2] R) fr h := by
  obtain ⟨x0, e0, g⟩ := gInt_elim g
  exact den_cut 2 (r := (cAt C [true, true])) (by kernel_rfl) (D2.ok R) (den_enter [(0, .int .u64 x0)] ⟨e0, trivial⟩ (by kernel_rfl) g)
def t (x0 : Int) (h : Hp) (R : Rt) : Prop := D1.t R x0 h
theorem ok {x0 : Int} {h : Hp} {R : Rt} (g : t x0 h R) : HC id #[.int .u64 x0] h R :=
  calls_of_den' envOk (c := C) (rs := [.tmp 2]) Tryd.func33 (by kernel_rfl) (by kernel_rfl) (by kernel_rfl) (args := [.int .u64 x0]) (by kernel_rfl) (D1.ok R _ h (gInt_intro rfl (g)))
end bits_Len64

namespace bits_Div64
noncomputable def C : Code := bodyOf Tryd.f34
def D5.t (R : Rt) (x2 : Int) (x8 : Int) (x14 : Int) (x15 : Int) (x17 : Int) (x18 : Int) (h : Hp) : Prop :=
  letK (IntKind.u64.wrap (x15 * 4294967296)) fun n27 =>
  letK (IntKind.u64.wrap (n27 + x18)) fun n28 =>
  letK (IntKind.u64.wrap (x17 * 4294967296)) fun n29 =>
  letK (IntKind.u64.wrap (n29 + x14)) fun n30 =>
  letK (IntKind.u64.wrap (x18 * x2)) fun n31 =>
  letK (IntKind.u64.wrap (n30 - n31)) fun n32 =>
  0 ≤ x8 ∧ letK (shrI .u64 n32 x8) fun n33 =>
  R (.tuple #[.int .u64 n28, .int .u64 n33]) h
def D5.g (R : Rt) (fr : Fr) (h : Hp) : Prop := gInt .u64 (fr 2) fun x2 => gInt .u64 (fr 8) fun x8 => gInt .u64 (fr 14) fun x14 => gInt .u64 (fr 15) fun x15 => gInt .u64 (fr 17) fun x17 => gInt .u64 (fr 18) fun x18 => D5.t R x2 x8 x14 x15 x17 x18 h
theorem D5.ok (R : Rt) (fr : Fr) (h : Hp) (g : D5.g R fr h) : den prog E (cAt C [true, true, true, true, true, true, true, true, true, true, true, true, true, true, true, true, true, true, true]) (retQ E [.tmp 6, .tmp 7] R) fr h := by
  obtain ⟨x2, e2, g⟩ := gInt_elim g
  obtain ⟨x8, e8, g⟩ := gInt_elim g
  obtain ⟨x14, e14, g⟩ := gInt_elim g
  obtain ⟨x15, e15, g⟩ := gInt_elim g
  obtain ⟨x17, e17, g⟩ := gInt_elim g
  obtain ⟨x18, e18, g⟩ := gInt_elim g
  exact den_enter [(2, .int .u64 x2), (8, .int .u64 x8), (14, .int .u64 x14), (15, .int .u64 x15), (17, .int .u64 x17), (18, .int .u64 x18)] ⟨e2, e8, e14, e15, e17, e18, trivial⟩ (by kernel_rfl) g
def L6.g (N : Int → Int → Int → Int → Int → Int → Int → Int → Int → Hp → Prop) (fr : Fr) (h : Hp) : Prop := gInt .u64 (fr 2) fun x2 => gInt .u64 (fr 8) fun x8 => gInt .u64 (fr 9) fun x9 => gInt .u64 (fr 10) fun x10 => gInt .u64 (fr 14) fun x14 => gInt .u64 (fr 15) fun x15 => gInt .u64 (fr 16) fun x16 => gInt .u64 (fr 17) fun x17 => gInt .u64 (fr 18) fun x18 => N x2 x8 x9 x10 x14 x15 x16 x17 x18 h
def D8.t (R : Rt) (N6 : Int → Int → Int → Int → Int → Int → Int → Int → Int → Hp → Prop) (x2 : Int) (x8 : Int) (x9 : Int) (x10 : Int) (x14 : Int) (x15 : Int) (x16 : Int) (x17 : Int) (x18 : Int) (h : Hp) : Prop :=
  letK (IntKind.u64.wrap (x18 - 1)) fun n34 =>
  letK (IntKind.u64.wrap (x16 + x9)) fun n35 =>
  cond (decide (n35 ≥ 4294967296)) (D5.t R x2 x8 x14 x15 x17 n34 h) (N6 x2 x8 x9 x10 x14 x15 n35 x17 n34 h)
def D8.g (R : Rt) (N6 : Int → Int → Int → Int → Int → Int → Int → Int → Int → Hp → Prop) (fr : Fr) (h : Hp) : Prop := gInt .u64 (fr 2) fun x2 => gInt .u64 (fr 8) fun x8 => gInt .u64 (fr 9) fun x9 => gInt .u64 (fr 10) fun x10 => gInt .u64 (fr 14) fun x14 => gInt .u64 (fr 15) fun x15 => gInt .u64 (fr 16) fun x16 => gInt .u64 (fr 17) fun x17 => gInt .u64 (fr 18) fun x18 => D8.t R N6 x2 x8 x9 x10 x14 x15 x16 x17 x18 h
theorem D8.ok (R : Rt) (N6 : Int → Int → Int → Int → Int → Int → Int → Int → Int → Hp → Prop) (fr : Fr) (h : Hp) (g : D8.g R N6 fr h) : den prog E (cAt C [true, true, true, true, true, true, true, true, true, true, true, true, true, true, true, true, true, true, false, false, false, true]) (Ex.then (L6.g N6) (Ex.inBlock 2 (Ex.then (D5.g R) (retQ E [.tmp 6, .tmp 7] R)))) fr h := by
  obtain ⟨x2, e2, g⟩ := gInt_elim g
  obtain ⟨x8, e8, g⟩ := gInt_elim g
  obtain ⟨x9, e9, g⟩ := gInt_elim g
  obtain ⟨x10, e10, g⟩ := gInt_elim g
  obtain ⟨x14, e14, g⟩ := gInt_elim g
  obtain ⟨x15, e15, g⟩ := gInt_elim g
  obtain ⟨x16, e16, g⟩ := gInt_elim g
  obtain ⟨x17, e17, g⟩ := gInt_elim g
  obtain ⟨x18, e18, g⟩ := gInt_elim g
  exact den_enter [(2, .int .u64 x2), (8, .int .u64 x8), (9, .int .u64 x9), (10, .int .u64 x10), (14, .int .u64 x14), (15, .int .u64 x15), (16, .int .u64 x16), (17, .int .u64 x17), (18, .int .u64 x18)] ⟨e2, e8, e9, e10, e14, e15, e16, e17, e18, trivial⟩ (by kernel_rfl) g
def D7.t (R : Rt) (N6 : Int → Int → Int → Int → Int → Int → Int → Int → Int → Hp → Prop) (x2 : Int) (x8 : Int) (x9 : Int) (x10 : Int) (x14 : Int) (x15 : Int) (x16 : Int) (x17 : Int) (x18 : Int) (h : Hp) : Prop :=
  cond (decide (x18 ≥ 4294967296)) (D8.t R N6 x2 x8 x9 x10 x14 x15 x16 x17 x18 h) (letK (IntKind.u64.wrap (x18 * x10)) fun n36 =>
  letK (IntKind.u64.wrap (4294967296 * x16)) fun n37 =>
  letK (IntKind.u64.wrap (n37 + x14)) fun n38 =>
  cond (decide (n36 > n38)) (D8.t R N6 x2 x8 x9 x10 x14 x15 x16 x17 x18 h) (D5.t R x2 x8 x14 x15 x17 x18 h))
def D7.g (R : Rt) (N6 : Int → Int → Int → Int → Int → Int → Int → Int → Int → Hp → Prop) (fr : Fr) (h : Hp) : Prop := gInt .u64 (fr 2) fun x2 => gInt .u64 (fr 8) fun x8 => gInt .u64 (fr 9) fun x9 => gInt .u64 (fr 10) fun x10 => gInt .u64 (fr 14) fun x14 => gInt .u64 (fr 15) fun x15 => gInt .u64 (fr 16) fun x16 => gInt .u64 (fr 17) fun x17 => gInt .u64 (fr 18) fun x18 => D7.t R N6 x2 x8 x9 x10 x14 x15 x16 x17 x18 h
theorem D7.ok (R : Rt) (N6 : Int → Int → Int → Int → Int → Int → Int → Int → Int → Hp → Prop) (fr : Fr) (h : Hp) (g : D7.g R N6 fr h) : den prog E (cAt C [true, true, true, true, true, true, true, true, true, true, true, true, true, true, true, true, true, true, false, false, false]) (Ex.then (L6.g N6) (Ex.inBlock 2 (Ex.then (D5.g R) (retQ E [.tmp 6, .tmp 7] R)))) fr h := by
  obtain ⟨x2, e2, g⟩ := gInt_elim g
  obtain ⟨x8, e8, g⟩ := gInt_elim g
  obtain ⟨x9, e9, g⟩ := gInt_elim g
  obtain ⟨x10, e10, g⟩ := gInt_elim g
  obtain ⟨x14, e14, g⟩ := gInt_elim g
  obtain ⟨x15, e15, g⟩ := gInt_elim g
  obtain ⟨x16, e16, g⟩ := gInt_elim g
  obtain ⟨x17, e17, g⟩ := gInt_elim g
  obtain ⟨x18, e18, g⟩ := gInt_elim g
  exact den_cut 1 (r := (cAt C [true, true, true, true, true, true, true, true, true, true, true, true, true, true, true, true, true, true, false, false, false, true])) (by kernel_rfl) (D8.ok R N6) (den_enter [(2, .int .u64 x2), (8, .int .u64 x8), (9, .int .u64 x9), (10, .int .u64 x10), (14, .int .u64 x14), (15, .int .u64 x15), (16, .int .u64 x16), (17, .int .u64 x17), (18, .int .u64 x18)] ⟨e2, e8, e9, e10, e14, e15, e16, e17, e18, trivial⟩ (by kernel_rfl) g)
def L6.t (R : Rt) : Nat → Int → Int → Int → Int → Int → Int → Int → Int → Int → Hp → Prop
  | 0 => fun _ _ _ _ _ _ _ _ _ _ => False
  | n + 1 => fun x2 x8 x9 x10 x14 x15 x16 x17 x18 h => D7.t R (L6.t R n) x2 x8 x9 x10 x14 x15 x16 x17 x18 h
theorem L6.ok (R : Rt) (fr : Fr) (h : Hp) (g : L6.g (fun x2 x8 x9 x10 x14 x15 x16 x17 x18 h => ∃ n, L6.t R n x2 x8 x9 x10 x14 x15 x16 x17 x18 h) fr h) : den prog E (cAt C [true, true, true, true, true, true, true, true, true, true, true, true, true, true, true, true, true, true, false, false]) (Ex.inBlock 2 (Ex.then (D5.g R) (retQ E [.tmp 6, .tmp 7] R))) fr h := by
  obtain ⟨x2, e2, g⟩ := gInt_elim g
  obtain ⟨x8, e8, g⟩ := gInt_elim g
  obtain ⟨x9, e9, g⟩ := gInt_elim g
  obtain ⟨x10, e10, g⟩ := gInt_elim g
  obtain ⟨x14, e14, g⟩ := gInt_elim g
  obtain ⟨x15, e15, g⟩ := gInt_elim g
  obtain ⟨x16, e16, g⟩ := gInt_elim g
  obtain ⟨x17, e17, g⟩ := gInt_elim g
  obtain ⟨x18, e18, g⟩ := gInt_elim g
  obtain ⟨n, g⟩ := g
  refine loop_ok (fun n => L6.g (L6.t R n)) (b := (cAt C [true, true, true, true, true, true, true, true, true, true, true, true, true, true, true, true, true, true, false, false, false])) (by kernel_rfl) (fun fr h g => ?_) (fun n => D7.ok R (L6.t R n)) n fr h (gInt_intro e2 (gInt_intro e8 (gInt_intro e9 (gInt_intro e10 (gInt_intro e14 (gInt_intro e15 (gInt_intro e16 (gInt_intro e17 (gInt_intro e18 (g))))))))))
  obtain ⟨x2, e2, g⟩ := gInt_elim g
  obtain ⟨x8, e8, g⟩ := gInt_elim g
  obtain ⟨x9, e9, g⟩ := gInt_elim g
  obtain ⟨x10, e10, g⟩ := gInt_elim g
  obtain ⟨x14, e14, g⟩ := gInt_elim g
  obtain ⟨x15, e15, g⟩ := gInt_elim g
  obtain ⟨x16, e16, g⟩ := gInt_elim g
  obtain ⟨x17, e17, g⟩ := gInt_elim g
  obtain ⟨x18, e18, g⟩ := gInt_elim g
  exact g
theorem B9.ok (R : Rt) (fr : Fr) (h : Hp) (g : L6.g (fun x2 x8 x9 x10 x14 x15 x16 x17 x18 h => ∃ n, L6.t R n x2 x8 x9 x10 x14 x15 x16 x17 x18 h) fr h) : den prog E (cAt C [true, true, true, true, true, true, true, true, true, true, true, true, true, true, true, true, true, true, false]) (Ex.then (D5.g R) (retQ E [.tmp 6, .tmp 7] R)) fr h :=
  den_block (by kernel_rfl) (L6.ok R fr h g)
theorem W10.ok (R : Rt) (fr : Fr) (h : Hp) (g : L6.g (fun x2 x8 x9 x10 x14 x15 x16 x17 x18 h => ∃ n, L6.t R n x2 x8 x9 x10 x14 x15 x16 x17 x18 h) fr h) : den prog E (cAt C [true, true, true, true, true, true, true, true, true, true, true, true, true, true, true, true, true, true]) (retQ E [.tmp 6, .tmp 7] R) fr h :=
  den_then (by kernel_rfl) (D5.ok R) (B9.ok R fr h g)
def D4.t (R : Rt) (x2 : Int) (x8 : Int) (x9 : Int) (x10 : Int) (x11 : Int) (x13 : Int) (x14 : Int) (x15 : Int) (h : Hp) : Prop :=
  letK (IntKind.u64.wrap (x11 * 4294967296)) fun n20 =>
  letK (IntKind.u64.wrap (n20 + x13)) fun n21 =>
  letK (IntKind.u64.wrap (x15 * x2)) fun n22 =>
  letK (IntKind.u64.wrap (n21 - n22)) fun n23 =>
  x9 ≠ 0 ∧ letK (IntKind.u64.wrap (Int.tdiv n23 x9)) fun n24 =>
  letK (IntKind.u64.wrap (n24 * x9)) fun n25 =>
  letK (IntKind.u64.wrap (n23 - n25)) fun n26 =>
  (∃ n, L6.t R n x2 x8 x9 x10 x14 x15 n26 n23 n24 h)
def D4.g (R : Rt) (fr : Fr) (h : Hp) : Prop := gInt .u64 (fr 2) fun x2 => gInt .u64 (fr 8) fun x8 => gInt .u64 (fr 9) fun x9 => gInt .u64 (fr 10) fun x10 => gInt .u64 (fr 11) fun x11 => gInt .u64 (fr 13) fun x13 => gInt .u64 (fr 14) fun x14 => gInt .u64 (fr 15) fun x15 => D4.t R x2 x8 x9 x10 x11 x13 x14 x15 h
theorem D4.ok (R : Rt) (fr : Fr) (h : Hp) (g : D4.g R fr h) : den prog E (cAt C [true, true, true, true, true, true, true, true, true, true, true, true, true, true, true]) (retQ E [.tmp 6, .tmp 7] R) fr h := by
  obtain ⟨x2, e2, g⟩ := gInt_elim g
  obtain ⟨x8, e8, g⟩ := gInt_elim g
  obtain ⟨x9, e9, g⟩ := gInt_elim g
  obtain ⟨x10, e10, g⟩ := gInt_elim g
  obtain ⟨x11, e11, g⟩ := gInt_elim g
  obtain ⟨x13, e13, g⟩ := gInt_elim g
  obtain ⟨x14, e14, g⟩ := gInt_elim g
  obtain ⟨x15, e15, g⟩ := gInt_elim g
  exact den_cut 3 (r := (cAt C [true, true, true, true, true, true, true, true, true, true, true, true, true, true, true, true, true, true])) (by kernel_rfl) (W10.ok R) (den_enter [(2, .int .u64 x2), (8, .int .u64 x8), (9, .int .u64 x9), (10, .int .u64 x10), (11, .int .u64 x11), (13, .int .u64 x13), (14, .int .u64 x14), (15, .int .u64 x15)] ⟨e2, e8, e9, e10, e11, e13, e14, e15, trivial⟩ (by kernel_rfl) g)
def L11.g (N : Int → Int → Int → Int → Int → Int → Int → Int → Int → Hp → Prop) (fr : Fr) (h : Hp) : Prop := gInt .u64 (fr 2) fun x2 => gInt .u64 (fr 8) fun x8 => gInt .u64 (fr 9) fun x9 => gInt .u64 (fr 10) fun x10 => gInt .u64 (fr 11) fun x11 => gInt .u64 (fr 13) fun x13 => gInt .u64 (fr 14) fun x14 => gInt .u64 (fr 15) fun x15 => gInt .u64 (fr 16) fun x16 => N x2 x8 x9 x10 x11 x13 x14 x15 x16 h
def D13.t (R : Rt) (N11 : Int → Int → Int → Int → Int → Int → Int → Int → Int → Hp → Prop) (x2 : Int) (x8 : Int) (x9 : Int) (x10 : Int) (x11 : Int) (x13 : Int) (x14 : Int) (x15 : Int) (x16 : Int) (h : Hp) : Prop :=
  letK (IntKind.u64.wrap (x15 - 1)) fun n39 =>
  letK (IntKind.u64.wrap (x16 + x9)) fun n40 =>
  cond (decide (n40 ≥ 4294967296)) (D4.t R x2 x8 x9 x10 x11 x13 x14 n39 h) (N11 x2 x8 x9 x10 x11 x13 x14 n39 n40 h)
def D13.g (R : Rt) (N11 : Int → Int → Int → Int → Int → Int → Int → Int → Int → Hp → Prop) (fr : Fr) (h : Hp) : Prop := gInt .u64 (fr 2) fun x2 => gInt .u64 (fr 8) fun x8 => gInt .u64 (fr 9) fun x9 => gInt .u64 (fr 10) fun x10 => gInt .u64 (fr 11) fun x11 => gInt .u64 (fr 13) fun x13 => gInt .u64 (fr 14) fun x14 => gInt .u64 (fr 15) fun x15 => gInt .u64 (fr 16) fun x16 => D13.t R N11 x2 x8 x9 x10 x11 x13 x14 x15 x16 h
theorem D13.ok (R : Rt) (N11 : Int → Int → Int → Int → Int → Int → Int → Int → Int → Hp → Prop) (fr : Fr) (h : Hp) (g : D13.g R N11 fr h) : den prog E (cAt C [true, true, true, true, true, true, true, true, true, true, true, true, true, true, false, false, false, true]) (Ex.then (L11.g N11) (Ex.inBlock 0 (Ex.then (D4.g R) (retQ E [.tmp 6, .tmp 7] R)))) fr h := by
  obtain ⟨x2, e2, g⟩ := gInt_elim g
  obtain ⟨x8, e8, g⟩ := gInt_elim g
  obtain ⟨x9, e9, g⟩ := gInt_elim g
  obtain ⟨x10, e10, g⟩ := gInt_elim g
  obtain ⟨x11, e11, g⟩ := gInt_elim g
  obtain ⟨x13, e13, g⟩ := gInt_elim g
  obtain ⟨x14, e14, g⟩ := gInt_elim g
  obtain ⟨x15, e15, g⟩ := gInt_elim g
  obtain ⟨x16, e16, g⟩ := gInt_elim g
  exact den_enter [(2, .int .u64 x2), (8, .int .u64 x8), (9, .int .u64 x9), (10, .int .u64 x10), (11, .int .u64 x11), (13, .int .u64 x13), (14, .int .u64 x14), (15, .int .u64 x15), (16, .int .u64 x16)] ⟨e2, e8, e9, e10, e11, e13, e14, e15, e16, trivial⟩ (by kernel_rfl) g
def D12.t (R : Rt) (N11 : Int → Int → Int → Int → Int → Int → Int → Int → Int → Hp → Prop) (x2 : Int) (x8 : Int) (x9 : Int) (x10 : Int) (x11 : Int) (x13 : Int) (x14 : Int) (x15 : Int) (x16 : Int) (h : Hp) : Prop :=
  cond (decide (x15 ≥ 4294967296)) (D13.t R N11 x2 x8 x9 x10 x11 x13 x14 x15 x16 h) (letK (IntKind.u64.wrap (x15 * x10)) fun n41 =>
  letK (IntKind.u64.wrap (4294967296 * x16)) fun n42 =>
  letK (IntKind.u64.wrap (n42 + x13)) fun n43 =>
  cond (decide (n41 > n43)) (D13.t R N11 x2 x8 x9 x10 x11 x13 x14 x15 x16 h) (D4.t R x2 x8 x9 x10 x11 x13 x14 x15 h))
def D12.g (R : Rt) (N11 : Int → Int → Int → Int → Int → Int → Int → Int → Int → Hp → Prop) (fr : Fr) (h : Hp) : Prop := gInt .u64 (fr 2) fun x2 => gInt .u64 (fr 8) fun x8 => gInt .u64 (fr 9) fun x9 => gInt .u64 (fr 10) fun x10 => gInt .u64 (fr 11) fun x11 => gInt .u64 (fr 13) fun x13 => gInt .u64 (fr 14) fun x14 => gInt .u64 (fr 15) fun x15 => gInt .u64 (fr 16) fun x16 => D12.t R N11 x2 x8 x9 x10 x11 x13 x14 x15 x16 h
theorem D12.ok (R : Rt) (N11 : Int → Int → Int → Int → Int → Int → Int → Int → Int → Hp → Prop) (fr : Fr) (h : Hp) (g : D12.g R N11 fr h) : den prog E (cAt C [true, true, true, true, true, true, true, true, true, true, true, true, true, true, false, false, false]) (Ex.then (L11.g N11) (Ex.inBlock 0 (Ex.then (D4.g R) (retQ E [.tmp 6, .tmp 7] R)))) fr h := by
  obtain ⟨x2, e2, g⟩ := gInt_elim g
  obtain ⟨x8, e8, g⟩ := gInt_elim g
  obtain ⟨x9, e9, g⟩ := gInt_elim g
  obtain ⟨x10, e10, g⟩ := gInt_elim g
  obtain ⟨x11, e11, g⟩ := gInt_elim g
  obtain ⟨x13, e13, g⟩ := gInt_elim g
  obtain ⟨x14, e14, g⟩ := gInt_elim g
  obtain ⟨x15, e15, g⟩ := gInt_elim g
  obtain ⟨x16, e16, g⟩ := gInt_elim g
  exact den_cut 1 (r := (cAt C [true, true, true, true, true, true, true, true, true, true, true, true, true, true, false, false, false, true])) (by kernel_rfl) (D13.ok R N11) (den_enter [(2, .int .u64 x2), (8, .int .u64 x8), (9, .int .u64 x9), (10, .int .u64 x10), (11, .int .u64 x11), (13, .int .u64 x13), (14, .int .u64 x14), (15, .int .u64 x15), (16, .int .u64 x16)] ⟨e2, e8, e9, e10, e11, e13, e14, e15, e16, trivial⟩ (by kernel_rfl) g)
def L11.t (R : Rt) : Nat → Int → Int → Int → Int → Int → Int → Int → Int → Int → Hp → Prop
  | 0 => fun _ _ _ _ _ _ _ _ _ _ => False
  | n + 1 => fun x2 x8 x9 x10 x11 x13 x14 x15 x16 h => D12.t R (L11.t R n) x2 x8 x9 x10 x11 x13 x14 x15 x16 h
theorem L11.ok (R : Rt) (fr : Fr) (h : Hp) (g : L11.g (fun x2 x8 x9 x10 x11 x13 x14 x15 x16 h => ∃ n, L11.t R n x2 x8 x9 x10 x11 x13 x14 x15 x16 h) fr h) : den prog E (cAt C [true, true, true, true, true, true, true, true, true, true, true, true, true, true, false, false]) (Ex.inBlock 0 (Ex.then (D4.g R) (retQ E [.tmp 6, .tmp 7] R))) fr h := by
  obtain ⟨x2, e2, g⟩ := gInt_elim g
  obtain ⟨x8, e8, g⟩ := gInt_elim g
  obtain ⟨x9, e9, g⟩ := gInt_elim g
  obtain ⟨x10, e10, g⟩ := gInt_elim g
  obtain ⟨x11, e11, g⟩ := gInt_elim g
  obtain ⟨x13, e13, g⟩ := gInt_elim g
  obtain ⟨x14, e14, g⟩ := gInt_elim g
  obtain ⟨x15, e15, g⟩ := gInt_elim g
  obtain ⟨x16, e16, g⟩ := gInt_elim g
  obtain ⟨n, g⟩ := g
  refine loop_ok (fun n => L11.g (L11.t R n)) (b := (cAt C [true, true, true, true, true, true, true, true, true, true, true, true, true, true, false, false, false])) (by kernel_rfl) (fun fr h g => ?_) (fun n => D12.ok R (L11.t R n)) n fr h (gInt_intro e2 (gInt_intro e8 (gInt_intro e9 (gInt_intro e10 (gInt_intro e11 (gInt_intro e13 (gInt_intro e14 (gInt_intro e15 (gInt_intro e16 (g))))))))))
  obtain ⟨x2, e2, g⟩ := gInt_elim g
  obtain ⟨x8, e8, g⟩ := gInt_elim g
  obtain ⟨x9, e9, g⟩ := gInt_elim g
  obtain ⟨x10, e10, g⟩ := gInt_elim g
  obtain ⟨x11, e11, g⟩ := gInt_elim g
  obtain ⟨x13, e13, g⟩ := gInt_elim g
  obtain ⟨x14, e14, g⟩ := gInt_elim g
  obtain ⟨x15, e15, g⟩ := gInt_elim g
  obtain ⟨x16, e16, g⟩ := gInt_elim g
  exact g
theorem B14.ok (R : Rt) (fr : Fr) (h : Hp) (g : L11.g (fun x2 x8 x9 x10 x11 x13 x14 x15 x16 h => ∃ n, L11.t R n x2 x8 x9 x10 x11 x13 x14 x15 x16 h) fr h) : den prog E (cAt C [true, true, true, true, true, true, true, true, true, true, true, true, true, true, false]) (Ex.then (D4.g R) (retQ E [.tmp 6, .tmp 7] R)) fr h :=
  den_block (by kernel_rfl) (L11.ok R fr h g)
theorem W15.ok (R : Rt) (fr : Fr) (h : Hp) (g : L11.g (fun x2 x8 x9 x10 x11 x13 x14 x15 x16 h => ∃ n, L11.t R n x2 x8 x9 x10 x11 x13 x14 x15 x16 h) fr h) : den prog E (cAt C [true, true, true, true, true, true, true, true, true, true, true, true, true, true]) (retQ E [.tmp 6, .tmp 7] R) fr h :=
  den_then (by kernel_rfl) (D4.ok R) (B14.ok R fr h g)
def D3.t (R : Rt) (x0 : Int) (x1 : Int) (x2 : Int) (h : Hp) : Prop :=
  cond (x0 == 0) (x2 ≠ 0 ∧ letK (IntKind.u64.wrap (Int.tdiv x1 x2)) fun n1 =>
  x2 ≠ 0 ∧ letK (Int.tmod x1 x2) fun n2 =>
  R (.tuple #[.int .u64 n1, .int .u64 n2]) h) (HC bits_LeadingZeros64.id #[.int .u64 x2] h fun v3 h4 =>
  gInt .i64 v3 fun x_5 =>
  letK (IntKind.u64.wrap x_5) fun n6 =>
  0 ≤ n6 ∧ letK (shlI .u64 x2 n6) fun n7 =>
  0 ≤ (32 : Int) ∧ letK (shrI .u64 n7 32) fun n8 =>
  letK (andI .u64 n7 4294967295) fun n9 =>
  0 ≤ n6 ∧ letK (shlI .u64 x0 n6) fun n10 =>
  letK (IntKind.u64.wrap (64 - n6)) fun n11 =>
  0 ≤ n11 ∧ letK (shrI .u64 x1 n11) fun n12 =>
  letK (orI .u64 n10 n12) fun n13 =>
  0 ≤ n6 ∧ letK (shlI .u64 x1 n6) fun n14 =>
  0 ≤ (32 : Int) ∧ letK (shrI .u64 n14 32) fun n15 =>
  letK (andI .u64 n14 4294967295) fun n16 =>
  n8 ≠ 0 ∧ letK (IntKind.u64.wrap (Int.tdiv n13 n8)) fun n17 =>
  letK (IntKind.u64.wrap (n17 * n8)) fun n18 =>
  letK (IntKind.u64.wrap (n13 - n18)) fun n19 =>
  (∃ n, L11.t R n n7 n6 n8 n9 n13 n15 n16 n17 n19 h4))
def D3.g (R : Rt) (fr : Fr) (h : Hp) : Prop := gInt .u64 (fr 0) fun x0 => gInt .u64 (fr 1) fun x1 => gInt .u64 (fr 2) fun x2 => D3.t R x0 x1 x2 h
theorem D3.ok (R : Rt) (fr : Fr) (h : Hp) (g : D3.g R fr h) : den prog E (cAt C [true, true, true]) (retQ E [.tmp 6, .tmp 7] R) fr h := by
  obtain ⟨x0, e0, g⟩ := gInt_elim g
  obtain ⟨x1, e1, g⟩ := gInt_elim g
  obtain ⟨x2, e2, g⟩ := gInt_elim g
  exact den_cut 11 (r := (cAt C [true, true, true, true, true, true, true, true, true, true, true, true, true, true])) (by kernel_rfl) (W15.ok R) (den_enter [(0, .int .u64 x0), (1, .int .u64 x1), (2, .int .u64 x2)] ⟨e0, e1, e2, trivial⟩ (by kernel_rfl) g)
def D2.t (R : Rt) (x0 : Int) (x1 : Int) (x2 : Int) (h : Hp) : Prop :=
  cond (decide (x2 ≤ x0)) (False) (D3.t R x0 x1 x2 h)
def D2.g (R : Rt) (fr : Fr) (h : Hp) : Prop := gInt .u64 (fr 0) fun x0 => gInt .u64 (fr 1) fun x1 => gInt .u64 (fr 2) fun x2 => D2.t R x0 x1 x2 h
theorem D2.ok (R : Rt) (fr : Fr) (h : Hp) (g : D2.g R fr h) : den prog E (cAt C [true, true]) (retQ E [.tmp 6, .tmp 7] R) fr h := by
  obtain ⟨x0, e0, g⟩ := gInt_elim g
  obtain ⟨x1, e1, g⟩ := gInt_elim g
  obtain ⟨x2, e2, g⟩ := gInt_elim g
  exact den_cut 1 (r := (cAt C [true, true, true])) (by kernel_rfl) (D3.ok R) (den_enter [(0, .int .u64 x0), (1, .int .u64 x1), (2, .int .u64 x2)] ⟨e0, e1, e2, trivial⟩ (by kernel_rfl) g)
def D1.t (R : Rt) (x0 : Int) (x1 : Int) (x2 : Int) (h : Hp) : Prop :=
  cond (x2 == 0) (False) (D2.t R x0 x1 x2 h)
def D1.g (R : Rt) (fr : Fr) (h : Hp) : Prop := gInt .u64 (fr 0) fun x0 => gInt .u64 (fr 1) fun x1 => gInt .u64 (fr 2) fun x2 => D1.t R x0 x1 x2 h
theorem D1.ok (R : Rt) (fr : Fr) (h : Hp) (g : D1.g R fr h) : den prog E C (retQ E [.tmp 6, .tmp 7] R) fr h := by
  obtain ⟨x0, e0, g⟩ := gInt_elim g
  obtain ⟨x1, e1, g⟩ := gInt_elim g
  obtain ⟨x2, e2, g⟩ := gInt_elim g
  exact den_cut 2 (r := (cAt C [true, true])) (by kernel_rfl) (D2.ok R) (den_enter [(0, .int .u64 x0), (1, .int .u64 x1), (2, .int .u64 x2)] ⟨e0, e1, e2, trivial⟩ (by kernel_rfl) g)
def t (x0 : Int) (x1 : Int) (x2 : Int) (h : Hp) (R : Rt) : Prop := D1.t R x0 x1 x2 h
theorem ok {x0 : Int} {x1 : Int} {x2 : Int} {h : Hp} {R : Rt} (g : t x0 x1 x2 h R) : HC id #[.int .u64 x0, .int .u64 x1, .int .u64 x2] h R :=
  calls_of_den' envOk (c := C) (rs := [.tmp 6, .tmp 7]) Tryd.func34 (by kernel_rfl) (by kernel_rfl) (by kernel_rfl) (args := [.int .u64 x0, .int .u64 x1, .int .u64 x2]) (by kernel_rfl) (D1.ok R _ h (gInt_intro rfl (gInt_intro rfl (gInt_intro rfl (g)))))
end bits_Div64

namespace natdiv_trial
noncomputable def C : Code := bodyOf Tryd.f35
def D1.t (R : Rt) (x0 : Int) (x1 : Int) (x2 : Int) (h : Hp) : Prop :=
  cond (decide (x0 ≥ x2)) (R (.int .u64 18446744073709551615) h) (HC bits_Div64.id #[.int .u64 x0, .int .u64 x1, .int .u64 x2] h fun v1 h2 =>
  gTup v1 fun y3 =>
  uncons y3 fun v4 y4 =>
  gInt .u64 v4 fun x_5 =>
  uncons y4 fun v6 y6 =>
  gInt .u64 v6 fun x_7 =>
  unnil y6 <| R (.int .u64 x_5) h2)
def D1.g (R : Rt) (fr : Fr) (h : Hp) : Prop := gInt .u64 (fr 0) fun x0 => gInt .u64 (fr 1) fun x1 => gInt .u64 (fr 2) fun x2 => D1.t R x0 x1 x2 h
theorem D1.ok (R : Rt) (fr : Fr) (h : Hp) (g : D1.g R fr h) : den prog E C (retQ E [.tmp 6] R) fr h := by
  obtain ⟨x0, e0, g⟩ := gInt_elim g
  obtain ⟨x1, e1, g⟩ := gInt_elim g
  obtain ⟨x2, e2, g⟩ := gInt_elim g
  exact den_enter [(0, .int .u64 x0), (1, .int .u64 x1), (2, .int .u64 x2)] ⟨e0, e1, e2, trivial⟩ (by kernel_rfl) g
def t (x0 : Int) (x1 : Int) (x2 : Int) (h : Hp) (R : Rt) : Prop := D1.t R x0 x1 x2 h
theorem ok {x0 : Int} {x1 : Int} {x2 : Int} {h : Hp} {R : Rt} (g : t x0 x1 x2 h R) : HC id #[.int .u64 x0, .int .u64 x1, .int .u64 x2] h R :=
  calls_of_den' envOk (c := C) (rs := [.tmp 6]) Tryd.func35 (by kernel_rfl) (by kernel_rfl) (by kernel_rfl) (args := [.int .u64 x0, .int .u64 x1, .int .u64 x2]) (by kernel_rfl) (D1.ok R _ h (gInt_intro rfl (gInt_intro rfl (gInt_intro rfl (g)))))
end natdiv_trial

namespace natdiv_takeMul
noncomputable def C : Code := bodyOf Tryd.f36
def D2.t (R : Rt) (a0 : Option Addr) (l0 : Nat) (c0 : Nat) (a1 : Option Addr) (l1 : Nat) (c1 : Nat) (x7 : Int) (x8 : Int) (h : Hp) : Prop :=
  idxK a0 l0 (((l1 : Nat) : Int)) 1 fun q1 =>
  ldK h q1 fun v2 =>
  gInt .u64 v2 fun x_3 =>
  subK x_3 x7 x8 fun n4 m4 =>
  idxK a0 l0 (((l1 : Nat) : Int)) 1 fun q5 =>
  stK h q5 (.int .u64 n4) fun h6 =>
  R (.int .u64 m4) h6
def D2.g (R : Rt) (fr : Fr) (h : Hp) : Prop := gSlice (fr 0) fun a0 l0 c0 => gSlice (fr 1) fun a1 l1 c1 => gInt .u64 (fr 7) fun x7 => gInt .u64 (fr 8) fun x8 => D2.t R a0 l0 c0 a1 l1 c1 x7 x8 h
theorem D2.ok (R : Rt) (fr : Fr) (h : Hp) (g : D2.g R fr h) : den prog E (cAt C [true, true, true]) (retQ E [.tmp 6] R) fr h := by
  obtain ⟨a0, l0, c0, e0, g⟩ := gSlice_elim g
  obtain ⟨a1, l1, c1, e1, g⟩ := gSlice_elim g
  obtain ⟨x7, e7, g⟩ := gInt_elim g
  obtain ⟨x8, e8, g⟩ := gInt_elim g
  exact den_enter [(0, .slice a0 l0 c0), (1, .slice a1 l1 c1), (7, .int .u64 x7), (8, .int .u64 x8)] ⟨e0, e1, e7, e8, trivial⟩ (by kernel_rfl) g
def L4.g (N : Option Addr → Nat → Nat → Option Addr → Nat → Nat → Int → Int → Int → Int → Int → Hp → Prop) (fr : Fr) (h : Hp) : Prop := gSlice (fr 0) fun a0 l0 c0 => gSlice (fr 1) fun a1 l1 c1 => gInt .u64 (fr 2) fun x2 => gInt .u64 (fr 7) fun x7 => gInt .u64 (fr 8) fun x8 => gInt .i64 (fr 14) fun x14 => gInt .i64 (fr 15) fun x15 => N a0 l0 c0 a1 l1 c1 x2 x7 x8 x14 x15 h
def D5.t (R : Rt) (N4 : Option Addr → Nat → Nat → Option Addr → Nat → Nat → Int → Int → Int → Int → Int → Hp → Prop) (a0 : Option Addr) (l0 : Nat) (c0 : Nat) (a1 : Option Addr) (l1 : Nat) (c1 : Nat) (x2 : Int) (x7 : Int) (x8 : Int) (x14 : Int) (x15 : Int) (h : Hp) : Prop :=
  cond (decide (x15 < x14)) (idxK a1 l1 x15 1 fun q7 =>
  ldK h q7 fun v8 =>
  gInt .u64 v8 fun x_9 =>
  HC bits_Mul64.id #[.int .u64 x_9, .int .u64 x2] h fun v10 h11 =>
  gTup v10 fun y12 =>
  uncons y12 fun v13 y13 =>
  gInt .u64 v13 fun x_14 =>
  uncons y13 fun v15 y15 =>
  gInt .u64 v15 fun x_16 =>
  unnil y15 <| addK x_16 x7 0 fun n17 m17 =>
  letK (IntKind.u64.wrap (x_14 + m17)) fun n18 =>
  idxK a0 l0 x15 1 fun q19 =>
  ldK h11 q19 fun v20 =>
  gInt .u64 v20 fun x_21 =>
  subK x_21 n17 x8 fun n22 m22 =>
  idxK a0 l0 x15 1 fun q23 =>
  stK h11 q23 (.int .u64 n22) fun h24 =>
  letK (IntKind.i64.wrap (x15 + 1)) fun n25 =>
  N4 a0 l0 c0 a1 l1 c1 x2 n18 m22 x14 n25 h24) (D2.t R a0 l0 c0 a1 l1 c1 x7 x8 h)
def D5.g (R : Rt) (N4 : Option Addr → Nat → Nat → Option Addr → Nat → Nat → Int → Int → Int → Int → Int → Hp → Prop) (fr : Fr) (h : Hp) : Prop := gSlice (fr 0) fun a0 l0 c0 => gSlice (fr 1) fun a1 l1 c1 => gInt .u64 (fr 2) fun x2 => gInt .u64 (fr 7) fun x7 => gInt .u64 (fr 8) fun x8 => gInt .i64 (fr 14) fun x14 => gInt .i64 (fr 15) fun x15 => D5.t R N4 a0 l0 c0 a1 l1 c1 x2 x7 x8 x14 x15 h
theorem D5.ok (R : Rt) (N4 : Option Addr → Nat → Nat → Option Addr → Nat → Nat → Int → Int → Int → Int → Int → Hp → Prop) (fr : Fr) (h : Hp) (g : D5.g R N4 fr h) : den prog E (cAt C [true, true, false, true, false, false]) (Ex.then (L4.g N4) (Ex.inBlock 0 (Ex.then (D2.g R) (retQ E [.tmp 6] R)))) fr h := by
  obtain ⟨a0, l0, c0, e0, g⟩ := gSlice_elim g
  obtain ⟨a1, l1, c1, e1, g⟩ := gSlice_elim g
  obtain ⟨x2, e2, g⟩ := gInt_elim g
  obtain ⟨x7, e7, g⟩ := gInt_elim g
  obtain ⟨x8, e8, g⟩ := gInt_elim g
  obtain ⟨x14, e14, g⟩ := gInt_elim g
  obtain ⟨x15, e15, g⟩ := gInt_elim g
  exact den_enter [(0, .slice a0 l0 c0), (1, .slice a1 l1 c1), (2, .int .u64 x2), (7, .int .u64 x7), (8, .int .u64 x8), (14, .int .i64 x14), (15, .int .i64 x15)] ⟨e0, e1, e2, e7, e8, e14, e15, trivial⟩ (by kernel_rfl) g
def L4.t (R : Rt) : Nat → Option Addr → Nat → Nat → Option Addr → Nat → Nat → Int → Int → Int → Int → Int → Hp → Prop
  | 0 => fun _ _ _ _ _ _ _ _ _ _ _ _ => False
  | n + 1 => fun a0 l0 c0 a1 l1 c1 x2 x7 x8 x14 x15 h => D5.t R (L4.t R n) a0 l0 c0 a1 l1 c1 x2 x7 x8 x14 x15 h
theorem L4.ok (R : Rt) (fr : Fr) (h : Hp) (g : L4.g (fun a0 l0 c0 a1 l1 c1 x2 x7 x8 x14 x15 h => ∃ n, L4.t R n a0 l0 c0 a1 l1 c1 x2 x7 x8 x14 x15 h) fr h) : den prog E (cAt C [true, true, false, true, false]) (Ex.inBlock 0 (Ex.then (D2.g R) (retQ E [.tmp 6] R))) fr h := by
  obtain ⟨a0, l0, c0, e0, g⟩ := gSlice_elim g
  obtain ⟨a1, l1, c1, e1, g⟩ := gSlice_elim g
  obtain ⟨x2, e2, g⟩ := gInt_elim g
  obtain ⟨x7, e7, g⟩ := gInt_elim g
  obtain ⟨x8, e8, g⟩ := gInt_elim g
  obtain ⟨x14, e14, g⟩ := gInt_elim g
  obtain ⟨x15, e15, g⟩ := gInt_elim g
  obtain ⟨n, g⟩ := g
  refine loop_ok (fun n => L4.g (L4.t R n)) (b := (cAt C [true, true, false, true, false, false])) (by kernel_rfl) (fun fr h g => ?_) (fun n => D5.ok R (L4.t R n)) n fr h (gSlice_intro e0 (gSlice_intro e1 (gInt_intro e2 (gInt_intro e7 (gInt_intro e8 (gInt_intro e14 (gInt_intro e15 (g))))))))
  obtain ⟨a0, l0, c0, e0, g⟩ := gSlice_elim g
  obtain ⟨a1, l1, c1, e1, g⟩ := gSlice_elim g
  obtain ⟨x2, e2, g⟩ := gInt_elim g
  obtain ⟨x7, e7, g⟩ := gInt_elim g
  obtain ⟨x8, e8, g⟩ := gInt_elim g
  obtain ⟨x14, e14, g⟩ := gInt_elim g
  obtain ⟨x15, e15, g⟩ := gInt_elim g
  exact g
theorem B6.ok (R : Rt) (fr : Fr) (h : Hp) (g : L4.g (fun a0 l0 c0 a1 l1 c1 x2 x7 x8 x14 x15 h => ∃ n, L4.t R n a0 l0 c0 a1 l1 c1 x2 x7 x8 x14 x15 h) fr h) : den prog E (cAt C [true, true, false, true]) (Ex.then (D2.g R) (retQ E [.tmp 6] R)) fr h :=
  den_block (by kernel_rfl) (L4.ok R fr h g)
def D3.t (R : Rt) (a0 : Option Addr) (l0 : Nat) (c0 : Nat) (a1 : Option Addr) (l1 : Nat) (c1 : Nat) (x2 : Int) (x7 : Int) (x8 : Int) (h : Hp) : Prop :=
  (∃ n, L4.t R n a0 l0 c0 a1 l1 c1 x2 x7 x8 (((l1 : Nat) : Int)) 0 h)
def D3.g (R : Rt) (fr : Fr) (h : Hp) : Prop := gSlice (fr 0) fun a0 l0 c0 => gSlice (fr 1) fun a1 l1 c1 => gInt .u64 (fr 2) fun x2 => gInt .u64 (fr 7) fun x7 => gInt .u64 (fr 8) fun x8 => D3.t R a0 l0 c0 a1 l1 c1 x2 x7 x8 h
theorem D3.ok (R : Rt) (fr : Fr) (h : Hp) (g : D3.g R fr h) : den prog E (cAt C [true, true, false]) (Ex.then (D2.g R) (retQ E [.tmp 6] R)) fr h := by
  obtain ⟨a0, l0, c0, e0, g⟩ := gSlice_elim g
  obtain ⟨a1, l1, c1, e1, g⟩ := gSlice_elim g
  obtain ⟨x2, e2, g⟩ := gInt_elim g
  obtain ⟨x7, e7, g⟩ := gInt_elim g
  obtain ⟨x8, e8, g⟩ := gInt_elim g
  exact den_cut 1 (r := (cAt C [true, true, false, true])) (by kernel_rfl) (B6.ok R) (den_enter [(0, .slice a0 l0 c0), (1, .slice a1 l1 c1), (2, .int .u64 x2), (7, .int .u64 x7), (8, .int .u64 x8)] ⟨e0, e1, e2, e7, e8, trivial⟩ (by kernel_rfl) g)
theorem W7.ok (R : Rt) (fr : Fr) (h : Hp) (g : D3.g R fr h) : den prog E (cAt C [true, true]) (retQ E [.tmp 6] R) fr h :=
  den_then (by kernel_rfl) (D2.ok R) (D3.ok R fr h g)
def D1.t (R : Rt) (a0 : Option Addr) (l0 : Nat) (c0 : Nat) (a1 : Option Addr) (l1 : Nat) (c1 : Nat) (x2 : Int) (h : Hp) : Prop :=
  D3.t R a0 l0 c0 a1 l1 c1 x2 0 0 h
def D1.g (R : Rt) (fr : Fr) (h : Hp) : Prop := gSlice (fr 0) fun a0 l0 c0 => gSlice (fr 1) fun a1 l1 c1 => gInt .u64 (fr 2) fun x2 => D1.t R a0 l0 c0 a1 l1 c1 x2 h
theorem D1.ok (R : Rt) (fr : Fr) (h : Hp) (g : D1.g R fr h) : den prog E C (retQ E [.tmp 6] R) fr h := by
  obtain ⟨a0, l0, c0, e0, g⟩ := gSlice_elim g
  obtain ⟨a1, l1, c1, e1, g⟩ := gSlice_elim g
  obtain ⟨x2, e2, g⟩ := gInt_elim g
  exact den_cut 2 (r := (cAt C [true, true])) (by kernel_rfl) (W7.ok R) (den_enter [(0, .slice a0 l0 c0), (1, .slice a1 l1 c1), (2, .int .u64 x2)] ⟨e0, e1, e2, trivial⟩ (by kernel_rfl) g)
def t (a0 : Option Addr) (l0 : Nat) (c0 : Nat) (a1 : Option Addr) (l1 : Nat) (c1 : Nat) (x2 : Int) (h : Hp) (R : Rt) : Prop := D1.t R a0 l0 c0 a1 l1 c1 x2 h
theorem ok {a0 : Option Addr} {l0 : Nat} {c0 : Nat} {a1 : Option Addr} {l1 : Nat} {c1 : Nat} {x2 : Int} {h : Hp} {R : Rt} (g : t a0 l0 c0 a1 l1 c1 x2 h R) : HC id #[.slice a0 l0 c0, .slice a1 l1 c1, .int .u64 x2] h R :=
  calls_of_den' envOk (c := C) (rs := [.tmp 6]) Tryd.func36 (by kernel_rfl) (by kernel_rfl) (by kernel_rfl) (args := [.slice a0 l0 c0, .slice a1 l1 c1, .int .u64 x2]) (by kernel_rfl) (D1.ok R _ h (gSlice_intro rfl (gSlice_intro rfl (gInt_intro rfl (g)))))
end natdiv_takeMul

namespace natdiv_giveBack
noncomputable def C : Code := bodyOf Tryd.f37
def D2.t (R : Rt) (a0 : Option Addr) (l0 : Nat) (c0 : Nat) (a1 : Option Addr) (l1 : Nat) (c1 : Nat) (x5 : Int) (h : Hp) : Prop :=
  idxK a0 l0 (((l1 : Nat) : Int)) 1 fun q1 =>
  ldK h q1 fun v2 =>
  gInt .u64 v2 fun x_3 =>
  addK x_3 0 x5 fun n4 m4 =>
  idxK a0 l0 (((l1 : Nat) : Int)) 1 fun q5 =>
  stK h q5 (.int .u64 n4) fun h6 =>
  R (.int .u64 m4) h6
def D2.g (R : Rt) (fr : Fr) (h : Hp) : Prop := gSlice (fr 0) fun a0 l0 c0 => gSlice (fr 1) fun a1 l1 c1 => gInt .u64 (fr 5) fun x5 => D2.t R a0 l0 c0 a1 l1 c1 x5 h
theorem D2.ok (R : Rt) (fr : Fr) (h : Hp) (g : D2.g R fr h) : den prog E (cAt C [true, true, true]) (retQ E [.tmp 4] R) fr h := by
  obtain ⟨a0, l0, c0, e0, g⟩ := gSlice_elim g
  obtain ⟨a1, l1, c1, e1, g⟩ := gSlice_elim g
  obtain ⟨x5, e5, g⟩ := gInt_elim g
  exact den_enter [(0, .slice a0 l0 c0), (1, .slice a1 l1 c1), (5, .int .u64 x5)] ⟨e0, e1, e5, trivial⟩ (by kernel_rfl) g
def L4.g (N : Option Addr → Nat → Nat → Option Addr → Nat → Nat → Int → Int → Int → Hp → Prop) (fr : Fr) (h : Hp) : Prop := gSlice (fr 0) fun a0 l0 c0 => gSlice (fr 1) fun a1 l1 c1 => gInt .u64 (fr 5) fun x5 => gInt .i64 (fr 8) fun x8 => gInt .i64 (fr 9) fun x9 => N a0 l0 c0 a1 l1 c1 x5 x8 x9 h
def D5.t (R : Rt) (N4 : Option Addr → Nat → Nat → Option Addr → Nat → Nat → Int → Int → Int → Hp → Prop) (a0 : Option Addr) (l0 : Nat) (c0 : Nat) (a1 : Option Addr) (l1 : Nat) (c1 : Nat) (x5 : Int) (x8 : Int) (x9 : Int) (h : Hp) : Prop :=
  cond (decide (x9 < x8)) (idxK a0 l0 x9 1 fun q7 =>
  ldK h q7 fun v8 =>
  gInt .u64 v8 fun x_9 =>
  idxK a1 l1 x9 1 fun q10 =>
  ldK h q10 fun v11 =>
  gInt .u64 v11 fun x_12 =>
  addK x_9 x_12 x5 fun n13 m13 =>
  idxK a0 l0 x9 1 fun q14 =>
  stK h q14 (.int .u64 n13) fun h15 =>
  letK (IntKind.i64.wrap (x9 + 1)) fun n16 =>
  N4 a0 l0 c0 a1 l1 c1 m13 x8 n16 h15) (D2.t R a0 l0 c0 a1 l1 c1 x5 h)
def D5.g (R : Rt) (N4 : Option Addr → Nat → Nat → Option Addr → Nat → Nat → Int → Int → Int → Hp → Prop) (fr : Fr) (h : Hp) : Prop := gSlice (fr 0) fun a0 l0 c0 => gSlice (fr 1) fun a1 l1 c1 => gInt .u64 (fr 5) fun x5 => gInt .i64 (fr 8) fun x8 => gInt .i64 (fr 9) fun x9 => D5.t R N4 a0 l0 c0 a1 l1 c1 x5 x8 x9 h
theorem D5.ok (R : Rt) (N4 : Option Addr → Nat → Nat → Option Addr → Nat → Nat → Int → Int → Int → Hp → Prop) (fr : Fr) (h : Hp) (g : D5.g R N4 fr h) : den prog E (cAt C [true, true, false, true, false, false]) (Ex.then (L4.g N4) (Ex.inBlock 0 (Ex.then (D2.g R) (retQ E [.tmp 4] R)))) fr h := by
  obtain ⟨a0, l0, c0, e0, g⟩ := gSlice_elim g
  obtain ⟨a1, l1, c1, e1, g⟩ := gSlice_elim g
  obtain ⟨x5, e5, g⟩ := gInt_elim g
  obtain ⟨x8, e8, g⟩ := gInt_elim g
  obtain ⟨x9, e9, g⟩ := gInt_elim g
  exact den_enter [(0, .slice a0 l0 c0), (1, .slice a1 l1 c1), (5, .int .u64 x5), (8, .int .i64 x8), (9, .int .i64 x9)] ⟨e0, e1, e5, e8, e9, trivial⟩ (by kernel_rfl) g
def L4.t (R : Rt) : Nat → Option Addr → Nat → Nat → Option Addr → Nat → Nat → Int → Int → Int → Hp → Prop
  | 0 => fun _ _ _ _ _ _ _ _ _ _ => False
  | n + 1 => fun a0 l0 c0 a1 l1 c1 x5 x8 x9 h => D5.t R (L4.t R n) a0 l0 c0 a1 l1 c1 x5 x8 x9 h
theorem L4.ok (R : Rt) (fr : Fr) (h : Hp) (g : L4.g (fun a0 l0 c0 a1 l1 c1 x5 x8 x9 h => ∃ n, L4.t R n a0 l0 c0 a1 l1 c1 x5 x8 x9 h) fr h) : den prog E (cAt C [true, true, false, true, false]) (Ex.inBlock 0 (Ex.then (D2.g R) (retQ E [.tmp 4] R))) fr h := by
  obtain ⟨a0, l0, c0, e0, g⟩ := gSlice_elim g
  obtain ⟨a1, l1, c1, e1, g⟩ := gSlice_elim g
  obtain ⟨x5, e5, g⟩ := gInt_elim g
  obtain ⟨x8, e8, g⟩ := gInt_elim g
  obtain ⟨x9, e9, g⟩ := gInt_elim g
  obtain ⟨n, g⟩ := g
  refine loop_ok (fun n => L4.g (L4.t R n)) (b := (cAt C [true, true, false, true, false, false])) (by kernel_rfl) (fun fr h g => ?_) (fun n => D5.ok R (L4.t R n)) n fr h (gSlice_intro e0 (gSlice_intro e1 (gInt_intro e5 (gInt_intro e8 (gInt_intro e9 (g))))))
  obtain ⟨a0, l0, c0, e0, g⟩ := gSlice_elim g
  obtain ⟨a1, l1, c1, e1, g⟩ := gSlice_elim g
  obtain ⟨x5, e5, g⟩ := gInt_elim g
  obtain ⟨x8, e8, g⟩ := gInt_elim g
  obtain ⟨x9, e9, g⟩ := gInt_elim g
  exact g
theorem B6.ok (R : Rt) (fr : Fr) (h : Hp) (g : L4.g (fun a0 l0 c0 a1 l1 c1 x5 x8 x9 h => ∃ n, L4.t R n a0 l0 c0 a1 l1 c1 x5 x8 x9 h) fr h) : den prog E (cAt C [true, true, false, true]) (Ex.then (D2.g R) (retQ E [.tmp 4] R)) fr h :=
  den_block (by kernel_rfl) (L4.ok R fr h g)
def D3.t (R : Rt) (a0 : Option Addr) (l0 : Nat) (c0 : Nat) (a1 : Option Addr) (l1 : Nat) (c1 : Nat) (x5 : Int) (h : Hp) : Prop :=
  (∃ n, L4.t R n a0 l0 c0 a1 l1 c1 x5 (((l1 : Nat) : Int)) 0 h)
def D3.g (R : Rt) (fr : Fr) (h : Hp) : Prop := gSlice (fr 0) fun a0 l0 c0 => gSlice (fr 1) fun a1 l1 c1 => gInt .u64 (fr 5) fun x5 => D3.t R a0 l0 c0 a1 l1 c1 x5 h
theorem D3.ok (R : Rt) (fr : Fr) (h : Hp) (g : D3.g R fr h) : den prog E (cAt C [true, true, false]) (Ex.then (D2.g R) (retQ E [.tmp 4] R)) fr h := by
  obtain ⟨a0, l0, c0, e0, g⟩ := gSlice_elim g
  obtain ⟨a1, l1, c1, e1, g⟩ := gSlice_elim g
  obtain ⟨x5, e5, g⟩ := gInt_elim g
  exact den_cut 1 (r := (cAt C [true, true, false, true])) (by kernel_rfl) (B6.ok R) (den_enter [(0, .slice a0 l0 c0), (1, .slice a1 l1 c1), (5, .int .u64 x5)] ⟨e0, e1, e5, trivial⟩ (by kernel_rfl) g)
theorem W7.ok (R : Rt) (fr : Fr) (h : Hp) (g : D3.g R fr h) : den prog E (cAt C [true, true]) (retQ E [.tmp 4] R) fr h :=
  den_then (by kernel_rfl) (D2.ok R) (D3.ok R fr h g)
def D1.t (R : Rt) (a0 : Option Addr) (l0 : Nat) (c0 : Nat) (a1 : Option Addr) (l1 : Nat) (c1 : Nat) (h : Hp) : Prop :=
  D3.t R a0 l0 c0 a1 l1 c1 0 h
def D1.g (R : Rt) (fr : Fr) (h : Hp) : Prop := gSlice (fr 0) fun a0 l0 c0 => gSlice (fr 1) fun a1 l1 c1 => D1.t R a0 l0 c0 a1 l1 c1 h
theorem D1.ok (R : Rt) (fr : Fr) (h : Hp) (g : D1.g R fr h) : den prog E C (retQ E [.tmp 4] R) fr h := by
  obtain ⟨a0, l0, c0, e0, g⟩ := gSlice_elim g
  obtain ⟨a1, l1, c1, e1, g⟩ := gSlice_elim g
  exact den_cut 2 (r := (cAt C [true, true])) (by kernel_rfl) (W7.ok R) (den_enter [(0, .slice a0 l0 c0), (1, .slice a1 l1 c1)] ⟨e0, e1, trivial⟩ (by kernel_rfl) g)
def t (a0 : Option Addr) (l0 : Nat) (c0 : Nat) (a1 : Option Addr) (l1 : Nat) (c1 : Nat) (h : Hp) (R : Rt) : Prop := D1.t R a0 l0 c0 a1 l1 c1 h
theorem ok {a0 : Option Addr} {l0 : Nat} {c0 : Nat} {a1 : Option Addr} {l1 : Nat} {c1 : Nat} {h : Hp} {R : Rt} (g : t a0 l0 c0 a1 l1 c1 h R) : HC id #[.slice a0 l0 c0, .slice a1 l1 c1] h R :=
  calls_of_den' envOk (c := C) (rs := [.tmp 4]) Tryd.func37 (by kernel_rfl) (by kernel_rfl) (by kernel_rfl) (args := [.slice a0 l0 c0, .slice a1 l1 c1]) (by kernel_rfl) (D1.ok R _ h (gSlice_intro rfl (gSlice_intro rfl (g))))
end natdiv_giveBack

end Go.Proofs.YtjjpfgjnnlgiiaaDoor.G
