/- Texts of this work, joined: Fp0. -/
import Derived.Test.YtanlcacaihdceaaGreatDoorKE
/- Functions of the translation as predicates over heaps, and that their calls do so. Written by a program of this work. -/
namespace Go.Proofs.YtanlcacaihdceaaGreatDoor.G
open Go.Gv
set_option linter.unusedVariables false
set_option maxRecDepth 100000



namespace gnomonlaw04_NumQuotients
noncomputable def C : Code := bodyOf Tryz.f6
def D1.t (R : Rt) (a0 : Option Addr) (l0 : Nat) (c0 : Nat) (h : Hp) : Prop :=
  HC gnomonlaw04_halves.id #[] h fun v1 h2 =>
  gBool v1 fun b_3 =>
  cond b_3 (HC gnomonlaw04_all.id #[.slice a0 l0 c0, .int .i64 14, .int .i64 17] h2 fun v4 h5 =>
  gBool v4 fun b_6 =>
  R (.bool b_6) h5) (R (.bool false) h2)
def D1.g (R : Rt) (fr : Fr) (h : Hp) : Prop := gSlice (fr 0) fun a0 l0 c0 => D1.t R a0 l0 c0 h
theorem D1.ok (R : Rt) (fr : Fr) (h : Hp) (g : D1.g R fr h) : den prog E C (retQ E [.tmp 2] R) fr h := by
  obtain ⟨a0, l0, c0, e0, g⟩ := gSlice_elim g
  exact den_enter [(0, .slice a0 l0 c0)] ⟨e0, trivial⟩ (by kernel_rfl) g
def t (a0 : Option Addr) (l0 : Nat) (c0 : Nat) (h : Hp) (R : Rt) : Prop := D1.t R a0 l0 c0 h
theorem ok {a0 : Option Addr} {l0 : Nat} {c0 : Nat} {h : Hp} {R : Rt} (g : t a0 l0 c0 h R) : HC id #[.slice a0 l0 c0] h R :=
  calls_of_den' envOk (c := C) (rs := [.tmp 2]) Tryz.func6 (by kernel_rfl) (by kernel_rfl) (by kernel_rfl) (args := [.slice a0 l0 c0]) (by kernel_rfl) (D1.ok R _ h (gSlice_intro rfl (g)))
end gnomonlaw04_NumQuotients


namespace gnomonlaw04_all
noncomputable def C : Code := bodyOf Tryz.f8
def D2.t (R : Rt)  (h : Hp) : Prop :=
  R (.bool true) h
def D2.g (R : Rt) (fr : Fr) (h : Hp) : Prop := D2.t R  h
theorem D2.ok (R : Rt) (fr : Fr) (h : Hp) (g : D2.g R fr h) : den prog E (cAt C [true, true]) (retQ E [.tmp 6] R) fr h := by
  exact den_enter [] trivial (by kernel_rfl) g
def L4.g (N : Int → Int → Option Addr → Nat → Nat → Int → Int → Hp → Prop) (fr : Fr) (h : Hp) : Prop := gInt .i64 (fr 1) fun x1 => gInt .i64 (fr 2) fun x2 => gSlice (fr 9) fun a9 l9 c9 => gInt .i64 (fr 10) fun x10 => gInt .i64 (fr 11) fun x11 => N x1 x2 a9 l9 c9 x10 x11 h
def D5.t (R : Rt) (N4 : Int → Int → Option Addr → Nat → Nat → Int → Int → Hp → Prop) (x1 : Int) (x2 : Int) (a9 : Option Addr) (l9 : Nat) (c9 : Nat) (x10 : Int) (x11 : Int) (h : Hp) : Prop :=
  cond (decide (x11 < x10)) (idxK a9 l9 x11 6 fun q1 =>
  ldK h (q1.add 0) fun v2 =>
  gInt .i64 v2 fun x_3 =>
  ldK h (q1.add 1) fun v4 =>
  gBool v4 fun b_5 =>
  ldK h (q1.add 2) fun v6 =>
  gSlice v6 fun a_7 l_7 c_7 =>
  ldK h (q1.add 3) fun v8 =>
  gBool v8 fun b_9 =>
  ldK h (q1.add 4) fun v10 =>
  gSlice v10 fun a_11 l_11 c_11 =>
  ldK h (q1.add 5) fun v12 =>
  gInt .i64 v12 fun x_13 =>
  boxK h 38 T38.zs fun q14 h15 =>
  stK h15 (q14.add 0) (.int .i64 x_3) fun h16 =>
  stK h16 (q14.add 1) (.bool b_5) fun h17 =>
  stK h17 (q14.add 2) (.slice a_7 l_7 c_7) fun h18 =>
  stK h18 (q14.add 3) (.bool b_9) fun h19 =>
  stK h19 (q14.add 4) (.slice a_11 l_11 c_11) fun h20 =>
  stK h20 (q14.add 5) (.int .i64 x_13) fun h21 =>
  ldK h21 (q14.add 0) fun v22 =>
  gInt .i64 v22 fun x_23 =>
  cond (decide (x_23 ≥ x1)) (ldK h21 (q14.add 0) fun v24 =>
  gInt .i64 v24 fun x_25 =>
  cond (decide (x_25 ≤ x2)) (ldK h21 (q14.add 0) fun v26 =>
  gInt .i64 v26 fun x_27 =>
  ldK h21 (q14.add 1) fun v28 =>
  gBool v28 fun b_29 =>
  ldK h21 (q14.add 2) fun v30 =>
  gSlice v30 fun a_31 l_31 c_31 =>
  ldK h21 (q14.add 3) fun v32 =>
  gBool v32 fun b_33 =>
  ldK h21 (q14.add 4) fun v34 =>
  gSlice v34 fun a_35 l_35 c_35 =>
  ldK h21 (q14.add 5) fun v36 =>
  gInt .i64 v36 fun x_37 =>
  HC gnomonlaw04_plays.id #[.agg #[.int .i64 x_27, .bool b_29, .slice a_31 l_31 c_31, .bool b_33, .slice a_35 l_35 c_35, .int .i64 x_37]] h21 fun v38 h39 =>
  gBool v38 fun b_40 =>
  cond (!b_40) (R (.bool false) h39) (letK (IntKind.i64.wrap (x11 + 1)) fun n41 =>
  N4 x1 x2 a9 l9 c9 x10 n41 h39)) (letK (IntKind.i64.wrap (x11 + 1)) fun n42 =>
  N4 x1 x2 a9 l9 c9 x10 n42 h21)) (letK (IntKind.i64.wrap (x11 + 1)) fun n43 =>
  N4 x1 x2 a9 l9 c9 x10 n43 h21)) (D2.t R h)
def D5.g (R : Rt) (N4 : Int → Int → Option Addr → Nat → Nat → Int → Int → Hp → Prop) (fr : Fr) (h : Hp) : Prop := gInt .i64 (fr 1) fun x1 => gInt .i64 (fr 2) fun x2 => gSlice (fr 9) fun a9 l9 c9 => gInt .i64 (fr 10) fun x10 => gInt .i64 (fr 11) fun x11 => D5.t R N4 x1 x2 a9 l9 c9 x10 x11 h
theorem D5.ok (R : Rt) (N4 : Int → Int → Option Addr → Nat → Nat → Int → Int → Hp → Prop) (fr : Fr) (h : Hp) (g : D5.g R N4 fr h) : den prog E (cAt C [true, false, true, false, false]) (Ex.then (L4.g N4) (Ex.inBlock 0 (Ex.then (D2.g R) (retQ E [.tmp 6] R)))) fr h := by
  obtain ⟨x1, e1, g⟩ := gInt_elim g
  obtain ⟨x2, e2, g⟩ := gInt_elim g
  obtain ⟨a9, l9, c9, e9, g⟩ := gSlice_elim g
  obtain ⟨x10, e10, g⟩ := gInt_elim g
  obtain ⟨x11, e11, g⟩ := gInt_elim g
  exact den_enter [(1, .int .i64 x1), (2, .int .i64 x2), (9, .slice a9 l9 c9), (10, .int .i64 x10), (11, .int .i64 x11)] ⟨e1, e2, e9, e10, e11, trivial⟩ (by kernel_rfl) g
def L4.t (R : Rt) : Nat → Int → Int → Option Addr → Nat → Nat → Int → Int → Hp → Prop
  | 0 => fun _ _ _ _ _ _ _ _ => False
  | n + 1 => fun x1 x2 a9 l9 c9 x10 x11 h => D5.t R (L4.t R n) x1 x2 a9 l9 c9 x10 x11 h
theorem L4.ok (R : Rt) (fr : Fr) (h : Hp) (g : L4.g (fun x1 x2 a9 l9 c9 x10 x11 h => ∃ n, L4.t R n x1 x2 a9 l9 c9 x10 x11 h) fr h) : den prog E (cAt C [true, false, true, false]) (Ex.inBlock 0 (Ex.then (D2.g R) (retQ E [.tmp 6] R))) fr h := by
  obtain ⟨x1, e1, g⟩ := gInt_elim g
  obtain ⟨x2, e2, g⟩ := gInt_elim g
  obtain ⟨a9, l9, c9, e9, g⟩ := gSlice_elim g
  obtain ⟨x10, e10, g⟩ := gInt_elim g
  obtain ⟨x11, e11, g⟩ := gInt_elim g
  obtain ⟨n, g⟩ := g
  refine loop_ok (fun n => L4.g (L4.t R n)) (b := (cAt C [true, false, true, false, false])) (by kernel_rfl) (fun fr h g => ?_) (fun n => D5.ok R (L4.t R n)) n fr h (gInt_intro e1 (gInt_intro e2 (gSlice_intro e9 (gInt_intro e10 (gInt_intro e11 (g))))))
  obtain ⟨x1, e1, g⟩ := gInt_elim g
  obtain ⟨x2, e2, g⟩ := gInt_elim g
  obtain ⟨a9, l9, c9, e9, g⟩ := gSlice_elim g
  obtain ⟨x10, e10, g⟩ := gInt_elim g
  obtain ⟨x11, e11, g⟩ := gInt_elim g
  exact g
theorem B6.ok (R : Rt) (fr : Fr) (h : Hp) (g : L4.g (fun x1 x2 a9 l9 c9 x10 x11 h => ∃ n, L4.t R n x1 x2 a9 l9 c9 x10 x11 h) fr h) : den prog E (cAt C [true, false, true]) (Ex.then (D2.g R) (retQ E [.tmp 6] R)) fr h :=
  den_block (by kernel_rfl) (L4.ok R fr h g)
def D3.t (R : Rt) (a0 : Option Addr) (l0 : Nat) (c0 : Nat) (x1 : Int) (x2 : Int) (h : Hp) : Prop :=
  (∃ n, L4.t R n x1 x2 a0 l0 c0 (((l0 : Nat) : Int)) 0 h)
def D3.g (R : Rt) (fr : Fr) (h : Hp) : Prop := gSlice (fr 0) fun a0 l0 c0 => gInt .i64 (fr 1) fun x1 => gInt .i64 (fr 2) fun x2 => D3.t R a0 l0 c0 x1 x2 h
theorem D3.ok (R : Rt) (fr : Fr) (h : Hp) (g : D3.g R fr h) : den prog E (cAt C [true, false]) (Ex.then (D2.g R) (retQ E [.tmp 6] R)) fr h := by
  obtain ⟨a0, l0, c0, e0, g⟩ := gSlice_elim g
  obtain ⟨x1, e1, g⟩ := gInt_elim g
  obtain ⟨x2, e2, g⟩ := gInt_elim g
  exact den_cut 1 (r := (cAt C [true, false, true])) (by kernel_rfl) (B6.ok R) (den_enter [(0, .slice a0 l0 c0), (1, .int .i64 x1), (2, .int .i64 x2)] ⟨e0, e1, e2, trivial⟩ (by kernel_rfl) g)
theorem W7.ok (R : Rt) (fr : Fr) (h : Hp) (g : D3.g R fr h) : den prog E (cAt C [true]) (retQ E [.tmp 6] R) fr h :=
  den_then (by kernel_rfl) (D2.ok R) (D3.ok R fr h g)
def D1.t (R : Rt) (a0 : Option Addr) (l0 : Nat) (c0 : Nat) (x1 : Int) (x2 : Int) (h : Hp) : Prop :=
  D3.t R a0 l0 c0 x1 x2 h
def D1.g (R : Rt) (fr : Fr) (h : Hp) : Prop := gSlice (fr 0) fun a0 l0 c0 => gInt .i64 (fr 1) fun x1 => gInt .i64 (fr 2) fun x2 => D1.t R a0 l0 c0 x1 x2 h
theorem D1.ok (R : Rt) (fr : Fr) (h : Hp) (g : D1.g R fr h) : den prog E C (retQ E [.tmp 6] R) fr h := by
  obtain ⟨a0, l0, c0, e0, g⟩ := gSlice_elim g
  obtain ⟨x1, e1, g⟩ := gInt_elim g
  obtain ⟨x2, e2, g⟩ := gInt_elim g
  exact den_cut 1 (r := (cAt C [true])) (by kernel_rfl) (W7.ok R) (den_enter [(0, .slice a0 l0 c0), (1, .int .i64 x1), (2, .int .i64 x2)] ⟨e0, e1, e2, trivial⟩ (by kernel_rfl) g)
def t (a0 : Option Addr) (l0 : Nat) (c0 : Nat) (x1 : Int) (x2 : Int) (h : Hp) (R : Rt) : Prop := D1.t R a0 l0 c0 x1 x2 h
theorem ok {a0 : Option Addr} {l0 : Nat} {c0 : Nat} {x1 : Int} {x2 : Int} {h : Hp} {R : Rt} (g : t a0 l0 c0 x1 x2 h R) : HC id #[.slice a0 l0 c0, .int .i64 x1, .int .i64 x2] h R :=
  calls_of_den' envOk (c := C) (rs := [.tmp 6]) Tryz.func8 (by kernel_rfl) (by kernel_rfl) (by kernel_rfl) (args := [.slice a0 l0 c0, .int .i64 x1, .int .i64 x2]) (by kernel_rfl) (D1.ok R _ h (gSlice_intro rfl (gInt_intro rfl (gInt_intro rfl (g)))))
end gnomonlaw04_all

namespace gnomonlaw04_halves
noncomputable def C : Code := bodyOf Tryz.f9
def D1.t (R : Rt)  (h : Hp) : Prop :=
  HC num_Of.id #[.int .i64 (-7)] h fun v1 h2 =>
  gAgg v1 fun y3 =>
  uncons y3 fun v4 y4 =>
  gBool v4 fun b_5 =>
  uncons y4 fun v6 y6 =>
  gSlice v6 fun a_7 l_7 c_7 =>
  unnil y6 <| HC num_Of.id #[.int .i64 2] h2 fun v8 h9 =>
  gAgg v8 fun y10 =>
  uncons y10 fun v11 y11 =>
  gBool v11 fun b_12 =>
  uncons y11 fun v13 y13 =>
  gSlice v13 fun a_14 l_14 c_14 =>
  unnil y13 <| HC num_FloorDiv.id #[.agg #[.bool b_5, .slice a_7 l_7 c_7], .agg #[.bool b_12, .slice a_14 l_14 c_14]] h9 fun v15 h16 =>
  gTup v15 fun y17 =>
  uncons y17 fun v18 y18 =>
  gAgg v18 fun y19 =>
  uncons y19 fun v20 y20 =>
  gBool v20 fun b_21 =>
  uncons y20 fun v22 y22 =>
  gSlice v22 fun a_23 l_23 c_23 =>
  unnil y22 <| uncons y18 fun v24 y24 =>
  gInt .i64 v24 fun x_25 =>
  unnil y24 <| boxK h16 28 T28.zs fun q26 h27 =>
  stK h27 (q26.add 0) (.bool b_21) fun h28 =>
  stK h28 (q26.add 1) (.slice a_23 l_23 c_23) fun h29 =>
  HC num_Of.id #[.int .i64 7] h29 fun v30 h31 =>
  gAgg v30 fun y32 =>
  uncons y32 fun v33 y33 =>
  gBool v33 fun b_34 =>
  uncons y33 fun v35 y35 =>
  gSlice v35 fun a_36 l_36 c_36 =>
  unnil y35 <| HC num_NearShr.id #[.agg #[.bool b_34, .slice a_36 l_36 c_36], .int .i64 1] h31 fun v37 h38 =>
  gTup v37 fun y39 =>
  uncons y39 fun v40 y40 =>
  gAgg v40 fun y41 =>
  uncons y41 fun v42 y42 =>
  gBool v42 fun b_43 =>
  uncons y42 fun v44 y44 =>
  gSlice v44 fun a_45 l_45 c_45 =>
  unnil y44 <| uncons y40 fun v46 y46 =>
  gInt .i64 v46 fun x_47 =>
  unnil y46 <| boxK h38 28 T28.zs fun q48 h49 =>
  stK h49 (q48.add 0) (.bool b_43) fun h50 =>
  stK h50 (q48.add 1) (.slice a_45 l_45 c_45) fun h51 =>
  HC num_Of.id #[.int .i64 (-7)] h51 fun v52 h53 =>
  gAgg v52 fun y54 =>
  uncons y54 fun v55 y55 =>
  gBool v55 fun b_56 =>
  uncons y55 fun v57 y57 =>
  gSlice v57 fun a_58 l_58 c_58 =>
  unnil y57 <| HC num_Of.id #[.int .i64 3] h53 fun v59 h60 =>
  gAgg v59 fun y61 =>
  uncons y61 fun v62 y62 =>
  gBool v62 fun b_63 =>
  uncons y62 fun v64 y64 =>
  gSlice v64 fun a_65 l_65 c_65 =>
  unnil y64 <| HC num_Mod.id #[.agg #[.bool b_56, .slice a_58 l_58 c_58], .agg #[.bool b_63, .slice a_65 l_65 c_65]] h60 fun v66 h67 =>
  gTup v66 fun y68 =>
  uncons y68 fun v69 y69 =>
  gAgg v69 fun y70 =>
  uncons y70 fun v71 y71 =>
  gBool v71 fun b_72 =>
  uncons y71 fun v73 y73 =>
  gSlice v73 fun a_74 l_74 c_74 =>
  unnil y73 <| uncons y69 fun v75 y75 =>
  gInt .i64 v75 fun x_76 =>
  unnil y75 <| boxK h67 28 T28.zs fun q77 h78 =>
  stK h78 (q77.add 0) (.bool b_72) fun h79 =>
  stK h79 (q77.add 1) (.slice a_74 l_74 c_74) fun h80 =>
  cond (x_25 == 0) (cond (x_47 == 0) (cond (x_76 == 0) (q26.block < h80.size ∧ ldK h80 (q26.add 0) fun v81 =>
  gBool v81 fun b_82 =>
  ldK h80 (q26.add 1) fun v83 =>
  gSlice v83 fun a_84 l_84 c_84 =>
  HC gnomonref04_DocOf.id #[.int .i64 (-4)] h80 fun v85 h86 =>
  gAgg v85 fun y87 =>
  uncons y87 fun v88 y88 =>
  gBool v88 fun b_89 =>
  uncons y88 fun v90 y90 =>
  gSlice v90 fun a_91 l_91 c_91 =>
  unnil y90 <| (Pre h80.size h80 h86) ∧ HC gnomonlaw04_same.id #[.agg #[.bool b_82, .slice a_84 l_84 c_84], .agg #[.bool b_89, .slice a_91 l_91 c_91]] h86 fun v92 h93 =>
  gBool v92 fun b_94 =>
  (Pre h80.size h86 h93) ∧ cond b_94 (q48.block < h80.size ∧ ldK h93 (q48.add 0) fun v95 =>
  gBool v95 fun b_96 =>
  ldK h93 (q48.add 1) fun v97 =>
  gSlice v97 fun a_98 l_98 c_98 =>
  HC gnomonref04_DocOf.id #[.int .i64 4] h93 fun v99 h100 =>
  gAgg v99 fun y101 =>
  uncons y101 fun v102 y102 =>
  gBool v102 fun b_103 =>
  uncons y102 fun v104 y104 =>
  gSlice v104 fun a_105 l_105 c_105 =>
  unnil y104 <| (Pre h80.size h93 h100) ∧ HC gnomonlaw04_same.id #[.agg #[.bool b_96, .slice a_98 l_98 c_98], .agg #[.bool b_103, .slice a_105 l_105 c_105]] h100 fun v106 h107 =>
  gBool v106 fun b_108 =>
  (Pre h80.size h100 h107) ∧ cond b_108 (q77.block < h80.size ∧ ldK h107 (q77.add 0) fun v109 =>
  gBool v109 fun b_110 =>
  ldK h107 (q77.add 1) fun v111 =>
  gSlice v111 fun a_112 l_112 c_112 =>
  HC gnomonref04_DocOf.id #[.int .i64 2] h107 fun v113 h114 =>
  gAgg v113 fun y115 =>
  uncons y115 fun v116 y116 =>
  gBool v116 fun b_117 =>
  uncons y116 fun v118 y118 =>
  gSlice v118 fun a_119 l_119 c_119 =>
  unnil y118 <| (Pre h80.size h107 h114) ∧ HC gnomonlaw04_same.id #[.agg #[.bool b_110, .slice a_112 l_112 c_112], .agg #[.bool b_117, .slice a_119 l_119 c_119]] h114 fun v120 h121 =>
  gBool v120 fun b_122 =>
  (Pre h80.size h114 h121) ∧ R (.bool b_122) h121) (R (.bool false) h107)) (R (.bool false) h93)) (R (.bool false) h80)) (R (.bool false) h80)) (R (.bool false) h80)
def D1.g (R : Rt) (fr : Fr) (h : Hp) : Prop := D1.t R  h
theorem D1.ok (R : Rt) (fr : Fr) (h : Hp) (g : D1.g R fr h) : den prog E C (retQ E [.tmp 0] R) fr h := by
  exact den_enter [] trivial (by kernel_rfl) g
def t  (h : Hp) (R : Rt) : Prop := D1.t R h
theorem ok  {h : Hp} {R : Rt} (g : t  h R) : HC id #[] h R :=
  calls_of_den' envOk (c := C) (rs := [.tmp 0]) Tryz.func9 (by kernel_rfl) (by kernel_rfl) (by kernel_rfl) (args := []) (by kernel_rfl) (D1.ok R _ h (g))
end gnomonlaw04_halves


namespace num_Of
noncomputable def C : Code := bodyOf Tryz.f11
def D1.t (R : Rt) (x0 : Int) (h : Hp) : Prop :=
  boxK h 28 T28.zs fun q1 h2 =>
  cond (decide (x0 < 0)) (letK (IntKind.u64.wrap x0) fun n3 =>
  letK (IntKind.u64.wrap (0 - n3)) fun n4 =>
  HC nat_Word.id #[.int .u64 n4] h2 fun v5 h6 =>
  gSlice v5 fun a_7 l_7 c_7 =>
  HC num_whole.id #[.bool true, .slice a_7 l_7 c_7] h6 fun v8 h9 =>
  gAgg v8 fun y10 =>
  uncons y10 fun v11 y11 =>
  gBool v11 fun b_12 =>
  uncons y11 fun v13 y13 =>
  gSlice v13 fun a_14 l_14 c_14 =>
  unnil y13 <| stK h9 (q1.add 0) (.bool b_12) fun h15 =>
  stK h15 (q1.add 1) (.slice a_14 l_14 c_14) fun h16 =>
  ldK h16 (q1.add 0) fun v17 =>
  gBool v17 fun b_18 =>
  ldK h16 (q1.add 1) fun v19 =>
  gSlice v19 fun a_20 l_20 c_20 =>
  R (.agg #[.bool b_18, .slice a_20 l_20 c_20]) h16) (letK (IntKind.u64.wrap x0) fun n21 =>
  HC nat_Word.id #[.int .u64 n21] h2 fun v22 h23 =>
  gSlice v22 fun a_24 l_24 c_24 =>
  HC num_whole.id #[.bool false, .slice a_24 l_24 c_24] h23 fun v25 h26 =>
  gAgg v25 fun y27 =>
  uncons y27 fun v28 y28 =>
  gBool v28 fun b_29 =>
  uncons y28 fun v30 y30 =>
  gSlice v30 fun a_31 l_31 c_31 =>
  unnil y30 <| stK h26 (q1.add 0) (.bool b_29) fun h32 =>
  stK h32 (q1.add 1) (.slice a_31 l_31 c_31) fun h33 =>
  ldK h33 (q1.add 0) fun v34 =>
  gBool v34 fun b_35 =>
  ldK h33 (q1.add 1) fun v36 =>
  gSlice v36 fun a_37 l_37 c_37 =>
  R (.agg #[.bool b_35, .slice a_37 l_37 c_37]) h33)
def D1.g (R : Rt) (fr : Fr) (h : Hp) : Prop := gInt .i64 (fr 0) fun x0 => D1.t R x0 h
theorem D1.ok (R : Rt) (fr : Fr) (h : Hp) (g : D1.g R fr h) : den prog E C (retQ E [.cell 2 28] R) fr h := by
  obtain ⟨x0, e0, g⟩ := gInt_elim g
  exact den_enter [(0, .int .i64 x0)] ⟨e0, trivial⟩ (by kernel_rfl) g
def t (x0 : Int) (h : Hp) (R : Rt) : Prop := D1.t R x0 h
theorem ok {x0 : Int} {h : Hp} {R : Rt} (g : t x0 h R) : HC id #[.int .i64 x0] h R :=
  calls_of_den' envOk (c := C) (rs := [.cell 2 28]) Tryz.func11 (by kernel_rfl) (by kernel_rfl) (by kernel_rfl) (args := [.int .i64 x0]) (by kernel_rfl) (D1.ok R _ h (gInt_intro rfl (g)))
end num_Of




namespace num_Form
noncomputable def C : Code := bodyOf Tryz.f15
def D1.t (R : Rt) (b0_0 : Bool) (a0_1 : Option Addr) (l0_1 : Nat) (c0_1 : Nat) (h : Hp) : Prop :=
  boxK h 28 [.bool b0_0, .slice a0_1 l0_1 c0_1] fun q1 h2 =>
  ldK h2 (q1.add 1) fun v3 =>
  gSlice v3 fun a_4 l_4 c_4 =>
  HC nat_Form.id #[.slice a_4 l_4 c_4] h2 fun v5 h6 =>
  gBool v5 fun b_7 =>
  cond b_7 (ldK h6 (q1.add 0) fun v8 =>
  gBool v8 fun b_9 =>
  cond b_9 (ldK h6 (q1.add 1) fun v10 =>
  gSlice v10 fun a_11 l_11 c_11 =>
  R (.bool (!((((l_11 : Nat) : Int)) == 0))) h6) (R (.bool (!false)) h6)) (R (.bool false) h6)
def D1.g (R : Rt) (fr : Fr) (h : Hp) : Prop := gAgg (fr 0) fun z0 => uncons z0 fun w0_0 z0_0 => gBool w0_0 fun b0_0 => uncons z0_0 fun w0_1 z0_1 => gSlice w0_1 fun a0_1 l0_1 c0_1 => unnil z0_1 <| D1.t R b0_0 a0_1 l0_1 c0_1 h
theorem D1.ok (R : Rt) (fr : Fr) (h : Hp) (g : D1.g R fr h) : den prog E C (retQ E [.tmp 2] R) fr h := by
  obtain ⟨z0, e0, g0_0⟩ := gAgg_elim' g
  obtain ⟨w0_0, z0_0, rfl, g0_0x⟩ := uncons_elim g0_0
  obtain ⟨b0_0, rfl, g0_1⟩ := gBool_elim g0_0x
  obtain ⟨w0_1, z0_1, rfl, g0_1x⟩ := uncons_elim g0_1
  obtain ⟨a0_1, l0_1, c0_1, rfl, g0_2⟩ := gSlice_elim g0_1x
  obtain ⟨rfl, g⟩ := unnil_elim g0_2
  exact den_enter [(0, .agg #[.bool b0_0, .slice a0_1 l0_1 c0_1])] ⟨e0, trivial⟩ (by kernel_rfl) g
def t (b0_0 : Bool) (a0_1 : Option Addr) (l0_1 : Nat) (c0_1 : Nat) (h : Hp) (R : Rt) : Prop := D1.t R b0_0 a0_1 l0_1 c0_1 h
theorem ok {b0_0 : Bool} {a0_1 : Option Addr} {l0_1 : Nat} {c0_1 : Nat} {h : Hp} {R : Rt} (g : t b0_0 a0_1 l0_1 c0_1 h R) : HC id #[.agg #[.bool b0_0, .slice a0_1 l0_1 c0_1]] h R :=
  calls_of_den' envOk (c := C) (rs := [.tmp 2]) Tryz.func15 (by kernel_rfl) (by kernel_rfl) (by kernel_rfl) (args := [.agg #[.bool b0_0, .slice a0_1 l0_1 c0_1]]) (by kernel_rfl) (D1.ok R _ h (gAgg_intro rfl (uncons_intro (gBool_intro rfl (uncons_intro (gSlice_intro rfl (unnil_intro (g))))))))
end num_Form

namespace gnomonlaw04_plays
noncomputable def C : Code := bodyOf Tryz.f16
def D3.t (R : Rt) (q11 : Addr) (x12 : Int) (q13 : Addr) (x14 : Int) (h : Hp) : Prop :=
  ldK h (q13.add 0) fun v192 =>
  gBool v192 fun b_193 =>
  ldK h (q13.add 1) fun v194 =>
  gSlice v194 fun a_195 l_195 c_195 =>
  ldK h (q11.add 0) fun v196 =>
  gBool v196 fun b_197 =>
  ldK h (q11.add 1) fun v198 =>
  gSlice v198 fun a_199 l_199 c_199 =>
  HC gnomonlaw04_told.id #[.agg #[.bool b_193, .slice a_195 l_195 c_195], .int .i64 x14, .agg #[.bool b_197, .slice a_199 l_199 c_199], .int .i64 x12] h fun v200 h201 =>
  gBool v200 fun b_202 =>
  R (.bool b_202) h201
def D3.g (R : Rt) (fr : Fr) (h : Hp) : Prop := gPtrS (fr 11) fun q11 => gInt .i64 (fr 12) fun x12 => gPtrS (fr 13) fun q13 => gInt .i64 (fr 14) fun x14 => D3.t R q11 x12 q13 x14 h
theorem D3.ok (R : Rt) (fr : Fr) (h : Hp) (g : D3.g R fr h) : den prog E (cAt C [true, true, true, true, true]) (retQ E [.tmp 2] R) fr h := by
  obtain ⟨q11, e11, g⟩ := gPtrS_elim g
  obtain ⟨x12, e12, g⟩ := gInt_elim g
  obtain ⟨q13, e13, g⟩ := gPtrS_elim g
  obtain ⟨x14, e14, g⟩ := gInt_elim g
  exact den_enter [(11, .pointer (some q11)), (12, .int .i64 x12), (13, .pointer (some q13)), (14, .int .i64 x14)] ⟨e11, e12, e13, e14, trivial⟩ (by kernel_rfl) g
def D2.t (R : Rt) (q1 : Addr) (h : Hp) : Prop :=
  ldK h (q1.add 0) fun v124 =>
  gInt .i64 v124 fun x_125 =>
  ldK h (q1.add 1) fun v126 =>
  gBool v126 fun b_127 =>
  ldK h (q1.add 2) fun v128 =>
  gSlice v128 fun a_129 l_129 c_129 =>
  ldK h (q1.add 3) fun v130 =>
  gBool v130 fun b_131 =>
  ldK h (q1.add 4) fun v132 =>
  gSlice v132 fun a_133 l_133 c_133 =>
  ldK h (q1.add 5) fun v134 =>
  gInt .i64 v134 fun x_135 =>
  HC gnomonlaw04_doc.id #[.agg #[.int .i64 x_125, .bool b_127, .slice a_129 l_129 c_129, .bool b_131, .slice a_133 l_133 c_133, .int .i64 x_135]] h fun v136 h137 =>
  gTup v136 fun y138 =>
  uncons y138 fun v139 y139 =>
  gAgg v139 fun y140 =>
  uncons y140 fun v141 y141 =>
  gBool v141 fun b_142 =>
  uncons y141 fun v143 y143 =>
  gSlice v143 fun a_144 l_144 c_144 =>
  unnil y143 <| uncons y139 fun v145 y145 =>
  gInt .i64 v145 fun x_146 =>
  unnil y145 <| boxK h137 28 T28.zs fun q147 h148 =>
  stK h148 (q147.add 0) (.bool b_142) fun h149 =>
  stK h149 (q147.add 1) (.slice a_144 l_144 c_144) fun h150 =>
  (q1.add 0).block < h150.size ∧ ldK h150 (q1.add 0) fun v151 =>
  gInt .i64 v151 fun x_152 =>
  (q1.add 1).block < h150.size ∧ ldK h150 ((q1.add 1).add 0) fun v153 =>
  gBool v153 fun b_154 =>
  ldK h150 ((q1.add 1).add 1) fun v155 =>
  gSlice v155 fun a_156 l_156 c_156 =>
  (q1.add 3).block < h150.size ∧ ldK h150 ((q1.add 3).add 0) fun v157 =>
  gBool v157 fun b_158 =>
  ldK h150 ((q1.add 3).add 1) fun v159 =>
  gSlice v159 fun a_160 l_160 c_160 =>
  (q1.add 5).block < h150.size ∧ ldK h150 (q1.add 5) fun v161 =>
  gInt .i64 v161 fun x_162 =>
  (HC gnomonlaw04_twin.id #[.agg #[.bool b_154, .slice a_156 l_156 c_156]] h150 fun v163 h164 =>
  gAgg v163 fun y165 =>
  uncons y165 fun v166 y166 =>
  gBool v166 fun b_167 =>
  uncons y166 fun v168 y168 =>
  gSlice v168 fun a_169 l_169 c_169 =>
  unnil y168 <| (Pre h150.size h150 h164) ∧ (HC gnomonlaw04_twin.id #[.agg #[.bool b_158, .slice a_160 l_160 c_160]] h164 fun v170 h171 =>
  gAgg v170 fun y172 =>
  uncons y172 fun v173 y173 =>
  gBool v173 fun b_174 =>
  uncons y173 fun v175 y175 =>
  gSlice v175 fun a_176 l_176 c_176 =>
  unnil y175 <| (Pre h150.size h164 h171) ∧ (HC gnomonlaw04_number.id #[.agg #[.int .i64 x_152, .bool b_167, .slice a_169 l_169 c_169, .bool b_174, .slice a_176 l_176 c_176, .int .i64 x_162]] h171 fun v177 h178 =>
  gTup v177 fun y179 =>
  uncons y179 fun v180 y180 =>
  gAgg v180 fun y181 =>
  uncons y181 fun v182 y182 =>
  gBool v182 fun b_183 =>
  uncons y182 fun v184 y184 =>
  gSlice v184 fun a_185 l_185 c_185 =>
  unnil y184 <| uncons y180 fun v186 y186 =>
  gInt .i64 v186 fun x_187 =>
  unnil y186 <| (Pre h150.size h171 h178) ∧ boxK h178 28 T28.zs fun q188 h189 =>
  (Pre h150.size h178 h189) ∧ stK h189 (q188.add 0) (.bool b_183) fun h190 =>
  stK h190 (q188.add 1) (.slice a_185 l_185 c_185) fun h191 =>
  D3.t R q147 x_146 q188 x_187 h191) ∧ (boxK h171 28 T28.zs fun q203 h204 =>
  (Pre h150.size h171 h204) ∧ HC gnomonlaw04_number.id #[.agg #[.int .i64 x_152, .bool b_167, .slice a_169 l_169 c_169, .bool b_174, .slice a_176 l_176 c_176, .int .i64 x_162]] h204 fun v205 h206 =>
  gTup v205 fun y207 =>
  uncons y207 fun v208 y208 =>
  gAgg v208 fun y209 =>
  uncons y209 fun v210 y210 =>
  gBool v210 fun b_211 =>
  uncons y210 fun v212 y212 =>
  gSlice v212 fun a_213 l_213 c_213 =>
  unnil y212 <| uncons y208 fun v214 y214 =>
  gInt .i64 v214 fun x_215 =>
  unnil y214 <| (Pre h150.size h204 h206) ∧ stK h206 (q203.add 0) (.bool b_211) fun h216 =>
  stK h216 (q203.add 1) (.slice a_213 l_213 c_213) fun h217 =>
  D3.t R q147 x_146 q203 x_215 h217)) ∧ (boxK h164 28 T28.zs fun q218 h219 =>
  (Pre h150.size h164 h219) ∧ HC gnomonlaw04_twin.id #[.agg #[.bool b_158, .slice a_160 l_160 c_160]] h219 fun v220 h221 =>
  gAgg v220 fun y222 =>
  uncons y222 fun v223 y223 =>
  gBool v223 fun b_224 =>
  uncons y223 fun v225 y225 =>
  gSlice v225 fun a_226 l_226 c_226 =>
  unnil y225 <| (Pre h150.size h219 h221) ∧ HC gnomonlaw04_number.id #[.agg #[.int .i64 x_152, .bool b_167, .slice a_169 l_169 c_169, .bool b_224, .slice a_226 l_226 c_226, .int .i64 x_162]] h221 fun v227 h228 =>
  gTup v227 fun y229 =>
  uncons y229 fun v230 y230 =>
  gAgg v230 fun y231 =>
  uncons y231 fun v232 y232 =>
  gBool v232 fun b_233 =>
  uncons y232 fun v234 y234 =>
  gSlice v234 fun a_235 l_235 c_235 =>
  unnil y234 <| uncons y230 fun v236 y236 =>
  gInt .i64 v236 fun x_237 =>
  unnil y236 <| (Pre h150.size h221 h228) ∧ stK h228 (q218.add 0) (.bool b_233) fun h238 =>
  stK h238 (q218.add 1) (.slice a_235 l_235 c_235) fun h239 =>
  D3.t R q147 x_146 q218 x_237 h239)) ∧ (boxK h150 28 T28.zs fun q240 h241 =>
  (Pre h150.size h150 h241) ∧ HC gnomonlaw04_twin.id #[.agg #[.bool b_154, .slice a_156 l_156 c_156]] h241 fun v242 h243 =>
  gAgg v242 fun y244 =>
  uncons y244 fun v245 y245 =>
  gBool v245 fun b_246 =>
  uncons y245 fun v247 y247 =>
  gSlice v247 fun a_248 l_248 c_248 =>
  unnil y247 <| (Pre h150.size h241 h243) ∧ HC gnomonlaw04_twin.id #[.agg #[.bool b_158, .slice a_160 l_160 c_160]] h243 fun v249 h250 =>
  gAgg v249 fun y251 =>
  uncons y251 fun v252 y252 =>
  gBool v252 fun b_253 =>
  uncons y252 fun v254 y254 =>
  gSlice v254 fun a_255 l_255 c_255 =>
  unnil y254 <| (Pre h150.size h243 h250) ∧ HC gnomonlaw04_number.id #[.agg #[.int .i64 x_152, .bool b_246, .slice a_248 l_248 c_248, .bool b_253, .slice a_255 l_255 c_255, .int .i64 x_162]] h250 fun v256 h257 =>
  gTup v256 fun y258 =>
  uncons y258 fun v259 y259 =>
  gAgg v259 fun y260 =>
  uncons y260 fun v261 y261 =>
  gBool v261 fun b_262 =>
  uncons y261 fun v263 y263 =>
  gSlice v263 fun a_264 l_264 c_264 =>
  unnil y263 <| uncons y259 fun v265 y265 =>
  gInt .i64 v265 fun x_266 =>
  unnil y265 <| (Pre h150.size h250 h257) ∧ stK h257 (q240.add 0) (.bool b_262) fun h267 =>
  stK h267 (q240.add 1) (.slice a_264 l_264 c_264) fun h268 =>
  D3.t R q147 x_146 q240 x_266 h268)
def D2.g (R : Rt) (fr : Fr) (h : Hp) : Prop := gPtrS (fr 1) fun q1 => D2.t R q1 h
theorem D2.ok (R : Rt) (fr : Fr) (h : Hp) (g : D2.g R fr h) : den prog E (cAt C [true, true, true]) (retQ E [.tmp 2] R) fr h := by
  obtain ⟨q1, e1, g⟩ := gPtrS_elim g
  exact den_cut 2 (r := (cAt C [true, true, true, true, true])) (by kernel_rfl) (D3.ok R) (den_enter [(1, .pointer (some q1))] ⟨e1, trivial⟩ (by kernel_rfl) g)
def D1.t (R : Rt) (x0_0 : Int) (b0_1 : Bool) (a0_2 : Option Addr) (l0_2 : Nat) (c0_2 : Nat) (b0_3 : Bool) (a0_4 : Option Addr) (l0_4 : Nat) (c0_4 : Nat) (x0_5 : Int) (h : Hp) : Prop :=
  boxK h 38 [.int .i64 x0_0, .bool b0_1, .slice a0_2 l0_2 c0_2, .bool b0_3, .slice a0_4 l0_4 c0_4, .int .i64 x0_5] fun q1 h2 =>
  ldK h2 (q1.add 0) fun v3 =>
  gInt .i64 v3 fun x_4 =>
  cond (x_4 == 2) ((q1.add 1).block < h2.size ∧ ldK h2 ((q1.add 1).add 0) fun v5 =>
  gBool v5 fun b_6 =>
  ldK h2 ((q1.add 1).add 1) fun v7 =>
  gSlice v7 fun a_8 l_8 c_8 =>
  HC gnomonlaw04_twin.id #[.agg #[.bool b_6, .slice a_8 l_8 c_8]] h2 fun v9 h10 =>
  gAgg v9 fun y11 =>
  uncons y11 fun v12 y12 =>
  gBool v12 fun b_13 =>
  uncons y12 fun v14 y14 =>
  gSlice v14 fun a_15 l_15 c_15 =>
  unnil y14 <| (Pre h2.size h2 h10) ∧ HC num_Form.id #[.agg #[.bool b_13, .slice a_15 l_15 c_15]] h10 fun v16 h17 =>
  gBool v16 fun b_18 =>
  (Pre h2.size h10 h17) ∧ (q1.add 1).block < h2.size ∧ ldK h17 ((q1.add 1).add 0) fun v19 =>
  gBool v19 fun b_20 =>
  ldK h17 ((q1.add 1).add 1) fun v21 =>
  gSlice v21 fun a_22 l_22 c_22 =>
  HC gnomonref04_DocForm.id #[.agg #[.bool b_20, .slice a_22 l_22 c_22]] h17 fun v23 h24 =>
  gBool v23 fun b_25 =>
  (Pre h2.size h17 h24) ∧ R (.bool (b_18 == b_25)) h24) (cond (x_4 == 3) ((q1.add 1).block < h2.size ∧ ldK h2 ((q1.add 1).add 0) fun v26 =>
  gBool v26 fun b_27 =>
  ldK h2 ((q1.add 1).add 1) fun v28 =>
  gSlice v28 fun a_29 l_29 c_29 =>
  HC gnomonlaw04_twin.id #[.agg #[.bool b_27, .slice a_29 l_29 c_29]] h2 fun v30 h31 =>
  gAgg v30 fun y32 =>
  uncons y32 fun v33 y33 =>
  gBool v33 fun b_34 =>
  uncons y33 fun v35 y35 =>
  gSlice v35 fun a_36 l_36 c_36 =>
  unnil y35 <| (Pre h2.size h2 h31) ∧ HC num_Sign.id #[.agg #[.bool b_34, .slice a_36 l_36 c_36]] h31 fun v37 h38 =>
  gInt .i64 v37 fun x_39 =>
  (Pre h2.size h31 h38) ∧ (q1.add 1).block < h2.size ∧ ldK h38 ((q1.add 1).add 0) fun v40 =>
  gBool v40 fun b_41 =>
  ldK h38 ((q1.add 1).add 1) fun v42 =>
  gSlice v42 fun a_43 l_43 c_43 =>
  HC gnomonref04_DocSign.id #[.agg #[.bool b_41, .slice a_43 l_43 c_43]] h38 fun v44 h45 =>
  gInt .i64 v44 fun x_46 =>
  (Pre h2.size h38 h45) ∧ R (.bool (x_39 == x_46)) h45) (cond (x_4 == 4) (ldK h2 ((q1.add 1).add 0) fun v47 =>
  gBool v47 fun b_48 =>
  ldK h2 ((q1.add 1).add 1) fun v49 =>
  gSlice v49 fun a_50 l_50 c_50 =>
  HC gnomonlaw04_twin.id #[.agg #[.bool b_48, .slice a_50 l_50 c_50]] h2 fun v51 h52 =>
  gAgg v51 fun y53 =>
  uncons y53 fun v54 y54 =>
  gBool v54 fun b_55 =>
  uncons y54 fun v56 y56 =>
  gSlice v56 fun a_57 l_57 c_57 =>
  unnil y56 <| HC num_Small.id #[.agg #[.bool b_55, .slice a_57 l_57 c_57]] h52 fun v58 h59 =>
  gTup v58 fun y60 =>
  uncons y60 fun v61 y61 =>
  gInt .i64 v61 fun x_62 =>
  uncons y61 fun v63 y63 =>
  gInt .i64 v63 fun x_64 =>
  unnil y63 <| ldK h59 ((q1.add 1).add 0) fun v65 =>
  gBool v65 fun b_66 =>
  ldK h59 ((q1.add 1).add 1) fun v67 =>
  gSlice v67 fun a_68 l_68 c_68 =>
  HC gnomonref04_DocSmall.id #[.agg #[.bool b_66, .slice a_68 l_68 c_68]] h59 fun v69 h70 =>
  gTup v69 fun y71 =>
  uncons y71 fun v72 y72 =>
  gInt .i64 v72 fun x_73 =>
  uncons y72 fun v74 y74 =>
  gInt .i64 v74 fun x_75 =>
  unnil y74 <| cond (x_62 == x_73) (R (.bool (x_64 == x_75)) h70) (R (.bool false) h70)) (cond (x_4 == 5) ((q1.add 1).block < h2.size ∧ ldK h2 ((q1.add 1).add 0) fun v76 =>
  gBool v76 fun b_77 =>
  ldK h2 ((q1.add 1).add 1) fun v78 =>
  gSlice v78 fun a_79 l_79 c_79 =>
  HC gnomonlaw04_twin.id #[.agg #[.bool b_77, .slice a_79 l_79 c_79]] h2 fun v80 h81 =>
  gAgg v80 fun y82 =>
  uncons y82 fun v83 y83 =>
  gBool v83 fun b_84 =>
  uncons y83 fun v85 y85 =>
  gSlice v85 fun a_86 l_86 c_86 =>
  unnil y85 <| (Pre h2.size h2 h81) ∧ (q1.add 3).block < h2.size ∧ ldK h81 ((q1.add 3).add 0) fun v87 =>
  gBool v87 fun b_88 =>
  ldK h81 ((q1.add 3).add 1) fun v89 =>
  gSlice v89 fun a_90 l_90 c_90 =>
  HC gnomonlaw04_twin.id #[.agg #[.bool b_88, .slice a_90 l_90 c_90]] h81 fun v91 h92 =>
  gAgg v91 fun y93 =>
  uncons y93 fun v94 y94 =>
  gBool v94 fun b_95 =>
  uncons y94 fun v96 y96 =>
  gSlice v96 fun a_97 l_97 c_97 =>
  unnil y96 <| (Pre h2.size h81 h92) ∧ HC num_Cmp.id #[.agg #[.bool b_84, .slice a_86 l_86 c_86], .agg #[.bool b_95, .slice a_97 l_97 c_97]] h92 fun v98 h99 =>
  gTup v98 fun y100 =>
  uncons y100 fun v101 y101 =>
  gInt .i64 v101 fun x_102 =>
  uncons y101 fun v103 y103 =>
  gInt .i64 v103 fun x_104 =>
  unnil y103 <| (Pre h2.size h92 h99) ∧ ldK h99 ((q1.add 1).add 0) fun v105 =>
  gBool v105 fun b_106 =>
  ldK h99 ((q1.add 1).add 1) fun v107 =>
  gSlice v107 fun a_108 l_108 c_108 =>
  ldK h99 ((q1.add 3).add 0) fun v109 =>
  gBool v109 fun b_110 =>
  ldK h99 ((q1.add 3).add 1) fun v111 =>
  gSlice v111 fun a_112 l_112 c_112 =>
  HC gnomonref04_DocCmp.id #[.agg #[.bool b_106, .slice a_108 l_108 c_108], .agg #[.bool b_110, .slice a_112 l_112 c_112]] h99 fun v113 h114 =>
  gTup v113 fun y115 =>
  uncons y115 fun v116 y116 =>
  gInt .i64 v116 fun x_117 =>
  uncons y116 fun v118 y118 =>
  gInt .i64 v118 fun x_119 =>
  unnil y118 <| cond (x_102 == x_117) (R (.bool (x_104 == x_119)) h114) (R (.bool false) h114)) (ldK h2 (q1.add 0) fun v120 =>
  gInt .i64 v120 fun x_121 =>
  cond (decide (x_121 < 1)) (R (.bool true) h2) (ldK h2 (q1.add 0) fun v122 =>
  gInt .i64 v122 fun x_123 =>
  cond (decide (x_123 > 17)) (R (.bool true) h2) (D2.t R q1 h2))))))
def D1.g (R : Rt) (fr : Fr) (h : Hp) : Prop := gAgg (fr 0) fun z0 => uncons z0 fun w0_0 z0_0 => gInt .i64 w0_0 fun x0_0 => uncons z0_0 fun w0_1 z0_1 => gBool w0_1 fun b0_1 => uncons z0_1 fun w0_2 z0_2 => gSlice w0_2 fun a0_2 l0_2 c0_2 => uncons z0_2 fun w0_3 z0_3 => gBool w0_3 fun b0_3 => uncons z0_3 fun w0_4 z0_4 => gSlice w0_4 fun a0_4 l0_4 c0_4 => uncons z0_4 fun w0_5 z0_5 => gInt .i64 w0_5 fun x0_5 => unnil z0_5 <| D1.t R x0_0 b0_1 a0_2 l0_2 c0_2 b0_3 a0_4 l0_4 c0_4 x0_5 h
theorem D1.ok (R : Rt) (fr : Fr) (h : Hp) (g : D1.g R fr h) : den prog E C (retQ E [.tmp 2] R) fr h := by
  obtain ⟨z0, e0, g0_0⟩ := gAgg_elim' g
  obtain ⟨w0_0, z0_0, rfl, g0_0x⟩ := uncons_elim g0_0
  obtain ⟨x0_0, rfl, g0_1⟩ := gInt_elim g0_0x
  obtain ⟨w0_1, z0_1, rfl, g0_1x⟩ := uncons_elim g0_1
  obtain ⟨b0_1, rfl, g0_2⟩ := gBool_elim g0_1x
  obtain ⟨w0_2, z0_2, rfl, g0_2x⟩ := uncons_elim g0_2
  obtain ⟨a0_2, l0_2, c0_2, rfl, g0_3⟩ := gSlice_elim g0_2x
  obtain ⟨w0_3, z0_3, rfl, g0_3x⟩ := uncons_elim g0_3
  obtain ⟨b0_3, rfl, g0_4⟩ := gBool_elim g0_3x
  obtain ⟨w0_4, z0_4, rfl, g0_4x⟩ := uncons_elim g0_4
  obtain ⟨a0_4, l0_4, c0_4, rfl, g0_5⟩ := gSlice_elim g0_4x
  obtain ⟨w0_5, z0_5, rfl, g0_5x⟩ := uncons_elim g0_5
  obtain ⟨x0_5, rfl, g0_6⟩ := gInt_elim g0_5x
  obtain ⟨rfl, g⟩ := unnil_elim g0_6
  exact den_cut 3 (r := (cAt C [true, true, true])) (by kernel_rfl) (D2.ok R) (den_enter [(0, .agg #[.int .i64 x0_0, .bool b0_1, .slice a0_2 l0_2 c0_2, .bool b0_3, .slice a0_4 l0_4 c0_4, .int .i64 x0_5])] ⟨e0, trivial⟩ (by kernel_rfl) g)
def t (x0_0 : Int) (b0_1 : Bool) (a0_2 : Option Addr) (l0_2 : Nat) (c0_2 : Nat) (b0_3 : Bool) (a0_4 : Option Addr) (l0_4 : Nat) (c0_4 : Nat) (x0_5 : Int) (h : Hp) (R : Rt) : Prop := D1.t R x0_0 b0_1 a0_2 l0_2 c0_2 b0_3 a0_4 l0_4 c0_4 x0_5 h
theorem ok {x0_0 : Int} {b0_1 : Bool} {a0_2 : Option Addr} {l0_2 : Nat} {c0_2 : Nat} {b0_3 : Bool} {a0_4 : Option Addr} {l0_4 : Nat} {c0_4 : Nat} {x0_5 : Int} {h : Hp} {R : Rt} (g : t x0_0 b0_1 a0_2 l0_2 c0_2 b0_3 a0_4 l0_4 c0_4 x0_5 h R) : HC id #[.agg #[.int .i64 x0_0, .bool b0_1, .slice a0_2 l0_2 c0_2, .bool b0_3, .slice a0_4 l0_4 c0_4, .int .i64 x0_5]] h R :=
  calls_of_den' envOk (c := C) (rs := [.tmp 2]) Tryz.func16 (by kernel_rfl) (by kernel_rfl) (by kernel_rfl) (args := [.agg #[.int .i64 x0_0, .bool b0_1, .slice a0_2 l0_2 c0_2, .bool b0_3, .slice a0_4 l0_4 c0_4, .int .i64 x0_5]]) (by kernel_rfl) (D1.ok R _ h (gAgg_intro rfl (uncons_intro (gInt_intro rfl (uncons_intro (gBool_intro rfl (uncons_intro (gSlice_intro rfl (uncons_intro (gBool_intro rfl (uncons_intro (gSlice_intro rfl (uncons_intro (gInt_intro rfl (unnil_intro (g))))))))))))))))
end gnomonlaw04_plays

namespace num_FloorDiv
noncomputable def C : Code := bodyOf Tryz.f17
def D1.t (R : Rt) (b0_0 : Bool) (a0_1 : Option Addr) (l0_1 : Nat) (c0_1 : Nat) (b1_0 : Bool) (a1_1 : Option Addr) (l1_1 : Nat) (c1_1 : Nat) (h : Hp) : Prop :=
  boxK h 28 [.bool b0_0, .slice a0_1 l0_1 c0_1] fun q1 h2 =>
  boxK h2 28 [.bool b1_0, .slice a1_1 l1_1 c1_1] fun q3 h4 =>
  boxK h4 28 T28.zs fun q5 h6 =>
  ldK h6 (q1.add 0) fun v7 =>
  gBool v7 fun b_8 =>
  ldK h6 (q1.add 1) fun v9 =>
  gSlice v9 fun a_10 l_10 c_10 =>
  ldK h6 (q3.add 0) fun v11 =>
  gBool v11 fun b_12 =>
  ldK h6 (q3.add 1) fun v13 =>
  gSlice v13 fun a_14 l_14 c_14 =>
  HC num_way_div.id #[.int .i64 0, .agg #[.bool b_8, .slice a_10 l_10 c_10], .agg #[.bool b_12, .slice a_14 l_14 c_14]] h6 fun v15 h16 =>
  gTup v15 fun y17 =>
  uncons y17 fun v18 y18 =>
  gAgg v18 fun y19 =>
  uncons y19 fun v20 y20 =>
  gBool v20 fun b_21 =>
  uncons y20 fun v22 y22 =>
  gSlice v22 fun a_23 l_23 c_23 =>
  unnil y22 <| uncons y18 fun v24 y24 =>
  gInt .i64 v24 fun x_25 =>
  unnil y24 <| stK h16 (q5.add 0) (.bool b_21) fun h26 =>
  stK h26 (q5.add 1) (.slice a_23 l_23 c_23) fun h27 =>
  ldK h27 (q5.add 0) fun v28 =>
  gBool v28 fun b_29 =>
  ldK h27 (q5.add 1) fun v30 =>
  gSlice v30 fun a_31 l_31 c_31 =>
  R (.tuple #[.agg #[.bool b_29, .slice a_31 l_31 c_31], .int .i64 x_25]) h27
def D1.g (R : Rt) (fr : Fr) (h : Hp) : Prop := gAgg (fr 0) fun z0 => uncons z0 fun w0_0 z0_0 => gBool w0_0 fun b0_0 => uncons z0_0 fun w0_1 z0_1 => gSlice w0_1 fun a0_1 l0_1 c0_1 => unnil z0_1 <| gAgg (fr 1) fun z1 => uncons z1 fun w1_0 z1_0 => gBool w1_0 fun b1_0 => uncons z1_0 fun w1_1 z1_1 => gSlice w1_1 fun a1_1 l1_1 c1_1 => unnil z1_1 <| D1.t R b0_0 a0_1 l0_1 c0_1 b1_0 a1_1 l1_1 c1_1 h
theorem D1.ok (R : Rt) (fr : Fr) (h : Hp) (g : D1.g R fr h) : den prog E C (retQ E [.cell 4 28, .tmp 5] R) fr h := by
  obtain ⟨z0, e0, g0_0⟩ := gAgg_elim' g
  obtain ⟨w0_0, z0_0, rfl, g0_0x⟩ := uncons_elim g0_0
  obtain ⟨b0_0, rfl, g0_1⟩ := gBool_elim g0_0x
  obtain ⟨w0_1, z0_1, rfl, g0_1x⟩ := uncons_elim g0_1
  obtain ⟨a0_1, l0_1, c0_1, rfl, g0_2⟩ := gSlice_elim g0_1x
  obtain ⟨rfl, g⟩ := unnil_elim g0_2
  obtain ⟨z1, e1, g1_0⟩ := gAgg_elim' g
  obtain ⟨w1_0, z1_0, rfl, g1_0x⟩ := uncons_elim g1_0
  obtain ⟨b1_0, rfl, g1_1⟩ := gBool_elim g1_0x
  obtain ⟨w1_1, z1_1, rfl, g1_1x⟩ := uncons_elim g1_1
  obtain ⟨a1_1, l1_1, c1_1, rfl, g1_2⟩ := gSlice_elim g1_1x
  obtain ⟨rfl, g⟩ := unnil_elim g1_2
  exact den_enter [(0, .agg #[.bool b0_0, .slice a0_1 l0_1 c0_1]), (1, .agg #[.bool b1_0, .slice a1_1 l1_1 c1_1])] ⟨e0, e1, trivial⟩ (by kernel_rfl) g
def t (b0_0 : Bool) (a0_1 : Option Addr) (l0_1 : Nat) (c0_1 : Nat) (b1_0 : Bool) (a1_1 : Option Addr) (l1_1 : Nat) (c1_1 : Nat) (h : Hp) (R : Rt) : Prop := D1.t R b0_0 a0_1 l0_1 c0_1 b1_0 a1_1 l1_1 c1_1 h
theorem ok {b0_0 : Bool} {a0_1 : Option Addr} {l0_1 : Nat} {c0_1 : Nat} {b1_0 : Bool} {a1_1 : Option Addr} {l1_1 : Nat} {c1_1 : Nat} {h : Hp} {R : Rt} (g : t b0_0 a0_1 l0_1 c0_1 b1_0 a1_1 l1_1 c1_1 h R) : HC id #[.agg #[.bool b0_0, .slice a0_1 l0_1 c0_1], .agg #[.bool b1_0, .slice a1_1 l1_1 c1_1]] h R :=
  calls_of_den' envOk (c := C) (rs := [.cell 4 28, .tmp 5]) Tryz.func17 (by kernel_rfl) (by kernel_rfl) (by kernel_rfl) (args := [.agg #[.bool b0_0, .slice a0_1 l0_1 c0_1], .agg #[.bool b1_0, .slice a1_1 l1_1 c1_1]]) (by kernel_rfl) (D1.ok R _ h (gAgg_intro rfl (uncons_intro (gBool_intro rfl (uncons_intro (gSlice_intro rfl (unnil_intro (gAgg_intro rfl (uncons_intro (gBool_intro rfl (uncons_intro (gSlice_intro rfl (unnil_intro (g))))))))))))))
end num_FloorDiv

namespace num_NearShr
noncomputable def C : Code := bodyOf Tryz.f18
def D1.t (R : Rt) (b0_0 : Bool) (a0_1 : Option Addr) (l0_1 : Nat) (c0_1 : Nat) (x1 : Int) (h : Hp) : Prop :=
  boxK h 28 [.bool b0_0, .slice a0_1 l0_1 c0_1] fun q1 h2 =>
  boxK h2 28 T28.zs fun q3 h4 =>
  ldK h4 (q1.add 0) fun v5 =>
  gBool v5 fun b_6 =>
  ldK h4 (q1.add 1) fun v7 =>
  gSlice v7 fun a_8 l_8 c_8 =>
  HC num_way_shr.id #[.int .i64 2, .agg #[.bool b_6, .slice a_8 l_8 c_8], .int .i64 x1] h4 fun v9 h10 =>
  gTup v9 fun y11 =>
  uncons y11 fun v12 y12 =>
  gAgg v12 fun y13 =>
  uncons y13 fun v14 y14 =>
  gBool v14 fun b_15 =>
  uncons y14 fun v16 y16 =>
  gSlice v16 fun a_17 l_17 c_17 =>
  unnil y16 <| uncons y12 fun v18 y18 =>
  gInt .i64 v18 fun x_19 =>
  unnil y18 <| stK h10 (q3.add 0) (.bool b_15) fun h20 =>
  stK h20 (q3.add 1) (.slice a_17 l_17 c_17) fun h21 =>
  ldK h21 (q3.add 0) fun v22 =>
  gBool v22 fun b_23 =>
  ldK h21 (q3.add 1) fun v24 =>
  gSlice v24 fun a_25 l_25 c_25 =>
  R (.tuple #[.agg #[.bool b_23, .slice a_25 l_25 c_25], .int .i64 x_19]) h21
def D1.g (R : Rt) (fr : Fr) (h : Hp) : Prop := gAgg (fr 0) fun z0 => uncons z0 fun w0_0 z0_0 => gBool w0_0 fun b0_0 => uncons z0_0 fun w0_1 z0_1 => gSlice w0_1 fun a0_1 l0_1 c0_1 => unnil z0_1 <| gInt .i64 (fr 1) fun x1 => D1.t R b0_0 a0_1 l0_1 c0_1 x1 h
theorem D1.ok (R : Rt) (fr : Fr) (h : Hp) (g : D1.g R fr h) : den prog E C (retQ E [.cell 4 28, .tmp 5] R) fr h := by
  obtain ⟨z0, e0, g0_0⟩ := gAgg_elim' g
  obtain ⟨w0_0, z0_0, rfl, g0_0x⟩ := uncons_elim g0_0
  obtain ⟨b0_0, rfl, g0_1⟩ := gBool_elim g0_0x
  obtain ⟨w0_1, z0_1, rfl, g0_1x⟩ := uncons_elim g0_1
  obtain ⟨a0_1, l0_1, c0_1, rfl, g0_2⟩ := gSlice_elim g0_1x
  obtain ⟨rfl, g⟩ := unnil_elim g0_2
  obtain ⟨x1, e1, g⟩ := gInt_elim g
  exact den_enter [(0, .agg #[.bool b0_0, .slice a0_1 l0_1 c0_1]), (1, .int .i64 x1)] ⟨e0, e1, trivial⟩ (by kernel_rfl) g
def t (b0_0 : Bool) (a0_1 : Option Addr) (l0_1 : Nat) (c0_1 : Nat) (x1 : Int) (h : Hp) (R : Rt) : Prop := D1.t R b0_0 a0_1 l0_1 c0_1 x1 h
theorem ok {b0_0 : Bool} {a0_1 : Option Addr} {l0_1 : Nat} {c0_1 : Nat} {x1 : Int} {h : Hp} {R : Rt} (g : t b0_0 a0_1 l0_1 c0_1 x1 h R) : HC id #[.agg #[.bool b0_0, .slice a0_1 l0_1 c0_1], .int .i64 x1] h R :=
  calls_of_den' envOk (c := C) (rs := [.cell 4 28, .tmp 5]) Tryz.func18 (by kernel_rfl) (by kernel_rfl) (by kernel_rfl) (args := [.agg #[.bool b0_0, .slice a0_1 l0_1 c0_1], .int .i64 x1]) (by kernel_rfl) (D1.ok R _ h (gAgg_intro rfl (uncons_intro (gBool_intro rfl (uncons_intro (gSlice_intro rfl (unnil_intro (gInt_intro rfl (g)))))))))
end num_NearShr

namespace num_Mod
noncomputable def C : Code := bodyOf Tryz.f19
def D3.t (R : Rt) (q3 : Addr) (q4 : Addr) (a7 : Option Addr) (l7 : Nat) (c7 : Nat) (x8 : Int) (h : Hp) : Prop :=
  ldK h (q3.add 0) fun v73 =>
  gBool v73 fun b_74 =>
  HC num_told.id #[.bool b_74, .slice a7 l7 c7, .int .i64 x8] h fun v75 h76 =>
  gTup v75 fun y77 =>
  uncons y77 fun v78 y78 =>
  gAgg v78 fun y79 =>
  uncons y79 fun v80 y80 =>
  gBool v80 fun b_81 =>
  uncons y80 fun v82 y82 =>
  gSlice v82 fun a_83 l_83 c_83 =>
  unnil y82 <| uncons y78 fun v84 y84 =>
  gInt .i64 v84 fun x_85 =>
  unnil y84 <| stK h76 (q4.add 0) (.bool b_81) fun h86 =>
  stK h86 (q4.add 1) (.slice a_83 l_83 c_83) fun h87 =>
  ldK h87 (q4.add 0) fun v88 =>
  gBool v88 fun b_89 =>
  ldK h87 (q4.add 1) fun v90 =>
  gSlice v90 fun a_91 l_91 c_91 =>
  R (.tuple #[.agg #[.bool b_89, .slice a_91 l_91 c_91], .int .i64 x_85]) h87
def D3.g (R : Rt) (fr : Fr) (h : Hp) : Prop := gPtrS (fr 3) fun q3 => gPtrS (fr 4) fun q4 => gSlice (fr 7) fun a7 l7 c7 => gInt .i64 (fr 8) fun x8 => D3.t R q3 q4 a7 l7 c7 x8 h
theorem D3.ok (R : Rt) (fr : Fr) (h : Hp) (g : D3.g R fr h) : den prog E (cAt C [true, true, true, true, true, true]) (retQ E [.cell 4 28, .tmp 5] R) fr h := by
  obtain ⟨q3, e3, g⟩ := gPtrS_elim g
  obtain ⟨q4, e4, g⟩ := gPtrS_elim g
  obtain ⟨a7, l7, c7, e7, g⟩ := gSlice_elim g
  obtain ⟨x8, e8, g⟩ := gInt_elim g
  exact den_enter [(3, .pointer (some q3)), (4, .pointer (some q4)), (7, .slice a7 l7 c7), (8, .int .i64 x8)] ⟨e3, e4, e7, e8, trivial⟩ (by kernel_rfl) g
def D2.t (R : Rt) (q2 : Addr) (q3 : Addr) (q4 : Addr) (h : Hp) : Prop :=
  ldK h (q3.add 1) fun v33 =>
  gSlice v33 fun a_34 l_34 c_34 =>
  cond ((((l_34 : Nat) : Int)) == 0) (stK h (q4.add 0) (.bool false) fun h35 =>
  stK h35 (q4.add 1) (.slice none 0 0) fun h36 =>
  ldK h36 (q4.add 0) fun v37 =>
  gBool v37 fun b_38 =>
  ldK h36 (q4.add 1) fun v39 =>
  gSlice v39 fun a_40 l_40 c_40 =>
  R (.tuple #[.agg #[.bool b_38, .slice a_40 l_40 c_40], .int .i64 4]) h36) (ldK h (q2.add 1) fun v41 =>
  gSlice v41 fun a_42 l_42 c_42 =>
  ldK h (q3.add 1) fun v43 =>
  gSlice v43 fun a_44 l_44 c_44 =>
  HC natdiv_QuoRem.id #[.slice a_42 l_42 c_42, .slice a_44 l_44 c_44] h fun v45 h46 =>
  gTup v45 fun y47 =>
  uncons y47 fun v48 y48 =>
  gSlice v48 fun a_49 l_49 c_49 =>
  uncons y48 fun v50 y50 =>
  gSlice v50 fun a_51 l_51 c_51 =>
  uncons y50 fun v52 y52 =>
  gInt .i64 v52 fun x_53 =>
  unnil y52 <| cond (x_53 != 0) (stK h46 (q4.add 0) (.bool false) fun h54 =>
  stK h54 (q4.add 1) (.slice none 0 0) fun h55 =>
  ldK h55 (q4.add 0) fun v56 =>
  gBool v56 fun b_57 =>
  ldK h55 (q4.add 1) fun v58 =>
  gSlice v58 fun a_59 l_59 c_59 =>
  R (.tuple #[.agg #[.bool b_57, .slice a_59 l_59 c_59], .int .i64 x_53]) h55) (ldK h46 (q2.add 0) fun v60 =>
  gBool v60 fun b_61 =>
  ldK h46 (q3.add 0) fun v62 =>
  gBool v62 fun b_63 =>
  cond (!(b_61 == b_63)) (cond (decide ((((l_51 : Nat) : Int)) > 0)) (ldK h46 (q3.add 1) fun v64 =>
  gSlice v64 fun a_65 l_65 c_65 =>
  HC nat_Sub.id #[.slice a_65 l_65 c_65, .slice a_51 l_51 c_51] h46 fun v66 h67 =>
  gTup v66 fun y68 =>
  uncons y68 fun v69 y69 =>
  gSlice v69 fun a_70 l_70 c_70 =>
  uncons y69 fun v71 y71 =>
  gInt .i64 v71 fun x_72 =>
  unnil y71 <| D3.t R q3 q4 a_70 l_70 c_70 x_72 h67) (D3.t R q3 q4 a_51 l_51 c_51 x_53 h46)) (D3.t R q3 q4 a_51 l_51 c_51 x_53 h46)))
def D2.g (R : Rt) (fr : Fr) (h : Hp) : Prop := gPtrS (fr 2) fun q2 => gPtrS (fr 3) fun q3 => gPtrS (fr 4) fun q4 => D2.t R q2 q3 q4 h
theorem D2.ok (R : Rt) (fr : Fr) (h : Hp) (g : D2.g R fr h) : den prog E (cAt C [true, true]) (retQ E [.cell 4 28, .tmp 5] R) fr h := by
  obtain ⟨q2, e2, g⟩ := gPtrS_elim g
  obtain ⟨q3, e3, g⟩ := gPtrS_elim g
  obtain ⟨q4, e4, g⟩ := gPtrS_elim g
  exact den_cut 4 (r := (cAt C [true, true, true, true, true, true])) (by kernel_rfl) (D3.ok R) (den_enter [(2, .pointer (some q2)), (3, .pointer (some q3)), (4, .pointer (some q4))] ⟨e2, e3, e4, trivial⟩ (by kernel_rfl) g)
def D1.t (R : Rt) (b0_0 : Bool) (a0_1 : Option Addr) (l0_1 : Nat) (c0_1 : Nat) (b1_0 : Bool) (a1_1 : Option Addr) (l1_1 : Nat) (c1_1 : Nat) (h : Hp) : Prop :=
  boxK h 28 [.bool b0_0, .slice a0_1 l0_1 c0_1] fun q1 h2 =>
  boxK h2 28 [.bool b1_0, .slice a1_1 l1_1 c1_1] fun q3 h4 =>
  boxK h4 28 T28.zs fun q5 h6 =>
  ldK h6 (q1.add 0) fun v7 =>
  gBool v7 fun b_8 =>
  ldK h6 (q1.add 1) fun v9 =>
  gSlice v9 fun a_10 l_10 c_10 =>
  HC num_Form.id #[.agg #[.bool b_8, .slice a_10 l_10 c_10]] h6 fun v11 h12 =>
  gBool v11 fun b_13 =>
  cond (!b_13) (stK h12 (q5.add 0) (.bool false) fun h14 =>
  stK h14 (q5.add 1) (.slice none 0 0) fun h15 =>
  ldK h15 (q5.add 0) fun v16 =>
  gBool v16 fun b_17 =>
  ldK h15 (q5.add 1) fun v18 =>
  gSlice v18 fun a_19 l_19 c_19 =>
  R (.tuple #[.agg #[.bool b_17, .slice a_19 l_19 c_19], .int .i64 2]) h15) (ldK h12 (q3.add 0) fun v20 =>
  gBool v20 fun b_21 =>
  ldK h12 (q3.add 1) fun v22 =>
  gSlice v22 fun a_23 l_23 c_23 =>
  HC num_Form.id #[.agg #[.bool b_21, .slice a_23 l_23 c_23]] h12 fun v24 h25 =>
  gBool v24 fun b_26 =>
  cond (!b_26) (stK h25 (q5.add 0) (.bool false) fun h27 =>
  stK h27 (q5.add 1) (.slice none 0 0) fun h28 =>
  ldK h28 (q5.add 0) fun v29 =>
  gBool v29 fun b_30 =>
  ldK h28 (q5.add 1) fun v31 =>
  gSlice v31 fun a_32 l_32 c_32 =>
  R (.tuple #[.agg #[.bool b_30, .slice a_32 l_32 c_32], .int .i64 2]) h28) (D2.t R q1 q3 q5 h25))
def D1.g (R : Rt) (fr : Fr) (h : Hp) : Prop := gAgg (fr 0) fun z0 => uncons z0 fun w0_0 z0_0 => gBool w0_0 fun b0_0 => uncons z0_0 fun w0_1 z0_1 => gSlice w0_1 fun a0_1 l0_1 c0_1 => unnil z0_1 <| gAgg (fr 1) fun z1 => uncons z1 fun w1_0 z1_0 => gBool w1_0 fun b1_0 => uncons z1_0 fun w1_1 z1_1 => gSlice w1_1 fun a1_1 l1_1 c1_1 => unnil z1_1 <| D1.t R b0_0 a0_1 l0_1 c0_1 b1_0 a1_1 l1_1 c1_1 h
theorem D1.ok (R : Rt) (fr : Fr) (h : Hp) (g : D1.g R fr h) : den prog E C (retQ E [.cell 4 28, .tmp 5] R) fr h := by
  obtain ⟨z0, e0, g0_0⟩ := gAgg_elim' g
  obtain ⟨w0_0, z0_0, rfl, g0_0x⟩ := uncons_elim g0_0
  obtain ⟨b0_0, rfl, g0_1⟩ := gBool_elim g0_0x
  obtain ⟨w0_1, z0_1, rfl, g0_1x⟩ := uncons_elim g0_1
  obtain ⟨a0_1, l0_1, c0_1, rfl, g0_2⟩ := gSlice_elim g0_1x
  obtain ⟨rfl, g⟩ := unnil_elim g0_2
  obtain ⟨z1, e1, g1_0⟩ := gAgg_elim' g
  obtain ⟨w1_0, z1_0, rfl, g1_0x⟩ := uncons_elim g1_0
  obtain ⟨b1_0, rfl, g1_1⟩ := gBool_elim g1_0x
  obtain ⟨w1_1, z1_1, rfl, g1_1x⟩ := uncons_elim g1_1
  obtain ⟨a1_1, l1_1, c1_1, rfl, g1_2⟩ := gSlice_elim g1_1x
  obtain ⟨rfl, g⟩ := unnil_elim g1_2
  exact den_cut 2 (r := (cAt C [true, true])) (by kernel_rfl) (D2.ok R) (den_enter [(0, .agg #[.bool b0_0, .slice a0_1 l0_1 c0_1]), (1, .agg #[.bool b1_0, .slice a1_1 l1_1 c1_1])] ⟨e0, e1, trivial⟩ (by kernel_rfl) g)
def t (b0_0 : Bool) (a0_1 : Option Addr) (l0_1 : Nat) (c0_1 : Nat) (b1_0 : Bool) (a1_1 : Option Addr) (l1_1 : Nat) (c1_1 : Nat) (h : Hp) (R : Rt) : Prop := D1.t R b0_0 a0_1 l0_1 c0_1 b1_0 a1_1 l1_1 c1_1 h
theorem ok {b0_0 : Bool} {a0_1 : Option Addr} {l0_1 : Nat} {c0_1 : Nat} {b1_0 : Bool} {a1_1 : Option Addr} {l1_1 : Nat} {c1_1 : Nat} {h : Hp} {R : Rt} (g : t b0_0 a0_1 l0_1 c0_1 b1_0 a1_1 l1_1 c1_1 h R) : HC id #[.agg #[.bool b0_0, .slice a0_1 l0_1 c0_1], .agg #[.bool b1_0, .slice a1_1 l1_1 c1_1]] h R :=
  calls_of_den' envOk (c := C) (rs := [.cell 4 28, .tmp 5]) Tryz.func19 (by kernel_rfl) (by kernel_rfl) (by kernel_rfl) (args := [.agg #[.bool b0_0, .slice a0_1 l0_1 c0_1], .agg #[.bool b1_0, .slice a1_1 l1_1 c1_1]]) (by kernel_rfl) (D1.ok R _ h (gAgg_intro rfl (uncons_intro (gBool_intro rfl (uncons_intro (gSlice_intro rfl (unnil_intro (gAgg_intro rfl (uncons_intro (gBool_intro rfl (uncons_intro (gSlice_intro rfl (unnil_intro (g))))))))))))))
end num_Mod

namespace gnomonlaw04_same
noncomputable def C : Code := bodyOf Tryz.f20
def D1.t (R : Rt) (b0_0 : Bool) (a0_1 : Option Addr) (l0_1 : Nat) (c0_1 : Nat) (b1_0 : Bool) (a1_1 : Option Addr) (l1_1 : Nat) (c1_1 : Nat) (h : Hp) : Prop :=
  boxK h 28 [.bool b0_0, .slice a0_1 l0_1 c0_1] fun q1 h2 =>
  boxK h2 28 [.bool b1_0, .slice a1_1 l1_1 c1_1] fun q3 h4 =>
  ldK h4 (q1.add 0) fun v5 =>
  gBool v5 fun b_6 =>
  ldK h4 (q3.add 0) fun v7 =>
  gBool v7 fun b_8 =>
  cond (b_6 == b_8) (ldK h4 (q1.add 1) fun v9 =>
  gSlice v9 fun a_10 l_10 c_10 =>
  ldK h4 (q3.add 1) fun v11 =>
  gSlice v11 fun a_12 l_12 c_12 =>
  HQC gnomonref01_Same.id #[.slice a_10 l_10 c_10, .slice a_12 l_12 c_12] h4 fun v13 =>
  gBool v13 fun b_14 =>
  R (.bool b_14) h4) (R (.bool false) h4)
def D1.g (R : Rt) (fr : Fr) (h : Hp) : Prop := gAgg (fr 0) fun z0 => uncons z0 fun w0_0 z0_0 => gBool w0_0 fun b0_0 => uncons z0_0 fun w0_1 z0_1 => gSlice w0_1 fun a0_1 l0_1 c0_1 => unnil z0_1 <| gAgg (fr 1) fun z1 => uncons z1 fun w1_0 z1_0 => gBool w1_0 fun b1_0 => uncons z1_0 fun w1_1 z1_1 => gSlice w1_1 fun a1_1 l1_1 c1_1 => unnil z1_1 <| D1.t R b0_0 a0_1 l0_1 c0_1 b1_0 a1_1 l1_1 c1_1 h
theorem D1.ok (R : Rt) (fr : Fr) (h : Hp) (g : D1.g R fr h) : den prog E C (retQ E [.tmp 4] R) fr h := by
  obtain ⟨z0, e0, g0_0⟩ := gAgg_elim' g
  obtain ⟨w0_0, z0_0, rfl, g0_0x⟩ := uncons_elim g0_0
  obtain ⟨b0_0, rfl, g0_1⟩ := gBool_elim g0_0x
  obtain ⟨w0_1, z0_1, rfl, g0_1x⟩ := uncons_elim g0_1
  obtain ⟨a0_1, l0_1, c0_1, rfl, g0_2⟩ := gSlice_elim g0_1x
  obtain ⟨rfl, g⟩ := unnil_elim g0_2
  obtain ⟨z1, e1, g1_0⟩ := gAgg_elim' g
  obtain ⟨w1_0, z1_0, rfl, g1_0x⟩ := uncons_elim g1_0
  obtain ⟨b1_0, rfl, g1_1⟩ := gBool_elim g1_0x
  obtain ⟨w1_1, z1_1, rfl, g1_1x⟩ := uncons_elim g1_1
  obtain ⟨a1_1, l1_1, c1_1, rfl, g1_2⟩ := gSlice_elim g1_1x
  obtain ⟨rfl, g⟩ := unnil_elim g1_2
  exact den_enter [(0, .agg #[.bool b0_0, .slice a0_1 l0_1 c0_1]), (1, .agg #[.bool b1_0, .slice a1_1 l1_1 c1_1])] ⟨e0, e1, trivial⟩ (by kernel_rfl) g
def t (b0_0 : Bool) (a0_1 : Option Addr) (l0_1 : Nat) (c0_1 : Nat) (b1_0 : Bool) (a1_1 : Option Addr) (l1_1 : Nat) (c1_1 : Nat) (h : Hp) (R : Rt) : Prop := D1.t R b0_0 a0_1 l0_1 c0_1 b1_0 a1_1 l1_1 c1_1 h
theorem ok {b0_0 : Bool} {a0_1 : Option Addr} {l0_1 : Nat} {c0_1 : Nat} {b1_0 : Bool} {a1_1 : Option Addr} {l1_1 : Nat} {c1_1 : Nat} {h : Hp} {R : Rt} (g : t b0_0 a0_1 l0_1 c0_1 b1_0 a1_1 l1_1 c1_1 h R) : HC id #[.agg #[.bool b0_0, .slice a0_1 l0_1 c0_1], .agg #[.bool b1_0, .slice a1_1 l1_1 c1_1]] h R :=
  calls_of_den' envOk (c := C) (rs := [.tmp 4]) Tryz.func20 (by kernel_rfl) (by kernel_rfl) (by kernel_rfl) (args := [.agg #[.bool b0_0, .slice a0_1 l0_1 c0_1], .agg #[.bool b1_0, .slice a1_1 l1_1 c1_1]]) (by kernel_rfl) (D1.ok R _ h (gAgg_intro rfl (uncons_intro (gBool_intro rfl (uncons_intro (gSlice_intro rfl (unnil_intro (gAgg_intro rfl (uncons_intro (gBool_intro rfl (uncons_intro (gSlice_intro rfl (unnil_intro (g))))))))))))))
end gnomonlaw04_same

namespace gnomonref04_DocOf
noncomputable def C : Code := bodyOf Tryz.f21
def D1.t (R : Rt) (x0 : Int) (h : Hp) : Prop :=
  boxK h 28 T28.zs fun q1 h2 =>
  HC gnomonref04_Of.id #[.int .i64 x0] h2 fun v3 h4 =>
  gAgg v3 fun y5 =>
  uncons y5 fun v6 y6 =>
  gBool v6 fun b_7 =>
  uncons y6 fun v8 y8 =>
  gSlice v8 fun a_9 l_9 c_9 =>
  unnil y8 <| HC gnomonref04_To.id #[.agg #[.bool b_7, .slice a_9 l_9 c_9]] h4 fun v10 h11 =>
  gAgg v10 fun y12 =>
  uncons y12 fun v13 y13 =>
  gBool v13 fun b_14 =>
  uncons y13 fun v15 y15 =>
  gSlice v15 fun a_16 l_16 c_16 =>
  unnil y15 <| stK h11 (q1.add 0) (.bool b_14) fun h17 =>
  stK h17 (q1.add 1) (.slice a_16 l_16 c_16) fun h18 =>
  ldK h18 (q1.add 0) fun v19 =>
  gBool v19 fun b_20 =>
  ldK h18 (q1.add 1) fun v21 =>
  gSlice v21 fun a_22 l_22 c_22 =>
  R (.agg #[.bool b_20, .slice a_22 l_22 c_22]) h18
def D1.g (R : Rt) (fr : Fr) (h : Hp) : Prop := gInt .i64 (fr 0) fun x0 => D1.t R x0 h
theorem D1.ok (R : Rt) (fr : Fr) (h : Hp) (g : D1.g R fr h) : den prog E C (retQ E [.cell 2 28] R) fr h := by
  obtain ⟨x0, e0, g⟩ := gInt_elim g
  exact den_enter [(0, .int .i64 x0)] ⟨e0, trivial⟩ (by kernel_rfl) g
def t (x0 : Int) (h : Hp) (R : Rt) : Prop := D1.t R x0 h
theorem ok {x0 : Int} {h : Hp} {R : Rt} (g : t x0 h R) : HC id #[.int .i64 x0] h R :=
  calls_of_den' envOk (c := C) (rs := [.cell 2 28]) Tryz.func21 (by kernel_rfl) (by kernel_rfl) (by kernel_rfl) (args := [.int .i64 x0]) (by kernel_rfl) (D1.ok R _ h (gInt_intro rfl (g)))
end gnomonref04_DocOf

namespace nat_Add
noncomputable def C : Code := bodyOf Tryz.f22
def D4.t (R : Rt) (a0 : Option Addr) (l0 : Nat) (c0 : Nat) (a6 : Option Addr) (l6 : Nat) (c6 : Nat) (x7 : Int) (h : Hp) : Prop :=
  idxK a6 l6 (((l0 : Nat) : Int)) 1 fun q10 =>
  stK h q10 (.int .u64 x7) fun h11 =>
  HC nat_told.id #[.slice a6 l6 c6] h11 fun v12 h13 =>
  gTup v12 fun y14 =>
  uncons y14 fun v15 y15 =>
  gSlice v15 fun a_16 l_16 c_16 =>
  uncons y15 fun v17 y17 =>
  gInt .i64 v17 fun x_18 =>
  unnil y17 <| R (.tuple #[.slice a_16 l_16 c_16, .int .i64 x_18]) h13
def D4.g (R : Rt) (fr : Fr) (h : Hp) : Prop := gSlice (fr 0) fun a0 l0 c0 => gSlice (fr 6) fun a6 l6 c6 => gInt .u64 (fr 7) fun x7 => D4.t R a0 l0 c0 a6 l6 c6 x7 h
theorem D4.ok (R : Rt) (fr : Fr) (h : Hp) (g : D4.g R fr h) : den prog E (cAt C [true, true, true, true, true, true]) (retQ E [.tmp 4, .tmp 5] R) fr h := by
  obtain ⟨a0, l0, c0, e0, g⟩ := gSlice_elim g
  obtain ⟨a6, l6, c6, e6, g⟩ := gSlice_elim g
  obtain ⟨x7, e7, g⟩ := gInt_elim g
  exact den_enter [(0, .slice a0 l0 c0), (6, .slice a6 l6 c6), (7, .int .u64 x7)] ⟨e0, e6, e7, trivial⟩ (by kernel_rfl) g
def L6.g (N : Option Addr → Nat → Nat → Option Addr → Nat → Nat → Option Addr → Nat → Nat → Int → Int → Int → Hp → Prop) (fr : Fr) (h : Hp) : Prop := gSlice (fr 0) fun a0 l0 c0 => gSlice (fr 1) fun a1 l1 c1 => gSlice (fr 6) fun a6 l6 c6 => gInt .u64 (fr 7) fun x7 => gInt .i64 (fr 30) fun x30 => gInt .i64 (fr 31) fun x31 => N a0 l0 c0 a1 l1 c1 a6 l6 c6 x7 x30 x31 h
def D7.t (R : Rt) (N6 : Option Addr → Nat → Nat → Option Addr → Nat → Nat → Option Addr → Nat → Nat → Int → Int → Int → Hp → Prop) (a0 : Option Addr) (l0 : Nat) (c0 : Nat) (a1 : Option Addr) (l1 : Nat) (c1 : Nat) (a6 : Option Addr) (l6 : Nat) (c6 : Nat) (x7 : Int) (x30 : Int) (x31 : Int) (h : Hp) : Prop :=
  cond (decide (x31 < x30)) (cond (decide (x31 < (((l1 : Nat) : Int)))) (idxK a1 l1 x31 1 fun q19 =>
  ldK h q19 fun v20 =>
  gInt .u64 v20 fun x_21 =>
  idxK a0 l0 x31 1 fun q22 =>
  ldK h q22 fun v23 =>
  gInt .u64 v23 fun x_24 =>
  addK x_24 x_21 x7 fun n25 m25 =>
  idxK a6 l6 x31 1 fun q26 =>
  stK h q26 (.int .u64 n25) fun h27 =>
  letK (IntKind.i64.wrap (x31 + 1)) fun n28 =>
  N6 a0 l0 c0 a1 l1 c1 a6 l6 c6 m25 x30 n28 h27) (idxK a0 l0 x31 1 fun q29 =>
  ldK h q29 fun v30 =>
  gInt .u64 v30 fun x_31 =>
  addK x_31 0 x7 fun n32 m32 =>
  idxK a6 l6 x31 1 fun q33 =>
  stK h q33 (.int .u64 n32) fun h34 =>
  letK (IntKind.i64.wrap (x31 + 1)) fun n35 =>
  N6 a0 l0 c0 a1 l1 c1 a6 l6 c6 m32 x30 n35 h34)) (D4.t R a0 l0 c0 a6 l6 c6 x7 h)
def D7.g (R : Rt) (N6 : Option Addr → Nat → Nat → Option Addr → Nat → Nat → Option Addr → Nat → Nat → Int → Int → Int → Hp → Prop) (fr : Fr) (h : Hp) : Prop := gSlice (fr 0) fun a0 l0 c0 => gSlice (fr 1) fun a1 l1 c1 => gSlice (fr 6) fun a6 l6 c6 => gInt .u64 (fr 7) fun x7 => gInt .i64 (fr 30) fun x30 => gInt .i64 (fr 31) fun x31 => D7.t R N6 a0 l0 c0 a1 l1 c1 a6 l6 c6 x7 x30 x31 h
theorem D7.ok (R : Rt) (N6 : Option Addr → Nat → Nat → Option Addr → Nat → Nat → Option Addr → Nat → Nat → Int → Int → Int → Hp → Prop) (fr : Fr) (h : Hp) (g : D7.g R N6 fr h) : den prog E (cAt C [true, true, true, true, true, false, true, false, false]) (Ex.then (L6.g N6) (Ex.inBlock 0 (Ex.then (D4.g R) (retQ E [.tmp 4, .tmp 5] R)))) fr h := by
  obtain ⟨a0, l0, c0, e0, g⟩ := gSlice_elim g
  obtain ⟨a1, l1, c1, e1, g⟩ := gSlice_elim g
  obtain ⟨a6, l6, c6, e6, g⟩ := gSlice_elim g
  obtain ⟨x7, e7, g⟩ := gInt_elim g
  obtain ⟨x30, e30, g⟩ := gInt_elim g
  obtain ⟨x31, e31, g⟩ := gInt_elim g
  exact den_enter [(0, .slice a0 l0 c0), (1, .slice a1 l1 c1), (6, .slice a6 l6 c6), (7, .int .u64 x7), (30, .int .i64 x30), (31, .int .i64 x31)] ⟨e0, e1, e6, e7, e30, e31, trivial⟩ (by kernel_rfl) g
def L6.t (R : Rt) : Nat → Option Addr → Nat → Nat → Option Addr → Nat → Nat → Option Addr → Nat → Nat → Int → Int → Int → Hp → Prop
  | 0 => fun _ _ _ _ _ _ _ _ _ _ _ _ _ => False
  | n + 1 => fun a0 l0 c0 a1 l1 c1 a6 l6 c6 x7 x30 x31 h => D7.t R (L6.t R n) a0 l0 c0 a1 l1 c1 a6 l6 c6 x7 x30 x31 h
theorem L6.ok (R : Rt) (fr : Fr) (h : Hp) (g : L6.g (fun a0 l0 c0 a1 l1 c1 a6 l6 c6 x7 x30 x31 h => ∃ n, L6.t R n a0 l0 c0 a1 l1 c1 a6 l6 c6 x7 x30 x31 h) fr h) : den prog E (cAt C [true, true, true, true, true, false, true, false]) (Ex.inBlock 0 (Ex.then (D4.g R) (retQ E [.tmp 4, .tmp 5] R))) fr h := by
  obtain ⟨a0, l0, c0, e0, g⟩ := gSlice_elim g
  obtain ⟨a1, l1, c1, e1, g⟩ := gSlice_elim g
  obtain ⟨a6, l6, c6, e6, g⟩ := gSlice_elim g
  obtain ⟨x7, e7, g⟩ := gInt_elim g
  obtain ⟨x30, e30, g⟩ := gInt_elim g
  obtain ⟨x31, e31, g⟩ := gInt_elim g
  obtain ⟨n, g⟩ := g
  refine loop_ok (fun n => L6.g (L6.t R n)) (b := (cAt C [true, true, true, true, true, false, true, false, false])) (by kernel_rfl) (fun fr h g => ?_) (fun n => D7.ok R (L6.t R n)) n fr h (gSlice_intro e0 (gSlice_intro e1 (gSlice_intro e6 (gInt_intro e7 (gInt_intro e30 (gInt_intro e31 (g)))))))
  obtain ⟨a0, l0, c0, e0, g⟩ := gSlice_elim g
  obtain ⟨a1, l1, c1, e1, g⟩ := gSlice_elim g
  obtain ⟨a6, l6, c6, e6, g⟩ := gSlice_elim g
  obtain ⟨x7, e7, g⟩ := gInt_elim g
  obtain ⟨x30, e30, g⟩ := gInt_elim g
  obtain ⟨x31, e31, g⟩ := gInt_elim g
  exact g
theorem B8.ok (R : Rt) (fr : Fr) (h : Hp) (g : L6.g (fun a0 l0 c0 a1 l1 c1 a6 l6 c6 x7 x30 x31 h => ∃ n, L6.t R n a0 l0 c0 a1 l1 c1 a6 l6 c6 x7 x30 x31 h) fr h) : den prog E (cAt C [true, true, true, true, true, false, true]) (Ex.then (D4.g R) (retQ E [.tmp 4, .tmp 5] R)) fr h :=
  den_block (by kernel_rfl) (L6.ok R fr h g)
def D5.t (R : Rt) (a0 : Option Addr) (l0 : Nat) (c0 : Nat) (a1 : Option Addr) (l1 : Nat) (c1 : Nat) (a6 : Option Addr) (l6 : Nat) (c6 : Nat) (x7 : Int) (h : Hp) : Prop :=
  (∃ n, L6.t R n a0 l0 c0 a1 l1 c1 a6 l6 c6 x7 (((l0 : Nat) : Int)) 0 h)
def D5.g (R : Rt) (fr : Fr) (h : Hp) : Prop := gSlice (fr 0) fun a0 l0 c0 => gSlice (fr 1) fun a1 l1 c1 => gSlice (fr 6) fun a6 l6 c6 => gInt .u64 (fr 7) fun x7 => D5.t R a0 l0 c0 a1 l1 c1 a6 l6 c6 x7 h
theorem D5.ok (R : Rt) (fr : Fr) (h : Hp) (g : D5.g R fr h) : den prog E (cAt C [true, true, true, true, true, false]) (Ex.then (D4.g R) (retQ E [.tmp 4, .tmp 5] R)) fr h := by
  obtain ⟨a0, l0, c0, e0, g⟩ := gSlice_elim g
  obtain ⟨a1, l1, c1, e1, g⟩ := gSlice_elim g
  obtain ⟨a6, l6, c6, e6, g⟩ := gSlice_elim g
  obtain ⟨x7, e7, g⟩ := gInt_elim g
  exact den_cut 1 (r := (cAt C [true, true, true, true, true, false, true])) (by kernel_rfl) (B8.ok R) (den_enter [(0, .slice a0 l0 c0), (1, .slice a1 l1 c1), (6, .slice a6 l6 c6), (7, .int .u64 x7)] ⟨e0, e1, e6, e7, trivial⟩ (by kernel_rfl) g)
theorem W9.ok (R : Rt) (fr : Fr) (h : Hp) (g : D5.g R fr h) : den prog E (cAt C [true, true, true, true, true]) (retQ E [.tmp 4, .tmp 5] R) fr h :=
  den_then (by kernel_rfl) (D4.ok R) (D5.ok R fr h g)
def D3.t (R : Rt) (a0 : Option Addr) (l0 : Nat) (c0 : Nat) (a1 : Option Addr) (l1 : Nat) (c1 : Nat) (h : Hp) : Prop :=
  letK (IntKind.i64.wrap ((((l0 : Nat) : Int)) + 1)) fun n7 =>
  mkK h 48 T48 n7 n7 fun q8 h9 =>
  D5.t R a0 l0 c0 a1 l1 c1 (some q8) n7.toNat n7.toNat 0 h9
def D3.g (R : Rt) (fr : Fr) (h : Hp) : Prop := gSlice (fr 0) fun a0 l0 c0 => gSlice (fr 1) fun a1 l1 c1 => D3.t R a0 l0 c0 a1 l1 c1 h
theorem D3.ok (R : Rt) (fr : Fr) (h : Hp) (g : D3.g R fr h) : den prog E (cAt C [true, true, true]) (retQ E [.tmp 4, .tmp 5] R) fr h := by
  obtain ⟨a0, l0, c0, e0, g⟩ := gSlice_elim g
  obtain ⟨a1, l1, c1, e1, g⟩ := gSlice_elim g
  exact den_cut 2 (r := (cAt C [true, true, true, true, true])) (by kernel_rfl) (W9.ok R) (den_enter [(0, .slice a0 l0 c0), (1, .slice a1 l1 c1)] ⟨e0, e1, trivial⟩ (by kernel_rfl) g)
def D2.t (R : Rt) (a0 : Option Addr) (l0 : Nat) (c0 : Nat) (a1 : Option Addr) (l1 : Nat) (c1 : Nat) (h : Hp) : Prop :=
  cond (decide ((((l0 : Nat) : Int)) < (((l1 : Nat) : Int)))) (D3.t R a1 l1 c1 a0 l0 c0 h) (D3.t R a0 l0 c0 a1 l1 c1 h)
def D2.g (R : Rt) (fr : Fr) (h : Hp) : Prop := gSlice (fr 0) fun a0 l0 c0 => gSlice (fr 1) fun a1 l1 c1 => D2.t R a0 l0 c0 a1 l1 c1 h
theorem D2.ok (R : Rt) (fr : Fr) (h : Hp) (g : D2.g R fr h) : den prog E (cAt C [true, true]) (retQ E [.tmp 4, .tmp 5] R) fr h := by
  obtain ⟨a0, l0, c0, e0, g⟩ := gSlice_elim g
  obtain ⟨a1, l1, c1, e1, g⟩ := gSlice_elim g
  exact den_cut 1 (r := (cAt C [true, true, true])) (by kernel_rfl) (D3.ok R) (den_enter [(0, .slice a0 l0 c0), (1, .slice a1 l1 c1)] ⟨e0, e1, trivial⟩ (by kernel_rfl) g)
def D1.t (R : Rt) (a0 : Option Addr) (l0 : Nat) (c0 : Nat) (a1 : Option Addr) (l1 : Nat) (c1 : Nat) (h : Hp) : Prop :=
  HC nat_Form.id #[.slice a0 l0 c0] h fun v1 h2 =>
  gBool v1 fun b_3 =>
  cond (!b_3) (R (.tuple #[.slice none 0 0, .int .i64 2]) h2) (HC nat_Form.id #[.slice a1 l1 c1] h2 fun v4 h5 =>
  gBool v4 fun b_6 =>
  cond (!b_6) (R (.tuple #[.slice none 0 0, .int .i64 2]) h5) (D2.t R a0 l0 c0 a1 l1 c1 h5))
def D1.g (R : Rt) (fr : Fr) (h : Hp) : Prop := gSlice (fr 0) fun a0 l0 c0 => gSlice (fr 1) fun a1 l1 c1 => D1.t R a0 l0 c0 a1 l1 c1 h
theorem D1.ok (R : Rt) (fr : Fr) (h : Hp) (g : D1.g R fr h) : den prog E C (retQ E [.tmp 4, .tmp 5] R) fr h := by
  obtain ⟨a0, l0, c0, e0, g⟩ := gSlice_elim g
  obtain ⟨a1, l1, c1, e1, g⟩ := gSlice_elim g
  exact den_cut 2 (r := (cAt C [true, true])) (by kernel_rfl) (D2.ok R) (den_enter [(0, .slice a0 l0 c0), (1, .slice a1 l1 c1)] ⟨e0, e1, trivial⟩ (by kernel_rfl) g)
def t (a0 : Option Addr) (l0 : Nat) (c0 : Nat) (a1 : Option Addr) (l1 : Nat) (c1 : Nat) (h : Hp) (R : Rt) : Prop := D1.t R a0 l0 c0 a1 l1 c1 h
theorem ok {a0 : Option Addr} {l0 : Nat} {c0 : Nat} {a1 : Option Addr} {l1 : Nat} {c1 : Nat} {h : Hp} {R : Rt} (g : t a0 l0 c0 a1 l1 c1 h R) : HC id #[.slice a0 l0 c0, .slice a1 l1 c1] h R :=
  calls_of_den' envOk (c := C) (rs := [.tmp 4, .tmp 5]) Tryz.func22 (by kernel_rfl) (by kernel_rfl) (by kernel_rfl) (args := [.slice a0 l0 c0, .slice a1 l1 c1]) (by kernel_rfl) (D1.ok R _ h (gSlice_intro rfl (gSlice_intro rfl (g))))
end nat_Add

namespace num_told
noncomputable def C : Code := bodyOf Tryz.f23
def D1.t (R : Rt) (b0 : Bool) (a1 : Option Addr) (l1 : Nat) (c1 : Nat) (x2 : Int) (h : Hp) : Prop :=
  boxK h 28 T28.zs fun q1 h2 =>
  cond (x2 != 0) (stK h2 (q1.add 0) (.bool false) fun h3 =>
  stK h3 (q1.add 1) (.slice none 0 0) fun h4 =>
  ldK h4 (q1.add 0) fun v5 =>
  gBool v5 fun b_6 =>
  ldK h4 (q1.add 1) fun v7 =>
  gSlice v7 fun a_8 l_8 c_8 =>
  R (.tuple #[.agg #[.bool b_6, .slice a_8 l_8 c_8], .int .i64 x2]) h4) (HC num_whole.id #[.bool b0, .slice a1 l1 c1] h2 fun v9 h10 =>
  gAgg v9 fun y11 =>
  uncons y11 fun v12 y12 =>
  gBool v12 fun b_13 =>
  uncons y12 fun v14 y14 =>
  gSlice v14 fun a_15 l_15 c_15 =>
  unnil y14 <| stK h10 (q1.add 0) (.bool b_13) fun h16 =>
  stK h16 (q1.add 1) (.slice a_15 l_15 c_15) fun h17 =>
  ldK h17 (q1.add 0) fun v18 =>
  gBool v18 fun b_19 =>
  ldK h17 (q1.add 1) fun v20 =>
  gSlice v20 fun a_21 l_21 c_21 =>
  R (.tuple #[.agg #[.bool b_19, .slice a_21 l_21 c_21], .int .i64 0]) h17)
def D1.g (R : Rt) (fr : Fr) (h : Hp) : Prop := gBool (fr 0) fun b0 => gSlice (fr 1) fun a1 l1 c1 => gInt .i64 (fr 2) fun x2 => D1.t R b0 a1 l1 c1 x2 h
theorem D1.ok (R : Rt) (fr : Fr) (h : Hp) (g : D1.g R fr h) : den prog E C (retQ E [.cell 6 28, .tmp 7] R) fr h := by
  obtain ⟨b0, e0, g⟩ := gBool_elim g
  obtain ⟨a1, l1, c1, e1, g⟩ := gSlice_elim g
  obtain ⟨x2, e2, g⟩ := gInt_elim g
  exact den_enter [(0, .bool b0), (1, .slice a1 l1 c1), (2, .int .i64 x2)] ⟨e0, e1, e2, trivial⟩ (by kernel_rfl) g
def t (b0 : Bool) (a1 : Option Addr) (l1 : Nat) (c1 : Nat) (x2 : Int) (h : Hp) (R : Rt) : Prop := D1.t R b0 a1 l1 c1 x2 h
theorem ok {b0 : Bool} {a1 : Option Addr} {l1 : Nat} {c1 : Nat} {x2 : Int} {h : Hp} {R : Rt} (g : t b0 a1 l1 c1 x2 h R) : HC id #[.bool b0, .slice a1 l1 c1, .int .i64 x2] h R :=
  calls_of_den' envOk (c := C) (rs := [.cell 6 28, .tmp 7]) Tryz.func23 (by kernel_rfl) (by kernel_rfl) (by kernel_rfl) (args := [.bool b0, .slice a1 l1 c1, .int .i64 x2]) (by kernel_rfl) (D1.ok R _ h (gBool_intro rfl (gSlice_intro rfl (gInt_intro rfl (g)))))
end num_told

namespace nat_Cmp
noncomputable def C : Code := bodyOf Tryz.f24
def D2.t (R : Rt)  (h : Hp) : Prop :=
  R (.int .i64 0) h
def D2.g (R : Rt) (fr : Fr) (h : Hp) : Prop := D2.t R  h
theorem D2.ok (R : Rt) (fr : Fr) (h : Hp) (g : D2.g R fr h) : den prog E (cAt C [true, true, true, true]) (retQ E [.tmp 4] R) fr h := by
  exact den_enter [] trivial (by kernel_rfl) g
def L4.g (N : Option Addr → Nat → Nat → Option Addr → Nat → Nat → Int → Hp → Prop) (fr : Fr) (h : Hp) : Prop := gSlice (fr 5) fun a5 l5 c5 => gSlice (fr 6) fun a6 l6 c6 => gInt .i64 (fr 7) fun x7 => N a5 l5 c5 a6 l6 c6 x7 h
def D5.t (R : Rt) (N4 : Option Addr → Nat → Nat → Option Addr → Nat → Nat → Int → Hp → Prop) (a5 : Option Addr) (l5 : Nat) (c5 : Nat) (a6 : Option Addr) (l6 : Nat) (c6 : Nat) (x7 : Int) (h : Hp) : Prop :=
  cond (decide (x7 ≥ 0)) (idxK a5 l5 x7 1 fun q8 =>
  ldK h q8 fun v9 =>
  gInt .u64 v9 fun x_10 =>
  idxK a6 l6 x7 1 fun q11 =>
  ldK h q11 fun v12 =>
  gInt .u64 v12 fun x_13 =>
  cond (x_10 != x_13) (idxK a5 l5 x7 1 fun q14 =>
  ldK h q14 fun v15 =>
  gInt .u64 v15 fun x_16 =>
  idxK a6 l6 x7 1 fun q17 =>
  ldK h q17 fun v18 =>
  gInt .u64 v18 fun x_19 =>
  cond (decide (x_16 < x_19)) (R (.int .i64 (-1)) h) (R (.int .i64 1) h)) (letK (IntKind.i64.wrap (x7 - 1)) fun n20 =>
  N4 a5 l5 c5 a6 l6 c6 n20 h)) (D2.t R h)
def D5.g (R : Rt) (N4 : Option Addr → Nat → Nat → Option Addr → Nat → Nat → Int → Hp → Prop) (fr : Fr) (h : Hp) : Prop := gSlice (fr 5) fun a5 l5 c5 => gSlice (fr 6) fun a6 l6 c6 => gInt .i64 (fr 7) fun x7 => D5.t R N4 a5 l5 c5 a6 l6 c6 x7 h
theorem D5.ok (R : Rt) (N4 : Option Addr → Nat → Nat → Option Addr → Nat → Nat → Int → Hp → Prop) (fr : Fr) (h : Hp) (g : D5.g R N4 fr h) : den prog E (cAt C [true, true, true, false, true, false, false]) (Ex.then (L4.g N4) (Ex.inBlock 0 (Ex.then (D2.g R) (retQ E [.tmp 4] R)))) fr h := by
  obtain ⟨a5, l5, c5, e5, g⟩ := gSlice_elim g
  obtain ⟨a6, l6, c6, e6, g⟩ := gSlice_elim g
  obtain ⟨x7, e7, g⟩ := gInt_elim g
  exact den_enter [(5, .slice a5 l5 c5), (6, .slice a6 l6 c6), (7, .int .i64 x7)] ⟨e5, e6, e7, trivial⟩ (by kernel_rfl) g
def L4.t (R : Rt) : Nat → Option Addr → Nat → Nat → Option Addr → Nat → Nat → Int → Hp → Prop
  | 0 => fun _ _ _ _ _ _ _ _ => False
  | n + 1 => fun a5 l5 c5 a6 l6 c6 x7 h => D5.t R (L4.t R n) a5 l5 c5 a6 l6 c6 x7 h
theorem L4.ok (R : Rt) (fr : Fr) (h : Hp) (g : L4.g (fun a5 l5 c5 a6 l6 c6 x7 h => ∃ n, L4.t R n a5 l5 c5 a6 l6 c6 x7 h) fr h) : den prog E (cAt C [true, true, true, false, true, false]) (Ex.inBlock 0 (Ex.then (D2.g R) (retQ E [.tmp 4] R))) fr h := by
  obtain ⟨a5, l5, c5, e5, g⟩ := gSlice_elim g
  obtain ⟨a6, l6, c6, e6, g⟩ := gSlice_elim g
  obtain ⟨x7, e7, g⟩ := gInt_elim g
  obtain ⟨n, g⟩ := g
  refine loop_ok (fun n => L4.g (L4.t R n)) (b := (cAt C [true, true, true, false, true, false, false])) (by kernel_rfl) (fun fr h g => ?_) (fun n => D5.ok R (L4.t R n)) n fr h (gSlice_intro e5 (gSlice_intro e6 (gInt_intro e7 (g))))
  obtain ⟨a5, l5, c5, e5, g⟩ := gSlice_elim g
  obtain ⟨a6, l6, c6, e6, g⟩ := gSlice_elim g
  obtain ⟨x7, e7, g⟩ := gInt_elim g
  exact g
theorem B6.ok (R : Rt) (fr : Fr) (h : Hp) (g : L4.g (fun a5 l5 c5 a6 l6 c6 x7 h => ∃ n, L4.t R n a5 l5 c5 a6 l6 c6 x7 h) fr h) : den prog E (cAt C [true, true, true, false, true]) (Ex.then (D2.g R) (retQ E [.tmp 4] R)) fr h :=
  den_block (by kernel_rfl) (L4.ok R fr h g)
def D3.t (R : Rt) (a5 : Option Addr) (l5 : Nat) (c5 : Nat) (a6 : Option Addr) (l6 : Nat) (c6 : Nat) (h : Hp) : Prop :=
  letK (IntKind.i64.wrap ((((l5 : Nat) : Int)) - 1)) fun n7 => (∃ n, L4.t R n a5 l5 c5 a6 l6 c6 n7 h)
def D3.g (R : Rt) (fr : Fr) (h : Hp) : Prop := gSlice (fr 5) fun a5 l5 c5 => gSlice (fr 6) fun a6 l6 c6 => D3.t R a5 l5 c5 a6 l6 c6 h
theorem D3.ok (R : Rt) (fr : Fr) (h : Hp) (g : D3.g R fr h) : den prog E (cAt C [true, true, true, false]) (Ex.then (D2.g R) (retQ E [.tmp 4] R)) fr h := by
  obtain ⟨a5, l5, c5, e5, g⟩ := gSlice_elim g
  obtain ⟨a6, l6, c6, e6, g⟩ := gSlice_elim g
  exact den_cut 1 (r := (cAt C [true, true, true, false, true])) (by kernel_rfl) (B6.ok R) (den_enter [(5, .slice a5 l5 c5), (6, .slice a6 l6 c6)] ⟨e5, e6, trivial⟩ (by kernel_rfl) g)
theorem W7.ok (R : Rt) (fr : Fr) (h : Hp) (g : D3.g R fr h) : den prog E (cAt C [true, true, true]) (retQ E [.tmp 4] R) fr h :=
  den_then (by kernel_rfl) (D2.ok R) (D3.ok R fr h g)
def D1.t (R : Rt) (a0 : Option Addr) (l0 : Nat) (c0 : Nat) (a1 : Option Addr) (l1 : Nat) (c1 : Nat) (h : Hp) : Prop :=
  HC nat_trim.id #[.slice a0 l0 c0] h fun v1 h2 =>
  gSlice v1 fun a_3 l_3 c_3 =>
  HC nat_trim.id #[.slice a1 l1 c1] h2 fun v4 h5 =>
  gSlice v4 fun a_6 l_6 c_6 =>
  cond ((((l_3 : Nat) : Int)) != (((l_6 : Nat) : Int))) (cond (decide ((((l_3 : Nat) : Int)) < (((l_6 : Nat) : Int)))) (R (.int .i64 (-1)) h5) (R (.int .i64 1) h5)) (D3.t R a_3 l_3 c_3 a_6 l_6 c_6 h5)
def D1.g (R : Rt) (fr : Fr) (h : Hp) : Prop := gSlice (fr 0) fun a0 l0 c0 => gSlice (fr 1) fun a1 l1 c1 => D1.t R a0 l0 c0 a1 l1 c1 h
theorem D1.ok (R : Rt) (fr : Fr) (h : Hp) (g : D1.g R fr h) : den prog E C (retQ E [.tmp 4] R) fr h := by
  obtain ⟨a0, l0, c0, e0, g⟩ := gSlice_elim g
  obtain ⟨a1, l1, c1, e1, g⟩ := gSlice_elim g
  exact den_cut 3 (r := (cAt C [true, true, true])) (by kernel_rfl) (W7.ok R) (den_enter [(0, .slice a0 l0 c0), (1, .slice a1 l1 c1)] ⟨e0, e1, trivial⟩ (by kernel_rfl) g)
def t (a0 : Option Addr) (l0 : Nat) (c0 : Nat) (a1 : Option Addr) (l1 : Nat) (c1 : Nat) (h : Hp) (R : Rt) : Prop := D1.t R a0 l0 c0 a1 l1 c1 h
theorem ok {a0 : Option Addr} {l0 : Nat} {c0 : Nat} {a1 : Option Addr} {l1 : Nat} {c1 : Nat} {h : Hp} {R : Rt} (g : t a0 l0 c0 a1 l1 c1 h R) : HC id #[.slice a0 l0 c0, .slice a1 l1 c1] h R :=
  calls_of_den' envOk (c := C) (rs := [.tmp 4]) Tryz.func24 (by kernel_rfl) (by kernel_rfl) (by kernel_rfl) (args := [.slice a0 l0 c0, .slice a1 l1 c1]) (by kernel_rfl) (D1.ok R _ h (gSlice_intro rfl (gSlice_intro rfl (g))))
end nat_Cmp

namespace nat_Sub
noncomputable def C : Code := bodyOf Tryz.f25
def D3.t (R : Rt) (a6 : Option Addr) (l6 : Nat) (c6 : Nat) (h : Hp) : Prop :=
  HC nat_told.id #[.slice a6 l6 c6] h fun v12 h13 =>
  gTup v12 fun y14 =>
  uncons y14 fun v15 y15 =>
  gSlice v15 fun a_16 l_16 c_16 =>
  uncons y15 fun v17 y17 =>
  gInt .i64 v17 fun x_18 =>
  unnil y17 <| R (.tuple #[.slice a_16 l_16 c_16, .int .i64 x_18]) h13
def D3.g (R : Rt) (fr : Fr) (h : Hp) : Prop := gSlice (fr 6) fun a6 l6 c6 => D3.t R a6 l6 c6 h
theorem D3.ok (R : Rt) (fr : Fr) (h : Hp) (g : D3.g R fr h) : den prog E (cAt C [true, true, true, true, true, true]) (retQ E [.tmp 4, .tmp 5] R) fr h := by
  obtain ⟨a6, l6, c6, e6, g⟩ := gSlice_elim g
  exact den_enter [(6, .slice a6 l6 c6)] ⟨e6, trivial⟩ (by kernel_rfl) g
def L5.g (N : Option Addr → Nat → Nat → Option Addr → Nat → Nat → Option Addr → Nat → Nat → Int → Int → Int → Hp → Prop) (fr : Fr) (h : Hp) : Prop := gSlice (fr 0) fun a0 l0 c0 => gSlice (fr 1) fun a1 l1 c1 => gSlice (fr 6) fun a6 l6 c6 => gInt .u64 (fr 7) fun x7 => gInt .i64 (fr 26) fun x26 => gInt .i64 (fr 27) fun x27 => N a0 l0 c0 a1 l1 c1 a6 l6 c6 x7 x26 x27 h
def D6.t (R : Rt) (N5 : Option Addr → Nat → Nat → Option Addr → Nat → Nat → Option Addr → Nat → Nat → Int → Int → Int → Hp → Prop) (a0 : Option Addr) (l0 : Nat) (c0 : Nat) (a1 : Option Addr) (l1 : Nat) (c1 : Nat) (a6 : Option Addr) (l6 : Nat) (c6 : Nat) (x7 : Int) (x26 : Int) (x27 : Int) (h : Hp) : Prop :=
  cond (decide (x27 < x26)) (cond (decide (x27 < (((l1 : Nat) : Int)))) (idxK a1 l1 x27 1 fun q19 =>
  ldK h q19 fun v20 =>
  gInt .u64 v20 fun x_21 =>
  idxK a0 l0 x27 1 fun q22 =>
  ldK h q22 fun v23 =>
  gInt .u64 v23 fun x_24 =>
  subK x_24 x_21 x7 fun n25 m25 =>
  idxK a6 l6 x27 1 fun q26 =>
  stK h q26 (.int .u64 n25) fun h27 =>
  letK (IntKind.i64.wrap (x27 + 1)) fun n28 =>
  N5 a0 l0 c0 a1 l1 c1 a6 l6 c6 m25 x26 n28 h27) (idxK a0 l0 x27 1 fun q29 =>
  ldK h q29 fun v30 =>
  gInt .u64 v30 fun x_31 =>
  subK x_31 0 x7 fun n32 m32 =>
  idxK a6 l6 x27 1 fun q33 =>
  stK h q33 (.int .u64 n32) fun h34 =>
  letK (IntKind.i64.wrap (x27 + 1)) fun n35 =>
  N5 a0 l0 c0 a1 l1 c1 a6 l6 c6 m32 x26 n35 h34)) (D3.t R a6 l6 c6 h)
def D6.g (R : Rt) (N5 : Option Addr → Nat → Nat → Option Addr → Nat → Nat → Option Addr → Nat → Nat → Int → Int → Int → Hp → Prop) (fr : Fr) (h : Hp) : Prop := gSlice (fr 0) fun a0 l0 c0 => gSlice (fr 1) fun a1 l1 c1 => gSlice (fr 6) fun a6 l6 c6 => gInt .u64 (fr 7) fun x7 => gInt .i64 (fr 26) fun x26 => gInt .i64 (fr 27) fun x27 => D6.t R N5 a0 l0 c0 a1 l1 c1 a6 l6 c6 x7 x26 x27 h
theorem D6.ok (R : Rt) (N5 : Option Addr → Nat → Nat → Option Addr → Nat → Nat → Option Addr → Nat → Nat → Int → Int → Int → Hp → Prop) (fr : Fr) (h : Hp) (g : D6.g R N5 fr h) : den prog E (cAt C [true, true, true, true, true, false, true, false, false]) (Ex.then (L5.g N5) (Ex.inBlock 0 (Ex.then (D3.g R) (retQ E [.tmp 4, .tmp 5] R)))) fr h := by
  obtain ⟨a0, l0, c0, e0, g⟩ := gSlice_elim g
  obtain ⟨a1, l1, c1, e1, g⟩ := gSlice_elim g
  obtain ⟨a6, l6, c6, e6, g⟩ := gSlice_elim g
  obtain ⟨x7, e7, g⟩ := gInt_elim g
  obtain ⟨x26, e26, g⟩ := gInt_elim g
  obtain ⟨x27, e27, g⟩ := gInt_elim g
  exact den_enter [(0, .slice a0 l0 c0), (1, .slice a1 l1 c1), (6, .slice a6 l6 c6), (7, .int .u64 x7), (26, .int .i64 x26), (27, .int .i64 x27)] ⟨e0, e1, e6, e7, e26, e27, trivial⟩ (by kernel_rfl) g
def L5.t (R : Rt) : Nat → Option Addr → Nat → Nat → Option Addr → Nat → Nat → Option Addr → Nat → Nat → Int → Int → Int → Hp → Prop
  | 0 => fun _ _ _ _ _ _ _ _ _ _ _ _ _ => False
  | n + 1 => fun a0 l0 c0 a1 l1 c1 a6 l6 c6 x7 x26 x27 h => D6.t R (L5.t R n) a0 l0 c0 a1 l1 c1 a6 l6 c6 x7 x26 x27 h
theorem L5.ok (R : Rt) (fr : Fr) (h : Hp) (g : L5.g (fun a0 l0 c0 a1 l1 c1 a6 l6 c6 x7 x26 x27 h => ∃ n, L5.t R n a0 l0 c0 a1 l1 c1 a6 l6 c6 x7 x26 x27 h) fr h) : den prog E (cAt C [true, true, true, true, true, false, true, false]) (Ex.inBlock 0 (Ex.then (D3.g R) (retQ E [.tmp 4, .tmp 5] R))) fr h := by
  obtain ⟨a0, l0, c0, e0, g⟩ := gSlice_elim g
  obtain ⟨a1, l1, c1, e1, g⟩ := gSlice_elim g
  obtain ⟨a6, l6, c6, e6, g⟩ := gSlice_elim g
  obtain ⟨x7, e7, g⟩ := gInt_elim g
  obtain ⟨x26, e26, g⟩ := gInt_elim g
  obtain ⟨x27, e27, g⟩ := gInt_elim g
  obtain ⟨n, g⟩ := g
  refine loop_ok (fun n => L5.g (L5.t R n)) (b := (cAt C [true, true, true, true, true, false, true, false, false])) (by kernel_rfl) (fun fr h g => ?_) (fun n => D6.ok R (L5.t R n)) n fr h (gSlice_intro e0 (gSlice_intro e1 (gSlice_intro e6 (gInt_intro e7 (gInt_intro e26 (gInt_intro e27 (g)))))))
  obtain ⟨a0, l0, c0, e0, g⟩ := gSlice_elim g
  obtain ⟨a1, l1, c1, e1, g⟩ := gSlice_elim g
  obtain ⟨a6, l6, c6, e6, g⟩ := gSlice_elim g
  obtain ⟨x7, e7, g⟩ := gInt_elim g
  obtain ⟨x26, e26, g⟩ := gInt_elim g
  obtain ⟨x27, e27, g⟩ := gInt_elim g
  exact g
theorem B7.ok (R : Rt) (fr : Fr) (h : Hp) (g : L5.g (fun a0 l0 c0 a1 l1 c1 a6 l6 c6 x7 x26 x27 h => ∃ n, L5.t R n a0 l0 c0 a1 l1 c1 a6 l6 c6 x7 x26 x27 h) fr h) : den prog E (cAt C [true, true, true, true, true, false, true]) (Ex.then (D3.g R) (retQ E [.tmp 4, .tmp 5] R)) fr h :=
  den_block (by kernel_rfl) (L5.ok R fr h g)
def D4.t (R : Rt) (a0 : Option Addr) (l0 : Nat) (c0 : Nat) (a1 : Option Addr) (l1 : Nat) (c1 : Nat) (a6 : Option Addr) (l6 : Nat) (c6 : Nat) (x7 : Int) (h : Hp) : Prop :=
  (∃ n, L5.t R n a0 l0 c0 a1 l1 c1 a6 l6 c6 x7 (((l0 : Nat) : Int)) 0 h)
def D4.g (R : Rt) (fr : Fr) (h : Hp) : Prop := gSlice (fr 0) fun a0 l0 c0 => gSlice (fr 1) fun a1 l1 c1 => gSlice (fr 6) fun a6 l6 c6 => gInt .u64 (fr 7) fun x7 => D4.t R a0 l0 c0 a1 l1 c1 a6 l6 c6 x7 h
theorem D4.ok (R : Rt) (fr : Fr) (h : Hp) (g : D4.g R fr h) : den prog E (cAt C [true, true, true, true, true, false]) (Ex.then (D3.g R) (retQ E [.tmp 4, .tmp 5] R)) fr h := by
  obtain ⟨a0, l0, c0, e0, g⟩ := gSlice_elim g
  obtain ⟨a1, l1, c1, e1, g⟩ := gSlice_elim g
  obtain ⟨a6, l6, c6, e6, g⟩ := gSlice_elim g
  obtain ⟨x7, e7, g⟩ := gInt_elim g
  exact den_cut 1 (r := (cAt C [true, true, true, true, true, false, true])) (by kernel_rfl) (B7.ok R) (den_enter [(0, .slice a0 l0 c0), (1, .slice a1 l1 c1), (6, .slice a6 l6 c6), (7, .int .u64 x7)] ⟨e0, e1, e6, e7, trivial⟩ (by kernel_rfl) g)
theorem W8.ok (R : Rt) (fr : Fr) (h : Hp) (g : D4.g R fr h) : den prog E (cAt C [true, true, true, true, true]) (retQ E [.tmp 4, .tmp 5] R) fr h :=
  den_then (by kernel_rfl) (D3.ok R) (D4.ok R fr h g)
def D2.t (R : Rt) (a0 : Option Addr) (l0 : Nat) (c0 : Nat) (a1 : Option Addr) (l1 : Nat) (c1 : Nat) (h : Hp) : Prop :=
  HC nat_Cmp.id #[.slice a0 l0 c0, .slice a1 l1 c1] h fun v7 h8 =>
  gInt .i64 v7 fun x_9 =>
  cond (decide (x_9 < 0)) (R (.tuple #[.slice none 0 0, .int .i64 3]) h8) (mkK h8 48 T48 (((l0 : Nat) : Int)) (((l0 : Nat) : Int)) fun q10 h11 =>
  D4.t R a0 l0 c0 a1 l1 c1 (some q10) ((((l0 : Nat) : Int)).toNat) ((((l0 : Nat) : Int)).toNat) 0 h11)
def D2.g (R : Rt) (fr : Fr) (h : Hp) : Prop := gSlice (fr 0) fun a0 l0 c0 => gSlice (fr 1) fun a1 l1 c1 => D2.t R a0 l0 c0 a1 l1 c1 h
theorem D2.ok (R : Rt) (fr : Fr) (h : Hp) (g : D2.g R fr h) : den prog E (cAt C [true, true]) (retQ E [.tmp 4, .tmp 5] R) fr h := by
  obtain ⟨a0, l0, c0, e0, g⟩ := gSlice_elim g
  obtain ⟨a1, l1, c1, e1, g⟩ := gSlice_elim g
  exact den_cut 3 (r := (cAt C [true, true, true, true, true])) (by kernel_rfl) (W8.ok R) (den_enter [(0, .slice a0 l0 c0), (1, .slice a1 l1 c1)] ⟨e0, e1, trivial⟩ (by kernel_rfl) g)
def D1.t (R : Rt) (a0 : Option Addr) (l0 : Nat) (c0 : Nat) (a1 : Option Addr) (l1 : Nat) (c1 : Nat) (h : Hp) : Prop :=
  HC nat_Form.id #[.slice a0 l0 c0] h fun v1 h2 =>
  gBool v1 fun b_3 =>
  cond (!b_3) (R (.tuple #[.slice none 0 0, .int .i64 2]) h2) (HC nat_Form.id #[.slice a1 l1 c1] h2 fun v4 h5 =>
  gBool v4 fun b_6 =>
  cond (!b_6) (R (.tuple #[.slice none 0 0, .int .i64 2]) h5) (D2.t R a0 l0 c0 a1 l1 c1 h5))
def D1.g (R : Rt) (fr : Fr) (h : Hp) : Prop := gSlice (fr 0) fun a0 l0 c0 => gSlice (fr 1) fun a1 l1 c1 => D1.t R a0 l0 c0 a1 l1 c1 h
theorem D1.ok (R : Rt) (fr : Fr) (h : Hp) (g : D1.g R fr h) : den prog E C (retQ E [.tmp 4, .tmp 5] R) fr h := by
  obtain ⟨a0, l0, c0, e0, g⟩ := gSlice_elim g
  obtain ⟨a1, l1, c1, e1, g⟩ := gSlice_elim g
  exact den_cut 2 (r := (cAt C [true, true])) (by kernel_rfl) (D2.ok R) (den_enter [(0, .slice a0 l0 c0), (1, .slice a1 l1 c1)] ⟨e0, e1, trivial⟩ (by kernel_rfl) g)
def t (a0 : Option Addr) (l0 : Nat) (c0 : Nat) (a1 : Option Addr) (l1 : Nat) (c1 : Nat) (h : Hp) (R : Rt) : Prop := D1.t R a0 l0 c0 a1 l1 c1 h
theorem ok {a0 : Option Addr} {l0 : Nat} {c0 : Nat} {a1 : Option Addr} {l1 : Nat} {c1 : Nat} {h : Hp} {R : Rt} (g : t a0 l0 c0 a1 l1 c1 h R) : HC id #[.slice a0 l0 c0, .slice a1 l1 c1] h R :=
  calls_of_den' envOk (c := C) (rs := [.tmp 4, .tmp 5]) Tryz.func25 (by kernel_rfl) (by kernel_rfl) (by kernel_rfl) (args := [.slice a0 l0 c0, .slice a1 l1 c1]) (by kernel_rfl) (D1.ok R _ h (gSlice_intro rfl (gSlice_intro rfl (g))))
end nat_Sub

namespace num_whole
noncomputable def C : Code := bodyOf Tryz.f26
def D1.t (R : Rt) (b0 : Bool) (a1 : Option Addr) (l1 : Nat) (c1 : Nat) (h : Hp) : Prop :=
  boxK h 28 T28.zs fun q1 h2 =>
  cond b0 (stK h2 (q1.add 0) (.bool (decide ((((l1 : Nat) : Int)) > 0))) fun h3 =>
  stK h3 (q1.add 1) (.slice a1 l1 c1) fun h4 =>
  ldK h4 (q1.add 0) fun v5 =>
  gBool v5 fun b_6 =>
  ldK h4 (q1.add 1) fun v7 =>
  gSlice v7 fun a_8 l_8 c_8 =>
  R (.agg #[.bool b_6, .slice a_8 l_8 c_8]) h4) (stK h2 (q1.add 0) (.bool false) fun h9 =>
  stK h9 (q1.add 1) (.slice a1 l1 c1) fun h10 =>
  ldK h10 (q1.add 0) fun v11 =>
  gBool v11 fun b_12 =>
  ldK h10 (q1.add 1) fun v13 =>
  gSlice v13 fun a_14 l_14 c_14 =>
  R (.agg #[.bool b_12, .slice a_14 l_14 c_14]) h10)
def D1.g (R : Rt) (fr : Fr) (h : Hp) : Prop := gBool (fr 0) fun b0 => gSlice (fr 1) fun a1 l1 c1 => D1.t R b0 a1 l1 c1 h
theorem D1.ok (R : Rt) (fr : Fr) (h : Hp) (g : D1.g R fr h) : den prog E C (retQ E [.cell 4 28] R) fr h := by
  obtain ⟨b0, e0, g⟩ := gBool_elim g
  obtain ⟨a1, l1, c1, e1, g⟩ := gSlice_elim g
  exact den_enter [(0, .bool b0), (1, .slice a1 l1 c1)] ⟨e0, e1, trivial⟩ (by kernel_rfl) g
def t (b0 : Bool) (a1 : Option Addr) (l1 : Nat) (c1 : Nat) (h : Hp) (R : Rt) : Prop := D1.t R b0 a1 l1 c1 h
theorem ok {b0 : Bool} {a1 : Option Addr} {l1 : Nat} {c1 : Nat} {h : Hp} {R : Rt} (g : t b0 a1 l1 c1 h R) : HC id #[.bool b0, .slice a1 l1 c1] h R :=
  calls_of_den' envOk (c := C) (rs := [.cell 4 28]) Tryz.func26 (by kernel_rfl) (by kernel_rfl) (by kernel_rfl) (args := [.bool b0, .slice a1 l1 c1]) (by kernel_rfl) (D1.ok R _ h (gBool_intro rfl (gSlice_intro rfl (g))))
end num_whole

namespace nat_Word
noncomputable def C : Code := bodyOf Tryz.f27
def D1.t (R : Rt) (x0 : Int) (h : Hp) : Prop :=
  cond (x0 == 0) (R (.slice none 0 0) h) (boxK h 48 [.int .u64 x0] fun q1 h2 => R (.slice (some q1) 1 1) h2)
def D1.g (R : Rt) (fr : Fr) (h : Hp) : Prop := gInt .u64 (fr 0) fun x0 => D1.t R x0 h
theorem D1.ok (R : Rt) (fr : Fr) (h : Hp) (g : D1.g R fr h) : den prog E C (retQ E [.tmp 2] R) fr h := by
  obtain ⟨x0, e0, g⟩ := gInt_elim g
  exact den_enter [(0, .int .u64 x0)] ⟨e0, trivial⟩ (by kernel_rfl) g
def t (x0 : Int) (h : Hp) (R : Rt) : Prop := D1.t R x0 h
theorem ok {x0 : Int} {h : Hp} {R : Rt} (g : t x0 h R) : HC id #[.int .u64 x0] h R :=
  calls_of_den' envOk (c := C) (rs := [.tmp 2]) Tryz.func27 (by kernel_rfl) (by kernel_rfl) (by kernel_rfl) (args := [.int .u64 x0]) (by kernel_rfl) (D1.ok R _ h (gInt_intro rfl (g)))
end nat_Word



namespace nat_Form
noncomputable def C : Code := bodyOf Tryz.f30
def D1.t (R : Rt) (a0 : Option Addr) (l0 : Nat) (c0 : Nat) (h : Hp) : Prop :=
  cond (decide ((((l0 : Nat) : Int)) ≤ 8192)) (cond ((((l0 : Nat) : Int)) == 0) (R (.bool true) h) (letK (IntKind.i64.wrap ((((l0 : Nat) : Int)) - 1)) fun n1 =>
  idxK a0 l0 n1 1 fun q2 =>
  ldK h q2 fun v3 =>
  gInt .u64 v3 fun x_4 =>
  R (.bool (x_4 != 0)) h)) (R (.bool false) h)
def D1.g (R : Rt) (fr : Fr) (h : Hp) : Prop := gSlice (fr 0) fun a0 l0 c0 => D1.t R a0 l0 c0 h
theorem D1.ok (R : Rt) (fr : Fr) (h : Hp) (g : D1.g R fr h) : den prog E C (retQ E [.tmp 2] R) fr h := by
  obtain ⟨a0, l0, c0, e0, g⟩ := gSlice_elim g
  exact den_enter [(0, .slice a0 l0 c0)] ⟨e0, trivial⟩ (by kernel_rfl) g
def t (a0 : Option Addr) (l0 : Nat) (c0 : Nat) (h : Hp) (R : Rt) : Prop := D1.t R a0 l0 c0 h
theorem ok {a0 : Option Addr} {l0 : Nat} {c0 : Nat} {h : Hp} {R : Rt} (g : t a0 l0 c0 h R) : HC id #[.slice a0 l0 c0] h R :=
  calls_of_den' envOk (c := C) (rs := [.tmp 2]) Tryz.func30 (by kernel_rfl) (by kernel_rfl) (by kernel_rfl) (args := [.slice a0 l0 c0]) (by kernel_rfl) (D1.ok R _ h (gSlice_intro rfl (g)))
end nat_Form

namespace gnomonlaw04_twin
noncomputable def C : Code := bodyOf Tryz.f31
def D1.t (R : Rt) (b0_0 : Bool) (a0_1 : Option Addr) (l0_1 : Nat) (c0_1 : Nat) (h : Hp) : Prop :=
  boxK h 28 [.bool b0_0, .slice a0_1 l0_1 c0_1] fun q1 h2 =>
  boxK h2 28 T28.zs fun q3 h4 =>
  (q1.add 0).block < h4.size ∧ ldK h4 (q1.add 0) fun v5 =>
  gBool v5 fun b_6 =>
  (q1.add 1).block < h4.size ∧ ldK h4 (q1.add 1) fun v7 =>
  gSlice v7 fun a_8 l_8 c_8 =>
  HC gnomonref01_Twin.id #[.slice a_8 l_8 c_8] h4 fun v9 h10 =>
  gSlice v9 fun a_11 l_11 c_11 =>
  (Pre h4.size h4 h10) ∧ stK h10 (q3.add 0) (.bool b_6) fun h12 =>
  stK h12 (q3.add 1) (.slice a_11 l_11 c_11) fun h13 =>
  ldK h13 (q3.add 0) fun v14 =>
  gBool v14 fun b_15 =>
  ldK h13 (q3.add 1) fun v16 =>
  gSlice v16 fun a_17 l_17 c_17 =>
  R (.agg #[.bool b_15, .slice a_17 l_17 c_17]) h13
def D1.g (R : Rt) (fr : Fr) (h : Hp) : Prop := gAgg (fr 0) fun z0 => uncons z0 fun w0_0 z0_0 => gBool w0_0 fun b0_0 => uncons z0_0 fun w0_1 z0_1 => gSlice w0_1 fun a0_1 l0_1 c0_1 => unnil z0_1 <| D1.t R b0_0 a0_1 l0_1 c0_1 h
theorem D1.ok (R : Rt) (fr : Fr) (h : Hp) (g : D1.g R fr h) : den prog E C (retQ E [.cell 2 28] R) fr h := by
  obtain ⟨z0, e0, g0_0⟩ := gAgg_elim' g
  obtain ⟨w0_0, z0_0, rfl, g0_0x⟩ := uncons_elim g0_0
  obtain ⟨b0_0, rfl, g0_1⟩ := gBool_elim g0_0x
  obtain ⟨w0_1, z0_1, rfl, g0_1x⟩ := uncons_elim g0_1
  obtain ⟨a0_1, l0_1, c0_1, rfl, g0_2⟩ := gSlice_elim g0_1x
  obtain ⟨rfl, g⟩ := unnil_elim g0_2
  exact den_enter [(0, .agg #[.bool b0_0, .slice a0_1 l0_1 c0_1])] ⟨e0, trivial⟩ (by kernel_rfl) g
def t (b0_0 : Bool) (a0_1 : Option Addr) (l0_1 : Nat) (c0_1 : Nat) (h : Hp) (R : Rt) : Prop := D1.t R b0_0 a0_1 l0_1 c0_1 h
theorem ok {b0_0 : Bool} {a0_1 : Option Addr} {l0_1 : Nat} {c0_1 : Nat} {h : Hp} {R : Rt} (g : t b0_0 a0_1 l0_1 c0_1 h R) : HC id #[.agg #[.bool b0_0, .slice a0_1 l0_1 c0_1]] h R :=
  calls_of_den' envOk (c := C) (rs := [.cell 2 28]) Tryz.func31 (by kernel_rfl) (by kernel_rfl) (by kernel_rfl) (args := [.agg #[.bool b0_0, .slice a0_1 l0_1 c0_1]]) (by kernel_rfl) (D1.ok R _ h (gAgg_intro rfl (uncons_intro (gBool_intro rfl (uncons_intro (gSlice_intro rfl (unnil_intro (g))))))))
end gnomonlaw04_twin

namespace gnomonref04_DocForm
noncomputable def C : Code := bodyOf Tryz.f32
def D1.t (R : Rt) (b0_0 : Bool) (a0_1 : Option Addr) (l0_1 : Nat) (c0_1 : Nat) (h : Hp) : Prop :=
  boxK h 28 [.bool b0_0, .slice a0_1 l0_1 c0_1] fun q1 h2 =>
  ldK h2 (q1.add 1) fun v3 =>
  gSlice v3 fun a_4 l_4 c_4 =>
  HC gnomonref01_DocForm.id #[.slice a_4 l_4 c_4] h2 fun v5 h6 =>
  gBool v5 fun b_7 =>
  cond b_7 (ldK h6 (q1.add 0) fun v8 =>
  gBool v8 fun b_9 =>
  cond b_9 (ldK h6 (q1.add 1) fun v10 =>
  gSlice v10 fun a_11 l_11 c_11 =>
  R (.bool (!((((l_11 : Nat) : Int)) == 0))) h6) (R (.bool (!false)) h6)) (R (.bool false) h6)
def D1.g (R : Rt) (fr : Fr) (h : Hp) : Prop := gAgg (fr 0) fun z0 => uncons z0 fun w0_0 z0_0 => gBool w0_0 fun b0_0 => uncons z0_0 fun w0_1 z0_1 => gSlice w0_1 fun a0_1 l0_1 c0_1 => unnil z0_1 <| D1.t R b0_0 a0_1 l0_1 c0_1 h
theorem D1.ok (R : Rt) (fr : Fr) (h : Hp) (g : D1.g R fr h) : den prog E C (retQ E [.tmp 2] R) fr h := by
  obtain ⟨z0, e0, g0_0⟩ := gAgg_elim' g
  obtain ⟨w0_0, z0_0, rfl, g0_0x⟩ := uncons_elim g0_0
  obtain ⟨b0_0, rfl, g0_1⟩ := gBool_elim g0_0x
  obtain ⟨w0_1, z0_1, rfl, g0_1x⟩ := uncons_elim g0_1
  obtain ⟨a0_1, l0_1, c0_1, rfl, g0_2⟩ := gSlice_elim g0_1x
  obtain ⟨rfl, g⟩ := unnil_elim g0_2
  exact den_enter [(0, .agg #[.bool b0_0, .slice a0_1 l0_1 c0_1])] ⟨e0, trivial⟩ (by kernel_rfl) g
def t (b0_0 : Bool) (a0_1 : Option Addr) (l0_1 : Nat) (c0_1 : Nat) (h : Hp) (R : Rt) : Prop := D1.t R b0_0 a0_1 l0_1 c0_1 h
theorem ok {b0_0 : Bool} {a0_1 : Option Addr} {l0_1 : Nat} {c0_1 : Nat} {h : Hp} {R : Rt} (g : t b0_0 a0_1 l0_1 c0_1 h R) : HC id #[.agg #[.bool b0_0, .slice a0_1 l0_1 c0_1]] h R :=
  calls_of_den' envOk (c := C) (rs := [.tmp 2]) Tryz.func32 (by kernel_rfl) (by kernel_rfl) (by kernel_rfl) (args := [.agg #[.bool b0_0, .slice a0_1 l0_1 c0_1]]) (by kernel_rfl) (D1.ok R _ h (gAgg_intro rfl (uncons_intro (gBool_intro rfl (uncons_intro (gSlice_intro rfl (unnil_intro (g))))))))
end gnomonref04_DocForm





namespace gnomonlaw04_doc
noncomputable def C : Code := bodyOf Tryz.f37
def D1.t (R : Rt) (x0_0 : Int) (b0_1 : Bool) (a0_2 : Option Addr) (l0_2 : Nat) (c0_2 : Nat) (b0_3 : Bool) (a0_4 : Option Addr) (l0_4 : Nat) (c0_4 : Nat) (x0_5 : Int) (h : Hp) : Prop :=
  boxK h 38 [.int .i64 x0_0, .bool b0_1, .slice a0_2 l0_2 c0_2, .bool b0_3, .slice a0_4 l0_4 c0_4, .int .i64 x0_5] fun q1 h2 =>
  boxK h2 28 T28.zs fun q3 h4 =>
  ldK h4 (q1.add 0) fun v5 =>
  gInt .i64 v5 fun x_6 =>
  cond (x_6 == 1) (ldK h4 (q1.add 5) fun v7 =>
  gInt .i64 v7 fun x_8 =>
  HC gnomonref04_DocOf.id #[.int .i64 x_8] h4 fun v9 h10 =>
  gAgg v9 fun y11 =>
  uncons y11 fun v12 y12 =>
  gBool v12 fun b_13 =>
  uncons y12 fun v14 y14 =>
  gSlice v14 fun a_15 l_15 c_15 =>
  unnil y14 <| stK h10 (q3.add 0) (.bool b_13) fun h16 =>
  stK h16 (q3.add 1) (.slice a_15 l_15 c_15) fun h17 =>
  ldK h17 (q3.add 0) fun v18 =>
  gBool v18 fun b_19 =>
  ldK h17 (q3.add 1) fun v20 =>
  gSlice v20 fun a_21 l_21 c_21 =>
  R (.tuple #[.agg #[.bool b_19, .slice a_21 l_21 c_21], .int .i64 0]) h17) (cond (x_6 == 6) (ldK h4 ((q1.add 1).add 0) fun v22 =>
  gBool v22 fun b_23 =>
  ldK h4 ((q1.add 1).add 1) fun v24 =>
  gSlice v24 fun a_25 l_25 c_25 =>
  HC gnomonref04_DocNeg.id #[.agg #[.bool b_23, .slice a_25 l_25 c_25]] h4 fun v26 h27 =>
  gTup v26 fun y28 =>
  uncons y28 fun v29 y29 =>
  gAgg v29 fun y30 =>
  uncons y30 fun v31 y31 =>
  gBool v31 fun b_32 =>
  uncons y31 fun v33 y33 =>
  gSlice v33 fun a_34 l_34 c_34 =>
  unnil y33 <| uncons y29 fun v35 y35 =>
  gInt .i64 v35 fun x_36 =>
  unnil y35 <| stK h27 (q3.add 0) (.bool b_32) fun h37 =>
  stK h37 (q3.add 1) (.slice a_34 l_34 c_34) fun h38 =>
  ldK h38 (q3.add 0) fun v39 =>
  gBool v39 fun b_40 =>
  ldK h38 (q3.add 1) fun v41 =>
  gSlice v41 fun a_42 l_42 c_42 =>
  R (.tuple #[.agg #[.bool b_40, .slice a_42 l_42 c_42], .int .i64 x_36]) h38) (cond (x_6 == 7) (ldK h4 (q1.add 0) fun v43 =>
  gInt .i64 v43 fun x_44 =>
  letK (IntKind.i64.wrap (x_44 - 7)) fun n45 =>
  letK (IntKind.i64.wrap (n45 + 0)) fun n46 =>
  ldK h4 ((q1.add 1).add 0) fun v47 =>
  gBool v47 fun b_48 =>
  ldK h4 ((q1.add 1).add 1) fun v49 =>
  gSlice v49 fun a_50 l_50 c_50 =>
  ldK h4 ((q1.add 3).add 0) fun v51 =>
  gBool v51 fun b_52 =>
  ldK h4 ((q1.add 3).add 1) fun v53 =>
  gSlice v53 fun a_54 l_54 c_54 =>
  HC gnomonref04_DocTwo.id #[.int .i64 n46, .agg #[.bool b_48, .slice a_50 l_50 c_50], .agg #[.bool b_52, .slice a_54 l_54 c_54]] h4 fun v55 h56 =>
  gTup v55 fun y57 =>
  uncons y57 fun v58 y58 =>
  gAgg v58 fun y59 =>
  uncons y59 fun v60 y60 =>
  gBool v60 fun b_61 =>
  uncons y60 fun v62 y62 =>
  gSlice v62 fun a_63 l_63 c_63 =>
  unnil y62 <| uncons y58 fun v64 y64 =>
  gInt .i64 v64 fun x_65 =>
  unnil y64 <| stK h56 (q3.add 0) (.bool b_61) fun h66 =>
  stK h66 (q3.add 1) (.slice a_63 l_63 c_63) fun h67 =>
  ldK h67 (q3.add 0) fun v68 =>
  gBool v68 fun b_69 =>
  ldK h67 (q3.add 1) fun v70 =>
  gSlice v70 fun a_71 l_71 c_71 =>
  R (.tuple #[.agg #[.bool b_69, .slice a_71 l_71 c_71], .int .i64 x_65]) h67) (cond (x_6 == 8) (ldK h4 (q1.add 0) fun v72 =>
  gInt .i64 v72 fun x_73 =>
  letK (IntKind.i64.wrap (x_73 - 7)) fun n74 =>
  letK (IntKind.i64.wrap (n74 + 0)) fun n75 =>
  ldK h4 ((q1.add 1).add 0) fun v76 =>
  gBool v76 fun b_77 =>
  ldK h4 ((q1.add 1).add 1) fun v78 =>
  gSlice v78 fun a_79 l_79 c_79 =>
  ldK h4 ((q1.add 3).add 0) fun v80 =>
  gBool v80 fun b_81 =>
  ldK h4 ((q1.add 3).add 1) fun v82 =>
  gSlice v82 fun a_83 l_83 c_83 =>
  HC gnomonref04_DocTwo.id #[.int .i64 n75, .agg #[.bool b_77, .slice a_79 l_79 c_79], .agg #[.bool b_81, .slice a_83 l_83 c_83]] h4 fun v84 h85 =>
  gTup v84 fun y86 =>
  uncons y86 fun v87 y87 =>
  gAgg v87 fun y88 =>
  uncons y88 fun v89 y89 =>
  gBool v89 fun b_90 =>
  uncons y89 fun v91 y91 =>
  gSlice v91 fun a_92 l_92 c_92 =>
  unnil y91 <| uncons y87 fun v93 y93 =>
  gInt .i64 v93 fun x_94 =>
  unnil y93 <| stK h85 (q3.add 0) (.bool b_90) fun h95 =>
  stK h95 (q3.add 1) (.slice a_92 l_92 c_92) fun h96 =>
  ldK h96 (q3.add 0) fun v97 =>
  gBool v97 fun b_98 =>
  ldK h96 (q3.add 1) fun v99 =>
  gSlice v99 fun a_100 l_100 c_100 =>
  R (.tuple #[.agg #[.bool b_98, .slice a_100 l_100 c_100], .int .i64 x_94]) h96) (cond (x_6 == 9) (ldK h4 (q1.add 0) fun v101 =>
  gInt .i64 v101 fun x_102 =>
  letK (IntKind.i64.wrap (x_102 - 7)) fun n103 =>
  letK (IntKind.i64.wrap (n103 + 0)) fun n104 =>
  ldK h4 ((q1.add 1).add 0) fun v105 =>
  gBool v105 fun b_106 =>
  ldK h4 ((q1.add 1).add 1) fun v107 =>
  gSlice v107 fun a_108 l_108 c_108 =>
  ldK h4 ((q1.add 3).add 0) fun v109 =>
  gBool v109 fun b_110 =>
  ldK h4 ((q1.add 3).add 1) fun v111 =>
  gSlice v111 fun a_112 l_112 c_112 =>
  HC gnomonref04_DocTwo.id #[.int .i64 n104, .agg #[.bool b_106, .slice a_108 l_108 c_108], .agg #[.bool b_110, .slice a_112 l_112 c_112]] h4 fun v113 h114 =>
  gTup v113 fun y115 =>
  uncons y115 fun v116 y116 =>
  gAgg v116 fun y117 =>
  uncons y117 fun v118 y118 =>
  gBool v118 fun b_119 =>
  uncons y118 fun v120 y120 =>
  gSlice v120 fun a_121 l_121 c_121 =>
  unnil y120 <| uncons y116 fun v122 y122 =>
  gInt .i64 v122 fun x_123 =>
  unnil y122 <| stK h114 (q3.add 0) (.bool b_119) fun h124 =>
  stK h124 (q3.add 1) (.slice a_121 l_121 c_121) fun h125 =>
  ldK h125 (q3.add 0) fun v126 =>
  gBool v126 fun b_127 =>
  ldK h125 (q3.add 1) fun v128 =>
  gSlice v128 fun a_129 l_129 c_129 =>
  R (.tuple #[.agg #[.bool b_127, .slice a_129 l_129 c_129], .int .i64 x_123]) h125) (cond (x_6 == 10) (ldK h4 (q1.add 0) fun v130 =>
  gInt .i64 v130 fun x_131 =>
  letK (IntKind.i64.wrap (x_131 - 10)) fun n132 =>
  letK (IntKind.i64.wrap (n132 + 0)) fun n133 =>
  ldK h4 ((q1.add 1).add 0) fun v134 =>
  gBool v134 fun b_135 =>
  ldK h4 ((q1.add 1).add 1) fun v136 =>
  gSlice v136 fun a_137 l_137 c_137 =>
  ldK h4 (q1.add 5) fun v138 =>
  gInt .i64 v138 fun x_139 =>
  HC gnomonref04_DocShift.id #[.int .i64 n133, .agg #[.bool b_135, .slice a_137 l_137 c_137], .int .i64 x_139] h4 fun v140 h141 =>
  gTup v140 fun y142 =>
  uncons y142 fun v143 y143 =>
  gAgg v143 fun y144 =>
  uncons y144 fun v145 y145 =>
  gBool v145 fun b_146 =>
  uncons y145 fun v147 y147 =>
  gSlice v147 fun a_148 l_148 c_148 =>
  unnil y147 <| uncons y143 fun v149 y149 =>
  gInt .i64 v149 fun x_150 =>
  unnil y149 <| stK h141 (q3.add 0) (.bool b_146) fun h151 =>
  stK h151 (q3.add 1) (.slice a_148 l_148 c_148) fun h152 =>
  ldK h152 (q3.add 0) fun v153 =>
  gBool v153 fun b_154 =>
  ldK h152 (q3.add 1) fun v155 =>
  gSlice v155 fun a_156 l_156 c_156 =>
  R (.tuple #[.agg #[.bool b_154, .slice a_156 l_156 c_156], .int .i64 x_150]) h152) (cond (x_6 == 11) (ldK h4 (q1.add 0) fun v157 =>
  gInt .i64 v157 fun x_158 =>
  letK (IntKind.i64.wrap (x_158 - 10)) fun n159 =>
  letK (IntKind.i64.wrap (n159 + 0)) fun n160 =>
  ldK h4 ((q1.add 1).add 0) fun v161 =>
  gBool v161 fun b_162 =>
  ldK h4 ((q1.add 1).add 1) fun v163 =>
  gSlice v163 fun a_164 l_164 c_164 =>
  ldK h4 (q1.add 5) fun v165 =>
  gInt .i64 v165 fun x_166 =>
  HC gnomonref04_DocShift.id #[.int .i64 n160, .agg #[.bool b_162, .slice a_164 l_164 c_164], .int .i64 x_166] h4 fun v167 h168 =>
  gTup v167 fun y169 =>
  uncons y169 fun v170 y170 =>
  gAgg v170 fun y171 =>
  uncons y171 fun v172 y172 =>
  gBool v172 fun b_173 =>
  uncons y172 fun v174 y174 =>
  gSlice v174 fun a_175 l_175 c_175 =>
  unnil y174 <| uncons y170 fun v176 y176 =>
  gInt .i64 v176 fun x_177 =>
  unnil y176 <| stK h168 (q3.add 0) (.bool b_173) fun h178 =>
  stK h178 (q3.add 1) (.slice a_175 l_175 c_175) fun h179 =>
  ldK h179 (q3.add 0) fun v180 =>
  gBool v180 fun b_181 =>
  ldK h179 (q3.add 1) fun v182 =>
  gSlice v182 fun a_183 l_183 c_183 =>
  R (.tuple #[.agg #[.bool b_181, .slice a_183 l_183 c_183], .int .i64 x_177]) h179) (cond (x_6 == 12) (ldK h4 (q1.add 0) fun v184 =>
  gInt .i64 v184 fun x_185 =>
  letK (IntKind.i64.wrap (x_185 - 10)) fun n186 =>
  letK (IntKind.i64.wrap (n186 + 0)) fun n187 =>
  ldK h4 ((q1.add 1).add 0) fun v188 =>
  gBool v188 fun b_189 =>
  ldK h4 ((q1.add 1).add 1) fun v190 =>
  gSlice v190 fun a_191 l_191 c_191 =>
  ldK h4 (q1.add 5) fun v192 =>
  gInt .i64 v192 fun x_193 =>
  HC gnomonref04_DocShift.id #[.int .i64 n187, .agg #[.bool b_189, .slice a_191 l_191 c_191], .int .i64 x_193] h4 fun v194 h195 =>
  gTup v194 fun y196 =>
  uncons y196 fun v197 y197 =>
  gAgg v197 fun y198 =>
  uncons y198 fun v199 y199 =>
  gBool v199 fun b_200 =>
  uncons y199 fun v201 y201 =>
  gSlice v201 fun a_202 l_202 c_202 =>
  unnil y201 <| uncons y197 fun v203 y203 =>
  gInt .i64 v203 fun x_204 =>
  unnil y203 <| stK h195 (q3.add 0) (.bool b_200) fun h205 =>
  stK h205 (q3.add 1) (.slice a_202 l_202 c_202) fun h206 =>
  ldK h206 (q3.add 0) fun v207 =>
  gBool v207 fun b_208 =>
  ldK h206 (q3.add 1) fun v209 =>
  gSlice v209 fun a_210 l_210 c_210 =>
  R (.tuple #[.agg #[.bool b_208, .slice a_210 l_210 c_210], .int .i64 x_204]) h206) (cond (x_6 == 13) (ldK h4 (q1.add 0) fun v211 =>
  gInt .i64 v211 fun x_212 =>
  letK (IntKind.i64.wrap (x_212 - 10)) fun n213 =>
  letK (IntKind.i64.wrap (n213 + 0)) fun n214 =>
  ldK h4 ((q1.add 1).add 0) fun v215 =>
  gBool v215 fun b_216 =>
  ldK h4 ((q1.add 1).add 1) fun v217 =>
  gSlice v217 fun a_218 l_218 c_218 =>
  ldK h4 (q1.add 5) fun v219 =>
  gInt .i64 v219 fun x_220 =>
  HC gnomonref04_DocShift.id #[.int .i64 n214, .agg #[.bool b_216, .slice a_218 l_218 c_218], .int .i64 x_220] h4 fun v221 h222 =>
  gTup v221 fun y223 =>
  uncons y223 fun v224 y224 =>
  gAgg v224 fun y225 =>
  uncons y225 fun v226 y226 =>
  gBool v226 fun b_227 =>
  uncons y226 fun v228 y228 =>
  gSlice v228 fun a_229 l_229 c_229 =>
  unnil y228 <| uncons y224 fun v230 y230 =>
  gInt .i64 v230 fun x_231 =>
  unnil y230 <| stK h222 (q3.add 0) (.bool b_227) fun h232 =>
  stK h232 (q3.add 1) (.slice a_229 l_229 c_229) fun h233 =>
  ldK h233 (q3.add 0) fun v234 =>
  gBool v234 fun b_235 =>
  ldK h233 (q3.add 1) fun v236 =>
  gSlice v236 fun a_237 l_237 c_237 =>
  R (.tuple #[.agg #[.bool b_235, .slice a_237 l_237 c_237], .int .i64 x_231]) h233) (cond (x_6 == 14) (ldK h4 (q1.add 0) fun v238 =>
  gInt .i64 v238 fun x_239 =>
  letK (IntKind.i64.wrap (x_239 - 14)) fun n240 =>
  letK (IntKind.i64.wrap (n240 + 3)) fun n241 =>
  ldK h4 ((q1.add 1).add 0) fun v242 =>
  gBool v242 fun b_243 =>
  ldK h4 ((q1.add 1).add 1) fun v244 =>
  gSlice v244 fun a_245 l_245 c_245 =>
  ldK h4 ((q1.add 3).add 0) fun v246 =>
  gBool v246 fun b_247 =>
  ldK h4 ((q1.add 3).add 1) fun v248 =>
  gSlice v248 fun a_249 l_249 c_249 =>
  HC gnomonref04_DocTwo.id #[.int .i64 n241, .agg #[.bool b_243, .slice a_245 l_245 c_245], .agg #[.bool b_247, .slice a_249 l_249 c_249]] h4 fun v250 h251 =>
  gTup v250 fun y252 =>
  uncons y252 fun v253 y253 =>
  gAgg v253 fun y254 =>
  uncons y254 fun v255 y255 =>
  gBool v255 fun b_256 =>
  uncons y255 fun v257 y257 =>
  gSlice v257 fun a_258 l_258 c_258 =>
  unnil y257 <| uncons y253 fun v259 y259 =>
  gInt .i64 v259 fun x_260 =>
  unnil y259 <| stK h251 (q3.add 0) (.bool b_256) fun h261 =>
  stK h261 (q3.add 1) (.slice a_258 l_258 c_258) fun h262 =>
  ldK h262 (q3.add 0) fun v263 =>
  gBool v263 fun b_264 =>
  ldK h262 (q3.add 1) fun v265 =>
  gSlice v265 fun a_266 l_266 c_266 =>
  R (.tuple #[.agg #[.bool b_264, .slice a_266 l_266 c_266], .int .i64 x_260]) h262) (cond (x_6 == 15) (ldK h4 (q1.add 0) fun v267 =>
  gInt .i64 v267 fun x_268 =>
  letK (IntKind.i64.wrap (x_268 - 14)) fun n269 =>
  letK (IntKind.i64.wrap (n269 + 3)) fun n270 =>
  ldK h4 ((q1.add 1).add 0) fun v271 =>
  gBool v271 fun b_272 =>
  ldK h4 ((q1.add 1).add 1) fun v273 =>
  gSlice v273 fun a_274 l_274 c_274 =>
  ldK h4 ((q1.add 3).add 0) fun v275 =>
  gBool v275 fun b_276 =>
  ldK h4 ((q1.add 3).add 1) fun v277 =>
  gSlice v277 fun a_278 l_278 c_278 =>
  HC gnomonref04_DocTwo.id #[.int .i64 n270, .agg #[.bool b_272, .slice a_274 l_274 c_274], .agg #[.bool b_276, .slice a_278 l_278 c_278]] h4 fun v279 h280 =>
  gTup v279 fun y281 =>
  uncons y281 fun v282 y282 =>
  gAgg v282 fun y283 =>
  uncons y283 fun v284 y284 =>
  gBool v284 fun b_285 =>
  uncons y284 fun v286 y286 =>
  gSlice v286 fun a_287 l_287 c_287 =>
  unnil y286 <| uncons y282 fun v288 y288 =>
  gInt .i64 v288 fun x_289 =>
  unnil y288 <| stK h280 (q3.add 0) (.bool b_285) fun h290 =>
  stK h290 (q3.add 1) (.slice a_287 l_287 c_287) fun h291 =>
  ldK h291 (q3.add 0) fun v292 =>
  gBool v292 fun b_293 =>
  ldK h291 (q3.add 1) fun v294 =>
  gSlice v294 fun a_295 l_295 c_295 =>
  R (.tuple #[.agg #[.bool b_293, .slice a_295 l_295 c_295], .int .i64 x_289]) h291) (cond (x_6 == 16) (ldK h4 (q1.add 0) fun v296 =>
  gInt .i64 v296 fun x_297 =>
  letK (IntKind.i64.wrap (x_297 - 14)) fun n298 =>
  letK (IntKind.i64.wrap (n298 + 3)) fun n299 =>
  ldK h4 ((q1.add 1).add 0) fun v300 =>
  gBool v300 fun b_301 =>
  ldK h4 ((q1.add 1).add 1) fun v302 =>
  gSlice v302 fun a_303 l_303 c_303 =>
  ldK h4 ((q1.add 3).add 0) fun v304 =>
  gBool v304 fun b_305 =>
  ldK h4 ((q1.add 3).add 1) fun v306 =>
  gSlice v306 fun a_307 l_307 c_307 =>
  HC gnomonref04_DocTwo.id #[.int .i64 n299, .agg #[.bool b_301, .slice a_303 l_303 c_303], .agg #[.bool b_305, .slice a_307 l_307 c_307]] h4 fun v308 h309 =>
  gTup v308 fun y310 =>
  uncons y310 fun v311 y311 =>
  gAgg v311 fun y312 =>
  uncons y312 fun v313 y313 =>
  gBool v313 fun b_314 =>
  uncons y313 fun v315 y315 =>
  gSlice v315 fun a_316 l_316 c_316 =>
  unnil y315 <| uncons y311 fun v317 y317 =>
  gInt .i64 v317 fun x_318 =>
  unnil y317 <| stK h309 (q3.add 0) (.bool b_314) fun h319 =>
  stK h319 (q3.add 1) (.slice a_316 l_316 c_316) fun h320 =>
  ldK h320 (q3.add 0) fun v321 =>
  gBool v321 fun b_322 =>
  ldK h320 (q3.add 1) fun v323 =>
  gSlice v323 fun a_324 l_324 c_324 =>
  R (.tuple #[.agg #[.bool b_322, .slice a_324 l_324 c_324], .int .i64 x_318]) h320) (cond (x_6 == 17) (ldK h4 (q1.add 0) fun v325 =>
  gInt .i64 v325 fun x_326 =>
  letK (IntKind.i64.wrap (x_326 - 14)) fun n327 =>
  letK (IntKind.i64.wrap (n327 + 3)) fun n328 =>
  ldK h4 ((q1.add 1).add 0) fun v329 =>
  gBool v329 fun b_330 =>
  ldK h4 ((q1.add 1).add 1) fun v331 =>
  gSlice v331 fun a_332 l_332 c_332 =>
  ldK h4 ((q1.add 3).add 0) fun v333 =>
  gBool v333 fun b_334 =>
  ldK h4 ((q1.add 3).add 1) fun v335 =>
  gSlice v335 fun a_336 l_336 c_336 =>
  HC gnomonref04_DocTwo.id #[.int .i64 n328, .agg #[.bool b_330, .slice a_332 l_332 c_332], .agg #[.bool b_334, .slice a_336 l_336 c_336]] h4 fun v337 h338 =>
  gTup v337 fun y339 =>
  uncons y339 fun v340 y340 =>
  gAgg v340 fun y341 =>
  uncons y341 fun v342 y342 =>
  gBool v342 fun b_343 =>
  uncons y342 fun v344 y344 =>
  gSlice v344 fun a_345 l_345 c_345 =>
  unnil y344 <| uncons y340 fun v346 y346 =>
  gInt .i64 v346 fun x_347 =>
  unnil y346 <| stK h338 (q3.add 0) (.bool b_343) fun h348 =>
  stK h348 (q3.add 1) (.slice a_345 l_345 c_345) fun h349 =>
  ldK h349 (q3.add 0) fun v350 =>
  gBool v350 fun b_351 =>
  ldK h349 (q3.add 1) fun v352 =>
  gSlice v352 fun a_353 l_353 c_353 =>
  R (.tuple #[.agg #[.bool b_351, .slice a_353 l_353 c_353], .int .i64 x_347]) h349) (stK h4 (q3.add 0) (.bool false) fun h354 =>
  stK h354 (q3.add 1) (.slice none 0 0) fun h355 =>
  ldK h355 (q3.add 0) fun v356 =>
  gBool v356 fun b_357 =>
  ldK h355 (q3.add 1) fun v358 =>
  gSlice v358 fun a_359 l_359 c_359 =>
  R (.tuple #[.agg #[.bool b_357, .slice a_359 l_359 c_359], .int .i64 0]) h355)))))))))))))
def D1.g (R : Rt) (fr : Fr) (h : Hp) : Prop := gAgg (fr 0) fun z0 => uncons z0 fun w0_0 z0_0 => gInt .i64 w0_0 fun x0_0 => uncons z0_0 fun w0_1 z0_1 => gBool w0_1 fun b0_1 => uncons z0_1 fun w0_2 z0_2 => gSlice w0_2 fun a0_2 l0_2 c0_2 => uncons z0_2 fun w0_3 z0_3 => gBool w0_3 fun b0_3 => uncons z0_3 fun w0_4 z0_4 => gSlice w0_4 fun a0_4 l0_4 c0_4 => uncons z0_4 fun w0_5 z0_5 => gInt .i64 w0_5 fun x0_5 => unnil z0_5 <| D1.t R x0_0 b0_1 a0_2 l0_2 c0_2 b0_3 a0_4 l0_4 c0_4 x0_5 h
theorem D1.ok (R : Rt) (fr : Fr) (h : Hp) (g : D1.g R fr h) : den prog E C (retQ E [.cell 2 28, .tmp 3] R) fr h := by
  obtain ⟨z0, e0, g0_0⟩ := gAgg_elim' g
  obtain ⟨w0_0, z0_0, rfl, g0_0x⟩ := uncons_elim g0_0
  obtain ⟨x0_0, rfl, g0_1⟩ := gInt_elim g0_0x
  obtain ⟨w0_1, z0_1, rfl, g0_1x⟩ := uncons_elim g0_1
  obtain ⟨b0_1, rfl, g0_2⟩ := gBool_elim g0_1x
  obtain ⟨w0_2, z0_2, rfl, g0_2x⟩ := uncons_elim g0_2
  obtain ⟨a0_2, l0_2, c0_2, rfl, g0_3⟩ := gSlice_elim g0_2x
  obtain ⟨w0_3, z0_3, rfl, g0_3x⟩ := uncons_elim g0_3
  obtain ⟨b0_3, rfl, g0_4⟩ := gBool_elim g0_3x
  obtain ⟨w0_4, z0_4, rfl, g0_4x⟩ := uncons_elim g0_4
  obtain ⟨a0_4, l0_4, c0_4, rfl, g0_5⟩ := gSlice_elim g0_4x
  obtain ⟨w0_5, z0_5, rfl, g0_5x⟩ := uncons_elim g0_5
  obtain ⟨x0_5, rfl, g0_6⟩ := gInt_elim g0_5x
  obtain ⟨rfl, g⟩ := unnil_elim g0_6
  exact den_enter [(0, .agg #[.int .i64 x0_0, .bool b0_1, .slice a0_2 l0_2 c0_2, .bool b0_3, .slice a0_4 l0_4 c0_4, .int .i64 x0_5])] ⟨e0, trivial⟩ (by kernel_rfl) g
def t (x0_0 : Int) (b0_1 : Bool) (a0_2 : Option Addr) (l0_2 : Nat) (c0_2 : Nat) (b0_3 : Bool) (a0_4 : Option Addr) (l0_4 : Nat) (c0_4 : Nat) (x0_5 : Int) (h : Hp) (R : Rt) : Prop := D1.t R x0_0 b0_1 a0_2 l0_2 c0_2 b0_3 a0_4 l0_4 c0_4 x0_5 h
theorem ok {x0_0 : Int} {b0_1 : Bool} {a0_2 : Option Addr} {l0_2 : Nat} {c0_2 : Nat} {b0_3 : Bool} {a0_4 : Option Addr} {l0_4 : Nat} {c0_4 : Nat} {x0_5 : Int} {h : Hp} {R : Rt} (g : t x0_0 b0_1 a0_2 l0_2 c0_2 b0_3 a0_4 l0_4 c0_4 x0_5 h R) : HC id #[.agg #[.int .i64 x0_0, .bool b0_1, .slice a0_2 l0_2 c0_2, .bool b0_3, .slice a0_4 l0_4 c0_4, .int .i64 x0_5]] h R :=
  calls_of_den' envOk (c := C) (rs := [.cell 2 28, .tmp 3]) Tryz.func37 (by kernel_rfl) (by kernel_rfl) (by kernel_rfl) (args := [.agg #[.int .i64 x0_0, .bool b0_1, .slice a0_2 l0_2 c0_2, .bool b0_3, .slice a0_4 l0_4 c0_4, .int .i64 x0_5]]) (by kernel_rfl) (D1.ok R _ h (gAgg_intro rfl (uncons_intro (gInt_intro rfl (uncons_intro (gBool_intro rfl (uncons_intro (gSlice_intro rfl (uncons_intro (gBool_intro rfl (uncons_intro (gSlice_intro rfl (uncons_intro (gInt_intro rfl (unnil_intro (g))))))))))))))))
end gnomonlaw04_doc

namespace gnomonlaw04_number
noncomputable def C : Code := bodyOf Tryz.f38
def D2.t (R : Rt) (q2 : Addr) (q4 : Addr) (x5 : Int) (h : Hp) : Prop :=
  ldK h (q4.add 0) fun v20 =>
  gBool v20 fun b_21 =>
  ldK h (q4.add 1) fun v22 =>
  gSlice v22 fun a_23 l_23 c_23 =>
  stK h (q2.add 0) (.bool b_21) fun h24 =>
  stK h24 (q2.add 1) (.slice a_23 l_23 c_23) fun h25 =>
  ldK h25 (q2.add 0) fun v26 =>
  gBool v26 fun b_27 =>
  ldK h25 (q2.add 1) fun v28 =>
  gSlice v28 fun a_29 l_29 c_29 =>
  R (.tuple #[.agg #[.bool b_27, .slice a_29 l_29 c_29], .int .i64 x5]) h25
def D2.g (R : Rt) (fr : Fr) (h : Hp) : Prop := gPtrS (fr 2) fun q2 => gPtrS (fr 4) fun q4 => gInt .i64 (fr 5) fun x5 => D2.t R q2 q4 x5 h
theorem D2.ok (R : Rt) (fr : Fr) (h : Hp) (g : D2.g R fr h) : den prog E (cAt C [true, true, true, true]) (retQ E [.cell 2 28, .tmp 3] R) fr h := by
  obtain ⟨q2, e2, g⟩ := gPtrS_elim g
  obtain ⟨q4, e4, g⟩ := gPtrS_elim g
  obtain ⟨x5, e5, g⟩ := gInt_elim g
  exact den_enter [(2, .pointer (some q2)), (4, .pointer (some q4)), (5, .int .i64 x5)] ⟨e2, e4, e5, trivial⟩ (by kernel_rfl) g
def D1.t (R : Rt) (x0_0 : Int) (b0_1 : Bool) (a0_2 : Option Addr) (l0_2 : Nat) (c0_2 : Nat) (b0_3 : Bool) (a0_4 : Option Addr) (l0_4 : Nat) (c0_4 : Nat) (x0_5 : Int) (h : Hp) : Prop :=
  boxK h 38 [.int .i64 x0_0, .bool b0_1, .slice a0_2 l0_2 c0_2, .bool b0_3, .slice a0_4 l0_4 c0_4, .int .i64 x0_5] fun q1 h2 =>
  boxK h2 28 T28.zs fun q3 h4 =>
  boxK h4 28 T28.zs fun q5 h6 =>
  ldK h6 (q1.add 0) fun v7 =>
  gInt .i64 v7 fun x_8 =>
  cond (x_8 == 1) (ldK h6 (q1.add 5) fun v9 =>
  gInt .i64 v9 fun x_10 =>
  HC num_Of.id #[.int .i64 x_10] h6 fun v11 h12 =>
  gAgg v11 fun y13 =>
  uncons y13 fun v14 y14 =>
  gBool v14 fun b_15 =>
  uncons y14 fun v16 y16 =>
  gSlice v16 fun a_17 l_17 c_17 =>
  unnil y16 <| stK h12 (q5.add 0) (.bool b_15) fun h18 =>
  stK h18 (q5.add 1) (.slice a_17 l_17 c_17) fun h19 =>
  D2.t R q3 q5 0 h19) (cond (x_8 == 6) (ldK h6 ((q1.add 1).add 0) fun v30 =>
  gBool v30 fun b_31 =>
  ldK h6 ((q1.add 1).add 1) fun v32 =>
  gSlice v32 fun a_33 l_33 c_33 =>
  HC num_Neg.id #[.agg #[.bool b_31, .slice a_33 l_33 c_33]] h6 fun v34 h35 =>
  gTup v34 fun y36 =>
  uncons y36 fun v37 y37 =>
  gAgg v37 fun y38 =>
  uncons y38 fun v39 y39 =>
  gBool v39 fun b_40 =>
  uncons y39 fun v41 y41 =>
  gSlice v41 fun a_42 l_42 c_42 =>
  unnil y41 <| uncons y37 fun v43 y43 =>
  gInt .i64 v43 fun x_44 =>
  unnil y43 <| stK h35 (q5.add 0) (.bool b_40) fun h45 =>
  stK h45 (q5.add 1) (.slice a_42 l_42 c_42) fun h46 =>
  D2.t R q3 q5 x_44 h46) (cond (x_8 == 7) (ldK h6 ((q1.add 1).add 0) fun v47 =>
  gBool v47 fun b_48 =>
  ldK h6 ((q1.add 1).add 1) fun v49 =>
  gSlice v49 fun a_50 l_50 c_50 =>
  ldK h6 ((q1.add 3).add 0) fun v51 =>
  gBool v51 fun b_52 =>
  ldK h6 ((q1.add 3).add 1) fun v53 =>
  gSlice v53 fun a_54 l_54 c_54 =>
  HC num_Add.id #[.agg #[.bool b_48, .slice a_50 l_50 c_50], .agg #[.bool b_52, .slice a_54 l_54 c_54]] h6 fun v55 h56 =>
  gTup v55 fun y57 =>
  uncons y57 fun v58 y58 =>
  gAgg v58 fun y59 =>
  uncons y59 fun v60 y60 =>
  gBool v60 fun b_61 =>
  uncons y60 fun v62 y62 =>
  gSlice v62 fun a_63 l_63 c_63 =>
  unnil y62 <| uncons y58 fun v64 y64 =>
  gInt .i64 v64 fun x_65 =>
  unnil y64 <| stK h56 (q5.add 0) (.bool b_61) fun h66 =>
  stK h66 (q5.add 1) (.slice a_63 l_63 c_63) fun h67 =>
  D2.t R q3 q5 x_65 h67) (cond (x_8 == 8) (ldK h6 ((q1.add 1).add 0) fun v68 =>
  gBool v68 fun b_69 =>
  ldK h6 ((q1.add 1).add 1) fun v70 =>
  gSlice v70 fun a_71 l_71 c_71 =>
  ldK h6 ((q1.add 3).add 0) fun v72 =>
  gBool v72 fun b_73 =>
  ldK h6 ((q1.add 3).add 1) fun v74 =>
  gSlice v74 fun a_75 l_75 c_75 =>
  HC num_Sub.id #[.agg #[.bool b_69, .slice a_71 l_71 c_71], .agg #[.bool b_73, .slice a_75 l_75 c_75]] h6 fun v76 h77 =>
  gTup v76 fun y78 =>
  uncons y78 fun v79 y79 =>
  gAgg v79 fun y80 =>
  uncons y80 fun v81 y81 =>
  gBool v81 fun b_82 =>
  uncons y81 fun v83 y83 =>
  gSlice v83 fun a_84 l_84 c_84 =>
  unnil y83 <| uncons y79 fun v85 y85 =>
  gInt .i64 v85 fun x_86 =>
  unnil y85 <| stK h77 (q5.add 0) (.bool b_82) fun h87 =>
  stK h87 (q5.add 1) (.slice a_84 l_84 c_84) fun h88 =>
  D2.t R q3 q5 x_86 h88) (cond (x_8 == 9) (ldK h6 ((q1.add 1).add 0) fun v89 =>
  gBool v89 fun b_90 =>
  ldK h6 ((q1.add 1).add 1) fun v91 =>
  gSlice v91 fun a_92 l_92 c_92 =>
  ldK h6 ((q1.add 3).add 0) fun v93 =>
  gBool v93 fun b_94 =>
  ldK h6 ((q1.add 3).add 1) fun v95 =>
  gSlice v95 fun a_96 l_96 c_96 =>
  HC num_Mul.id #[.agg #[.bool b_90, .slice a_92 l_92 c_92], .agg #[.bool b_94, .slice a_96 l_96 c_96]] h6 fun v97 h98 =>
  gTup v97 fun y99 =>
  uncons y99 fun v100 y100 =>
  gAgg v100 fun y101 =>
  uncons y101 fun v102 y102 =>
  gBool v102 fun b_103 =>
  uncons y102 fun v104 y104 =>
  gSlice v104 fun a_105 l_105 c_105 =>
  unnil y104 <| uncons y100 fun v106 y106 =>
  gInt .i64 v106 fun x_107 =>
  unnil y106 <| stK h98 (q5.add 0) (.bool b_103) fun h108 =>
  stK h108 (q5.add 1) (.slice a_105 l_105 c_105) fun h109 =>
  D2.t R q3 q5 x_107 h109) (cond (x_8 == 10) (ldK h6 ((q1.add 1).add 0) fun v110 =>
  gBool v110 fun b_111 =>
  ldK h6 ((q1.add 1).add 1) fun v112 =>
  gSlice v112 fun a_113 l_113 c_113 =>
  ldK h6 (q1.add 5) fun v114 =>
  gInt .i64 v114 fun x_115 =>
  HC num_Shl.id #[.agg #[.bool b_111, .slice a_113 l_113 c_113], .int .i64 x_115] h6 fun v116 h117 =>
  gTup v116 fun y118 =>
  uncons y118 fun v119 y119 =>
  gAgg v119 fun y120 =>
  uncons y120 fun v121 y121 =>
  gBool v121 fun b_122 =>
  uncons y121 fun v123 y123 =>
  gSlice v123 fun a_124 l_124 c_124 =>
  unnil y123 <| uncons y119 fun v125 y125 =>
  gInt .i64 v125 fun x_126 =>
  unnil y125 <| stK h117 (q5.add 0) (.bool b_122) fun h127 =>
  stK h127 (q5.add 1) (.slice a_124 l_124 c_124) fun h128 =>
  D2.t R q3 q5 x_126 h128) (cond (x_8 == 11) (ldK h6 ((q1.add 1).add 0) fun v129 =>
  gBool v129 fun b_130 =>
  ldK h6 ((q1.add 1).add 1) fun v131 =>
  gSlice v131 fun a_132 l_132 c_132 =>
  ldK h6 (q1.add 5) fun v133 =>
  gInt .i64 v133 fun x_134 =>
  HC num_FloorShr.id #[.agg #[.bool b_130, .slice a_132 l_132 c_132], .int .i64 x_134] h6 fun v135 h136 =>
  gTup v135 fun y137 =>
  uncons y137 fun v138 y138 =>
  gAgg v138 fun y139 =>
  uncons y139 fun v140 y140 =>
  gBool v140 fun b_141 =>
  uncons y140 fun v142 y142 =>
  gSlice v142 fun a_143 l_143 c_143 =>
  unnil y142 <| uncons y138 fun v144 y144 =>
  gInt .i64 v144 fun x_145 =>
  unnil y144 <| stK h136 (q5.add 0) (.bool b_141) fun h146 =>
  stK h146 (q5.add 1) (.slice a_143 l_143 c_143) fun h147 =>
  D2.t R q3 q5 x_145 h147) (cond (x_8 == 12) (ldK h6 ((q1.add 1).add 0) fun v148 =>
  gBool v148 fun b_149 =>
  ldK h6 ((q1.add 1).add 1) fun v150 =>
  gSlice v150 fun a_151 l_151 c_151 =>
  ldK h6 (q1.add 5) fun v152 =>
  gInt .i64 v152 fun x_153 =>
  HC num_CeilShr.id #[.agg #[.bool b_149, .slice a_151 l_151 c_151], .int .i64 x_153] h6 fun v154 h155 =>
  gTup v154 fun y156 =>
  uncons y156 fun v157 y157 =>
  gAgg v157 fun y158 =>
  uncons y158 fun v159 y159 =>
  gBool v159 fun b_160 =>
  uncons y159 fun v161 y161 =>
  gSlice v161 fun a_162 l_162 c_162 =>
  unnil y161 <| uncons y157 fun v163 y163 =>
  gInt .i64 v163 fun x_164 =>
  unnil y163 <| stK h155 (q5.add 0) (.bool b_160) fun h165 =>
  stK h165 (q5.add 1) (.slice a_162 l_162 c_162) fun h166 =>
  D2.t R q3 q5 x_164 h166) (cond (x_8 == 13) (ldK h6 ((q1.add 1).add 0) fun v167 =>
  gBool v167 fun b_168 =>
  ldK h6 ((q1.add 1).add 1) fun v169 =>
  gSlice v169 fun a_170 l_170 c_170 =>
  ldK h6 (q1.add 5) fun v171 =>
  gInt .i64 v171 fun x_172 =>
  HC num_NearShr.id #[.agg #[.bool b_168, .slice a_170 l_170 c_170], .int .i64 x_172] h6 fun v173 h174 =>
  gTup v173 fun y175 =>
  uncons y175 fun v176 y176 =>
  gAgg v176 fun y177 =>
  uncons y177 fun v178 y178 =>
  gBool v178 fun b_179 =>
  uncons y178 fun v180 y180 =>
  gSlice v180 fun a_181 l_181 c_181 =>
  unnil y180 <| uncons y176 fun v182 y182 =>
  gInt .i64 v182 fun x_183 =>
  unnil y182 <| stK h174 (q5.add 0) (.bool b_179) fun h184 =>
  stK h184 (q5.add 1) (.slice a_181 l_181 c_181) fun h185 =>
  D2.t R q3 q5 x_183 h185) (cond (x_8 == 14) (ldK h6 ((q1.add 1).add 0) fun v186 =>
  gBool v186 fun b_187 =>
  ldK h6 ((q1.add 1).add 1) fun v188 =>
  gSlice v188 fun a_189 l_189 c_189 =>
  ldK h6 ((q1.add 3).add 0) fun v190 =>
  gBool v190 fun b_191 =>
  ldK h6 ((q1.add 3).add 1) fun v192 =>
  gSlice v192 fun a_193 l_193 c_193 =>
  HC num_FloorDiv.id #[.agg #[.bool b_187, .slice a_189 l_189 c_189], .agg #[.bool b_191, .slice a_193 l_193 c_193]] h6 fun v194 h195 =>
  gTup v194 fun y196 =>
  uncons y196 fun v197 y197 =>
  gAgg v197 fun y198 =>
  uncons y198 fun v199 y199 =>
  gBool v199 fun b_200 =>
  uncons y199 fun v201 y201 =>
  gSlice v201 fun a_202 l_202 c_202 =>
  unnil y201 <| uncons y197 fun v203 y203 =>
  gInt .i64 v203 fun x_204 =>
  unnil y203 <| stK h195 (q5.add 0) (.bool b_200) fun h205 =>
  stK h205 (q5.add 1) (.slice a_202 l_202 c_202) fun h206 =>
  D2.t R q3 q5 x_204 h206) (cond (x_8 == 15) (ldK h6 ((q1.add 1).add 0) fun v207 =>
  gBool v207 fun b_208 =>
  ldK h6 ((q1.add 1).add 1) fun v209 =>
  gSlice v209 fun a_210 l_210 c_210 =>
  ldK h6 ((q1.add 3).add 0) fun v211 =>
  gBool v211 fun b_212 =>
  ldK h6 ((q1.add 3).add 1) fun v213 =>
  gSlice v213 fun a_214 l_214 c_214 =>
  HC num_CeilDiv.id #[.agg #[.bool b_208, .slice a_210 l_210 c_210], .agg #[.bool b_212, .slice a_214 l_214 c_214]] h6 fun v215 h216 =>
  gTup v215 fun y217 =>
  uncons y217 fun v218 y218 =>
  gAgg v218 fun y219 =>
  uncons y219 fun v220 y220 =>
  gBool v220 fun b_221 =>
  uncons y220 fun v222 y222 =>
  gSlice v222 fun a_223 l_223 c_223 =>
  unnil y222 <| uncons y218 fun v224 y224 =>
  gInt .i64 v224 fun x_225 =>
  unnil y224 <| stK h216 (q5.add 0) (.bool b_221) fun h226 =>
  stK h226 (q5.add 1) (.slice a_223 l_223 c_223) fun h227 =>
  D2.t R q3 q5 x_225 h227) (cond (x_8 == 16) (ldK h6 ((q1.add 1).add 0) fun v228 =>
  gBool v228 fun b_229 =>
  ldK h6 ((q1.add 1).add 1) fun v230 =>
  gSlice v230 fun a_231 l_231 c_231 =>
  ldK h6 ((q1.add 3).add 0) fun v232 =>
  gBool v232 fun b_233 =>
  ldK h6 ((q1.add 3).add 1) fun v234 =>
  gSlice v234 fun a_235 l_235 c_235 =>
  HC num_NearDiv.id #[.agg #[.bool b_229, .slice a_231 l_231 c_231], .agg #[.bool b_233, .slice a_235 l_235 c_235]] h6 fun v236 h237 =>
  gTup v236 fun y238 =>
  uncons y238 fun v239 y239 =>
  gAgg v239 fun y240 =>
  uncons y240 fun v241 y241 =>
  gBool v241 fun b_242 =>
  uncons y241 fun v243 y243 =>
  gSlice v243 fun a_244 l_244 c_244 =>
  unnil y243 <| uncons y239 fun v245 y245 =>
  gInt .i64 v245 fun x_246 =>
  unnil y245 <| stK h237 (q5.add 0) (.bool b_242) fun h247 =>
  stK h247 (q5.add 1) (.slice a_244 l_244 c_244) fun h248 =>
  D2.t R q3 q5 x_246 h248) (cond (x_8 == 17) (ldK h6 ((q1.add 1).add 0) fun v249 =>
  gBool v249 fun b_250 =>
  ldK h6 ((q1.add 1).add 1) fun v251 =>
  gSlice v251 fun a_252 l_252 c_252 =>
  ldK h6 ((q1.add 3).add 0) fun v253 =>
  gBool v253 fun b_254 =>
  ldK h6 ((q1.add 3).add 1) fun v255 =>
  gSlice v255 fun a_256 l_256 c_256 =>
  HC num_Mod.id #[.agg #[.bool b_250, .slice a_252 l_252 c_252], .agg #[.bool b_254, .slice a_256 l_256 c_256]] h6 fun v257 h258 =>
  gTup v257 fun y259 =>
  uncons y259 fun v260 y260 =>
  gAgg v260 fun y261 =>
  uncons y261 fun v262 y262 =>
  gBool v262 fun b_263 =>
  uncons y262 fun v264 y264 =>
  gSlice v264 fun a_265 l_265 c_265 =>
  unnil y264 <| uncons y260 fun v266 y266 =>
  gInt .i64 v266 fun x_267 =>
  unnil y266 <| stK h258 (q5.add 0) (.bool b_263) fun h268 =>
  stK h268 (q5.add 1) (.slice a_265 l_265 c_265) fun h269 =>
  D2.t R q3 q5 x_267 h269) (D2.t R q3 q5 0 h6)))))))))))))
def D1.g (R : Rt) (fr : Fr) (h : Hp) : Prop := gAgg (fr 0) fun z0 => uncons z0 fun w0_0 z0_0 => gInt .i64 w0_0 fun x0_0 => uncons z0_0 fun w0_1 z0_1 => gBool w0_1 fun b0_1 => uncons z0_1 fun w0_2 z0_2 => gSlice w0_2 fun a0_2 l0_2 c0_2 => uncons z0_2 fun w0_3 z0_3 => gBool w0_3 fun b0_3 => uncons z0_3 fun w0_4 z0_4 => gSlice w0_4 fun a0_4 l0_4 c0_4 => uncons z0_4 fun w0_5 z0_5 => gInt .i64 w0_5 fun x0_5 => unnil z0_5 <| D1.t R x0_0 b0_1 a0_2 l0_2 c0_2 b0_3 a0_4 l0_4 c0_4 x0_5 h
theorem D1.ok (R : Rt) (fr : Fr) (h : Hp) (g : D1.g R fr h) : den prog E C (retQ E [.cell 2 28, .tmp 3] R) fr h := by
  obtain ⟨z0, e0, g0_0⟩ := gAgg_elim' g
  obtain ⟨w0_0, z0_0, rfl, g0_0x⟩ := uncons_elim g0_0
  obtain ⟨x0_0, rfl, g0_1⟩ := gInt_elim g0_0x
  obtain ⟨w0_1, z0_1, rfl, g0_1x⟩ := uncons_elim g0_1
  obtain ⟨b0_1, rfl, g0_2⟩ := gBool_elim g0_1x
  obtain ⟨w0_2, z0_2, rfl, g0_2x⟩ := uncons_elim g0_2
  obtain ⟨a0_2, l0_2, c0_2, rfl, g0_3⟩ := gSlice_elim g0_2x
  obtain ⟨w0_3, z0_3, rfl, g0_3x⟩ := uncons_elim g0_3
  obtain ⟨b0_3, rfl, g0_4⟩ := gBool_elim g0_3x
  obtain ⟨w0_4, z0_4, rfl, g0_4x⟩ := uncons_elim g0_4
  obtain ⟨a0_4, l0_4, c0_4, rfl, g0_5⟩ := gSlice_elim g0_4x
  obtain ⟨w0_5, z0_5, rfl, g0_5x⟩ := uncons_elim g0_5
  obtain ⟨x0_5, rfl, g0_6⟩ := gInt_elim g0_5x
  obtain ⟨rfl, g⟩ := unnil_elim g0_6
  exact den_cut 4 (r := (cAt C [true, true, true, true])) (by kernel_rfl) (D2.ok R) (den_enter [(0, .agg #[.int .i64 x0_0, .bool b0_1, .slice a0_2 l0_2 c0_2, .bool b0_3, .slice a0_4 l0_4 c0_4, .int .i64 x0_5])] ⟨e0, trivial⟩ (by kernel_rfl) g)
def t (x0_0 : Int) (b0_1 : Bool) (a0_2 : Option Addr) (l0_2 : Nat) (c0_2 : Nat) (b0_3 : Bool) (a0_4 : Option Addr) (l0_4 : Nat) (c0_4 : Nat) (x0_5 : Int) (h : Hp) (R : Rt) : Prop := D1.t R x0_0 b0_1 a0_2 l0_2 c0_2 b0_3 a0_4 l0_4 c0_4 x0_5 h
theorem ok {x0_0 : Int} {b0_1 : Bool} {a0_2 : Option Addr} {l0_2 : Nat} {c0_2 : Nat} {b0_3 : Bool} {a0_4 : Option Addr} {l0_4 : Nat} {c0_4 : Nat} {x0_5 : Int} {h : Hp} {R : Rt} (g : t x0_0 b0_1 a0_2 l0_2 c0_2 b0_3 a0_4 l0_4 c0_4 x0_5 h R) : HC id #[.agg #[.int .i64 x0_0, .bool b0_1, .slice a0_2 l0_2 c0_2, .bool b0_3, .slice a0_4 l0_4 c0_4, .int .i64 x0_5]] h R :=
  calls_of_den' envOk (c := C) (rs := [.cell 2 28, .tmp 3]) Tryz.func38 (by kernel_rfl) (by kernel_rfl) (by kernel_rfl) (args := [.agg #[.int .i64 x0_0, .bool b0_1, .slice a0_2 l0_2 c0_2, .bool b0_3, .slice a0_4 l0_4 c0_4, .int .i64 x0_5]]) (by kernel_rfl) (D1.ok R _ h (gAgg_intro rfl (uncons_intro (gInt_intro rfl (uncons_intro (gBool_intro rfl (uncons_intro (gSlice_intro rfl (uncons_intro (gBool_intro rfl (uncons_intro (gSlice_intro rfl (uncons_intro (gInt_intro rfl (unnil_intro (g))))))))))))))))
end gnomonlaw04_number

namespace gnomonlaw04_told
noncomputable def C : Code := bodyOf Tryz.f39
def D1.t (R : Rt) (b0_0 : Bool) (a0_1 : Option Addr) (l0_1 : Nat) (c0_1 : Nat) (x1 : Int) (b2_0 : Bool) (a2_1 : Option Addr) (l2_1 : Nat) (c2_1 : Nat) (x3 : Int) (h : Hp) : Prop :=
  boxK h 28 [.bool b0_0, .slice a0_1 l0_1 c0_1] fun q1 h2 =>
  boxK h2 28 [.bool b2_0, .slice a2_1 l2_1 c2_1] fun q3 h4 =>
  ldK h4 (q1.add 0) fun v5 =>
  gBool v5 fun b_6 =>
  ldK h4 (q1.add 1) fun v7 =>
  gSlice v7 fun a_8 l_8 c_8 =>
  ldK h4 (q3.add 0) fun v9 =>
  gBool v9 fun b_10 =>
  ldK h4 (q3.add 1) fun v11 =>
  gSlice v11 fun a_12 l_12 c_12 =>
  HC gnomonlaw04_same.id #[.agg #[.bool b_6, .slice a_8 l_8 c_8], .agg #[.bool b_10, .slice a_12 l_12 c_12]] h4 fun v13 h14 =>
  gBool v13 fun b_15 =>
  cond b_15 (R (.bool (x1 == x3)) h14) (R (.bool false) h14)
def D1.g (R : Rt) (fr : Fr) (h : Hp) : Prop := gAgg (fr 0) fun z0 => uncons z0 fun w0_0 z0_0 => gBool w0_0 fun b0_0 => uncons z0_0 fun w0_1 z0_1 => gSlice w0_1 fun a0_1 l0_1 c0_1 => unnil z0_1 <| gInt .i64 (fr 1) fun x1 => gAgg (fr 2) fun z2 => uncons z2 fun w2_0 z2_0 => gBool w2_0 fun b2_0 => uncons z2_0 fun w2_1 z2_1 => gSlice w2_1 fun a2_1 l2_1 c2_1 => unnil z2_1 <| gInt .i64 (fr 3) fun x3 => D1.t R b0_0 a0_1 l0_1 c0_1 x1 b2_0 a2_1 l2_1 c2_1 x3 h
theorem D1.ok (R : Rt) (fr : Fr) (h : Hp) (g : D1.g R fr h) : den prog E C (retQ E [.tmp 8] R) fr h := by
  obtain ⟨z0, e0, g0_0⟩ := gAgg_elim' g
  obtain ⟨w0_0, z0_0, rfl, g0_0x⟩ := uncons_elim g0_0
  obtain ⟨b0_0, rfl, g0_1⟩ := gBool_elim g0_0x
  obtain ⟨w0_1, z0_1, rfl, g0_1x⟩ := uncons_elim g0_1
  obtain ⟨a0_1, l0_1, c0_1, rfl, g0_2⟩ := gSlice_elim g0_1x
  obtain ⟨rfl, g⟩ := unnil_elim g0_2
  obtain ⟨x1, e1, g⟩ := gInt_elim g
  obtain ⟨z2, e2, g2_0⟩ := gAgg_elim' g
  obtain ⟨w2_0, z2_0, rfl, g2_0x⟩ := uncons_elim g2_0
  obtain ⟨b2_0, rfl, g2_1⟩ := gBool_elim g2_0x
  obtain ⟨w2_1, z2_1, rfl, g2_1x⟩ := uncons_elim g2_1
  obtain ⟨a2_1, l2_1, c2_1, rfl, g2_2⟩ := gSlice_elim g2_1x
  obtain ⟨rfl, g⟩ := unnil_elim g2_2
  obtain ⟨x3, e3, g⟩ := gInt_elim g
  exact den_enter [(0, .agg #[.bool b0_0, .slice a0_1 l0_1 c0_1]), (1, .int .i64 x1), (2, .agg #[.bool b2_0, .slice a2_1 l2_1 c2_1]), (3, .int .i64 x3)] ⟨e0, e1, e2, e3, trivial⟩ (by kernel_rfl) g
def t (b0_0 : Bool) (a0_1 : Option Addr) (l0_1 : Nat) (c0_1 : Nat) (x1 : Int) (b2_0 : Bool) (a2_1 : Option Addr) (l2_1 : Nat) (c2_1 : Nat) (x3 : Int) (h : Hp) (R : Rt) : Prop := D1.t R b0_0 a0_1 l0_1 c0_1 x1 b2_0 a2_1 l2_1 c2_1 x3 h
theorem ok {b0_0 : Bool} {a0_1 : Option Addr} {l0_1 : Nat} {c0_1 : Nat} {x1 : Int} {b2_0 : Bool} {a2_1 : Option Addr} {l2_1 : Nat} {c2_1 : Nat} {x3 : Int} {h : Hp} {R : Rt} (g : t b0_0 a0_1 l0_1 c0_1 x1 b2_0 a2_1 l2_1 c2_1 x3 h R) : HC id #[.agg #[.bool b0_0, .slice a0_1 l0_1 c0_1], .int .i64 x1, .agg #[.bool b2_0, .slice a2_1 l2_1 c2_1], .int .i64 x3] h R :=
  calls_of_den' envOk (c := C) (rs := [.tmp 8]) Tryz.func39 (by kernel_rfl) (by kernel_rfl) (by kernel_rfl) (args := [.agg #[.bool b0_0, .slice a0_1 l0_1 c0_1], .int .i64 x1, .agg #[.bool b2_0, .slice a2_1 l2_1 c2_1], .int .i64 x3]) (by kernel_rfl) (D1.ok R _ h (gAgg_intro rfl (uncons_intro (gBool_intro rfl (uncons_intro (gSlice_intro rfl (unnil_intro (gInt_intro rfl (gAgg_intro rfl (uncons_intro (gBool_intro rfl (uncons_intro (gSlice_intro rfl (unnil_intro (gInt_intro rfl (g))))))))))))))))
end gnomonlaw04_told

namespace num_way_div
noncomputable def C : Code := bodyOf Tryz.f40
def D2.t (R : Rt) (x0 : Int) (q4 : Addr) (q5 : Addr) (q6 : Addr) (h : Hp) : Prop :=
  ldK h (q5.add 1) fun v33 =>
  gSlice v33 fun a_34 l_34 c_34 =>
  cond ((((l_34 : Nat) : Int)) == 0) (stK h (q6.add 0) (.bool false) fun h35 =>
  stK h35 (q6.add 1) (.slice none 0 0) fun h36 =>
  ldK h36 (q6.add 0) fun v37 =>
  gBool v37 fun b_38 =>
  ldK h36 (q6.add 1) fun v39 =>
  gSlice v39 fun a_40 l_40 c_40 =>
  R (.tuple #[.agg #[.bool b_38, .slice a_40 l_40 c_40], .int .i64 4]) h36) (ldK h (q4.add 1) fun v41 =>
  gSlice v41 fun a_42 l_42 c_42 =>
  ldK h (q5.add 1) fun v43 =>
  gSlice v43 fun a_44 l_44 c_44 =>
  HC natdiv_QuoRem.id #[.slice a_42 l_42 c_42, .slice a_44 l_44 c_44] h fun v45 h46 =>
  gTup v45 fun y47 =>
  uncons y47 fun v48 y48 =>
  gSlice v48 fun a_49 l_49 c_49 =>
  uncons y48 fun v50 y50 =>
  gSlice v50 fun a_51 l_51 c_51 =>
  uncons y50 fun v52 y52 =>
  gInt .i64 v52 fun x_53 =>
  unnil y52 <| cond (x_53 != 0) (stK h46 (q6.add 0) (.bool false) fun h54 =>
  stK h54 (q6.add 1) (.slice none 0 0) fun h55 =>
  ldK h55 (q6.add 0) fun v56 =>
  gBool v56 fun b_57 =>
  ldK h55 (q6.add 1) fun v58 =>
  gSlice v58 fun a_59 l_59 c_59 =>
  R (.tuple #[.agg #[.bool b_57, .slice a_59 l_59 c_59], .int .i64 x_53]) h55) (ldK h46 (q5.add 1) fun v60 =>
  gSlice v60 fun a_61 l_61 c_61 =>
  HC nat_Sub.id #[.slice a_61 l_61 c_61, .slice a_51 l_51 c_51] h46 fun v62 h63 =>
  gTup v62 fun y64 =>
  uncons y64 fun v65 y65 =>
  gSlice v65 fun a_66 l_66 c_66 =>
  uncons y65 fun v67 y67 =>
  gInt .i64 v67 fun x_68 =>
  unnil y67 <| cond (x_68 != 0) (stK h63 (q6.add 0) (.bool false) fun h69 =>
  stK h69 (q6.add 1) (.slice none 0 0) fun h70 =>
  ldK h70 (q6.add 0) fun v71 =>
  gBool v71 fun b_72 =>
  ldK h70 (q6.add 1) fun v73 =>
  gSlice v73 fun a_74 l_74 c_74 =>
  R (.tuple #[.agg #[.bool b_72, .slice a_74 l_74 c_74], .int .i64 x_68]) h70) ((q4.add 0).block < h63.size ∧ ldK h63 (q4.add 0) fun v75 =>
  gBool v75 fun b_76 =>
  (q5.add 0).block < h63.size ∧ ldK h63 (q5.add 0) fun v77 =>
  gBool v77 fun b_78 =>
  HC nat_Cmp.id #[.slice a_51 l_51 c_51, .slice a_66 l_66 c_66] h63 fun v79 h80 =>
  gInt .i64 v79 fun x_81 =>
  (Pre h63.size h63 h80) ∧ HC num_way_made.id #[.int .i64 x0, .bool (!(b_76 == b_78)), .slice a_49 l_49 c_49, .bool (decide ((((l_51 : Nat) : Int)) > 0)), .int .i64 x_81] h80 fun v82 h83 =>
  gTup v82 fun y84 =>
  uncons y84 fun v85 y85 =>
  gAgg v85 fun y86 =>
  uncons y86 fun v87 y87 =>
  gBool v87 fun b_88 =>
  uncons y87 fun v89 y89 =>
  gSlice v89 fun a_90 l_90 c_90 =>
  unnil y89 <| uncons y85 fun v91 y91 =>
  gInt .i64 v91 fun x_92 =>
  unnil y91 <| (Pre h63.size h80 h83) ∧ stK h83 (q6.add 0) (.bool b_88) fun h93 =>
  stK h93 (q6.add 1) (.slice a_90 l_90 c_90) fun h94 =>
  ldK h94 (q6.add 0) fun v95 =>
  gBool v95 fun b_96 =>
  ldK h94 (q6.add 1) fun v97 =>
  gSlice v97 fun a_98 l_98 c_98 =>
  R (.tuple #[.agg #[.bool b_96, .slice a_98 l_98 c_98], .int .i64 x_92]) h94)))
def D2.g (R : Rt) (fr : Fr) (h : Hp) : Prop := gInt .i64 (fr 0) fun x0 => gPtrS (fr 4) fun q4 => gPtrS (fr 5) fun q5 => gPtrS (fr 6) fun q6 => D2.t R x0 q4 q5 q6 h
theorem D2.ok (R : Rt) (fr : Fr) (h : Hp) (g : D2.g R fr h) : den prog E (cAt C [true, true]) (retQ E [.cell 6 28, .tmp 7] R) fr h := by
  obtain ⟨x0, e0, g⟩ := gInt_elim g
  obtain ⟨q4, e4, g⟩ := gPtrS_elim g
  obtain ⟨q5, e5, g⟩ := gPtrS_elim g
  obtain ⟨q6, e6, g⟩ := gPtrS_elim g
  exact den_enter [(0, .int .i64 x0), (4, .pointer (some q4)), (5, .pointer (some q5)), (6, .pointer (some q6))] ⟨e0, e4, e5, e6, trivial⟩ (by kernel_rfl) g
def D1.t (R : Rt) (x0 : Int) (b1_0 : Bool) (a1_1 : Option Addr) (l1_1 : Nat) (c1_1 : Nat) (b2_0 : Bool) (a2_1 : Option Addr) (l2_1 : Nat) (c2_1 : Nat) (h : Hp) : Prop :=
  boxK h 28 [.bool b1_0, .slice a1_1 l1_1 c1_1] fun q1 h2 =>
  boxK h2 28 [.bool b2_0, .slice a2_1 l2_1 c2_1] fun q3 h4 =>
  boxK h4 28 T28.zs fun q5 h6 =>
  ldK h6 (q1.add 0) fun v7 =>
  gBool v7 fun b_8 =>
  ldK h6 (q1.add 1) fun v9 =>
  gSlice v9 fun a_10 l_10 c_10 =>
  HC num_Form.id #[.agg #[.bool b_8, .slice a_10 l_10 c_10]] h6 fun v11 h12 =>
  gBool v11 fun b_13 =>
  cond (!b_13) (stK h12 (q5.add 0) (.bool false) fun h14 =>
  stK h14 (q5.add 1) (.slice none 0 0) fun h15 =>
  ldK h15 (q5.add 0) fun v16 =>
  gBool v16 fun b_17 =>
  ldK h15 (q5.add 1) fun v18 =>
  gSlice v18 fun a_19 l_19 c_19 =>
  R (.tuple #[.agg #[.bool b_17, .slice a_19 l_19 c_19], .int .i64 2]) h15) (ldK h12 (q3.add 0) fun v20 =>
  gBool v20 fun b_21 =>
  ldK h12 (q3.add 1) fun v22 =>
  gSlice v22 fun a_23 l_23 c_23 =>
  HC num_Form.id #[.agg #[.bool b_21, .slice a_23 l_23 c_23]] h12 fun v24 h25 =>
  gBool v24 fun b_26 =>
  cond (!b_26) (stK h25 (q5.add 0) (.bool false) fun h27 =>
  stK h27 (q5.add 1) (.slice none 0 0) fun h28 =>
  ldK h28 (q5.add 0) fun v29 =>
  gBool v29 fun b_30 =>
  ldK h28 (q5.add 1) fun v31 =>
  gSlice v31 fun a_32 l_32 c_32 =>
  R (.tuple #[.agg #[.bool b_30, .slice a_32 l_32 c_32], .int .i64 2]) h28) (D2.t R x0 q1 q3 q5 h25))
def D1.g (R : Rt) (fr : Fr) (h : Hp) : Prop := gInt .i64 (fr 0) fun x0 => gAgg (fr 1) fun z1 => uncons z1 fun w1_0 z1_0 => gBool w1_0 fun b1_0 => uncons z1_0 fun w1_1 z1_1 => gSlice w1_1 fun a1_1 l1_1 c1_1 => unnil z1_1 <| gAgg (fr 2) fun z2 => uncons z2 fun w2_0 z2_0 => gBool w2_0 fun b2_0 => uncons z2_0 fun w2_1 z2_1 => gSlice w2_1 fun a2_1 l2_1 c2_1 => unnil z2_1 <| D1.t R x0 b1_0 a1_1 l1_1 c1_1 b2_0 a2_1 l2_1 c2_1 h
theorem D1.ok (R : Rt) (fr : Fr) (h : Hp) (g : D1.g R fr h) : den prog E C (retQ E [.cell 6 28, .tmp 7] R) fr h := by
  obtain ⟨x0, e0, g⟩ := gInt_elim g
  obtain ⟨z1, e1, g1_0⟩ := gAgg_elim' g
  obtain ⟨w1_0, z1_0, rfl, g1_0x⟩ := uncons_elim g1_0
  obtain ⟨b1_0, rfl, g1_1⟩ := gBool_elim g1_0x
  obtain ⟨w1_1, z1_1, rfl, g1_1x⟩ := uncons_elim g1_1
  obtain ⟨a1_1, l1_1, c1_1, rfl, g1_2⟩ := gSlice_elim g1_1x
  obtain ⟨rfl, g⟩ := unnil_elim g1_2
  obtain ⟨z2, e2, g2_0⟩ := gAgg_elim' g
  obtain ⟨w2_0, z2_0, rfl, g2_0x⟩ := uncons_elim g2_0
  obtain ⟨b2_0, rfl, g2_1⟩ := gBool_elim g2_0x
  obtain ⟨w2_1, z2_1, rfl, g2_1x⟩ := uncons_elim g2_1
  obtain ⟨a2_1, l2_1, c2_1, rfl, g2_2⟩ := gSlice_elim g2_1x
  obtain ⟨rfl, g⟩ := unnil_elim g2_2
  exact den_cut 2 (r := (cAt C [true, true])) (by kernel_rfl) (D2.ok R) (den_enter [(0, .int .i64 x0), (1, .agg #[.bool b1_0, .slice a1_1 l1_1 c1_1]), (2, .agg #[.bool b2_0, .slice a2_1 l2_1 c2_1])] ⟨e0, e1, e2, trivial⟩ (by kernel_rfl) g)
def t (x0 : Int) (b1_0 : Bool) (a1_1 : Option Addr) (l1_1 : Nat) (c1_1 : Nat) (b2_0 : Bool) (a2_1 : Option Addr) (l2_1 : Nat) (c2_1 : Nat) (h : Hp) (R : Rt) : Prop := D1.t R x0 b1_0 a1_1 l1_1 c1_1 b2_0 a2_1 l2_1 c2_1 h
theorem ok {x0 : Int} {b1_0 : Bool} {a1_1 : Option Addr} {l1_1 : Nat} {c1_1 : Nat} {b2_0 : Bool} {a2_1 : Option Addr} {l2_1 : Nat} {c2_1 : Nat} {h : Hp} {R : Rt} (g : t x0 b1_0 a1_1 l1_1 c1_1 b2_0 a2_1 l2_1 c2_1 h R) : HC id #[.int .i64 x0, .agg #[.bool b1_0, .slice a1_1 l1_1 c1_1], .agg #[.bool b2_0, .slice a2_1 l2_1 c2_1]] h R :=
  calls_of_den' envOk (c := C) (rs := [.cell 6 28, .tmp 7]) Tryz.func40 (by kernel_rfl) (by kernel_rfl) (by kernel_rfl) (args := [.int .i64 x0, .agg #[.bool b1_0, .slice a1_1 l1_1 c1_1], .agg #[.bool b2_0, .slice a2_1 l2_1 c2_1]]) (by kernel_rfl) (D1.ok R _ h (gInt_intro rfl (gAgg_intro rfl (uncons_intro (gBool_intro rfl (uncons_intro (gSlice_intro rfl (unnil_intro (gAgg_intro rfl (uncons_intro (gBool_intro rfl (uncons_intro (gSlice_intro rfl (unnil_intro (g)))))))))))))))
end num_way_div

namespace num_way_shr
noncomputable def C : Code := bodyOf Tryz.f41
def D3.t (R : Rt) (x0 : Int) (q4 : Addr) (q6 : Addr) (a8 : Option Addr) (l8 : Nat) (c8 : Nat) (b10 : Bool) (x11 : Int) (h : Hp) : Prop :=
  ldK h (q4.add 0) fun v58 =>
  gBool v58 fun b_59 =>
  HC num_way_made.id #[.int .i64 x0, .bool b_59, .slice a8 l8 c8, .bool b10, .int .i64 x11] h fun v60 h61 =>
  gTup v60 fun y62 =>
  uncons y62 fun v63 y63 =>
  gAgg v63 fun y64 =>
  uncons y64 fun v65 y65 =>
  gBool v65 fun b_66 =>
  uncons y65 fun v67 y67 =>
  gSlice v67 fun a_68 l_68 c_68 =>
  unnil y67 <| uncons y63 fun v69 y69 =>
  gInt .i64 v69 fun x_70 =>
  unnil y69 <| stK h61 (q6.add 0) (.bool b_66) fun h71 =>
  stK h71 (q6.add 1) (.slice a_68 l_68 c_68) fun h72 =>
  ldK h72 (q6.add 0) fun v73 =>
  gBool v73 fun b_74 =>
  ldK h72 (q6.add 1) fun v75 =>
  gSlice v75 fun a_76 l_76 c_76 =>
  R (.tuple #[.agg #[.bool b_74, .slice a_76 l_76 c_76], .int .i64 x_70]) h72
def D3.g (R : Rt) (fr : Fr) (h : Hp) : Prop := gInt .i64 (fr 0) fun x0 => gPtrS (fr 4) fun q4 => gPtrS (fr 6) fun q6 => gSlice (fr 8) fun a8 l8 c8 => gBool (fr 10) fun b10 => gInt .i64 (fr 11) fun x11 => D3.t R x0 q4 q6 a8 l8 c8 b10 x11 h
theorem D3.ok (R : Rt) (fr : Fr) (h : Hp) (g : D3.g R fr h) : den prog E (cAt C [true, true, true, true, true, true, true, true]) (retQ E [.cell 6 28, .tmp 7] R) fr h := by
  obtain ⟨x0, e0, g⟩ := gInt_elim g
  obtain ⟨q4, e4, g⟩ := gPtrS_elim g
  obtain ⟨q6, e6, g⟩ := gPtrS_elim g
  obtain ⟨a8, l8, c8, e8, g⟩ := gSlice_elim g
  obtain ⟨b10, e10, g⟩ := gBool_elim g
  obtain ⟨x11, e11, g⟩ := gInt_elim g
  exact den_enter [(0, .int .i64 x0), (4, .pointer (some q4)), (6, .pointer (some q6)), (8, .slice a8 l8 c8), (10, .bool b10), (11, .int .i64 x11)] ⟨e0, e4, e6, e8, e10, e11, trivial⟩ (by kernel_rfl) g
def D2.t (R : Rt) (x0 : Int) (x2 : Int) (q4 : Addr) (q6 : Addr) (a8 : Option Addr) (l8 : Nat) (c8 : Nat) (b10 : Bool) (h : Hp) : Prop :=
  ldK h (q4.add 1) fun v46 =>
  gSlice v46 fun a_47 l_47 c_47 =>
  letK (IntKind.i64.wrap (x2 - 1)) fun n48 =>
  HC nat_Bit.id #[.slice a_47 l_47 c_47, .int .i64 n48] h fun v49 h50 =>
  gBool v49 fun b_51 =>
  cond b_51 (ldK h50 (q4.add 1) fun v52 =>
  gSlice v52 fun a_53 l_53 c_53 =>
  HC nat_Trail.id #[.slice a_53 l_53 c_53] h50 fun v54 h55 =>
  gInt .i64 v54 fun x_56 =>
  letK (IntKind.i64.wrap (x2 - 1)) fun n57 =>
  cond (x_56 == n57) (D3.t R x0 q4 q6 a8 l8 c8 b10 0 h55) (D3.t R x0 q4 q6 a8 l8 c8 b10 1 h55)) (D3.t R x0 q4 q6 a8 l8 c8 b10 (-1) h50)
def D2.g (R : Rt) (fr : Fr) (h : Hp) : Prop := gInt .i64 (fr 0) fun x0 => gInt .i64 (fr 2) fun x2 => gPtrS (fr 4) fun q4 => gPtrS (fr 6) fun q6 => gSlice (fr 8) fun a8 l8 c8 => gBool (fr 10) fun b10 => D2.t R x0 x2 q4 q6 a8 l8 c8 b10 h
theorem D2.ok (R : Rt) (fr : Fr) (h : Hp) (g : D2.g R fr h) : den prog E (cAt C [true, true, true, true, true, true]) (retQ E [.cell 6 28, .tmp 7] R) fr h := by
  obtain ⟨x0, e0, g⟩ := gInt_elim g
  obtain ⟨x2, e2, g⟩ := gInt_elim g
  obtain ⟨q4, e4, g⟩ := gPtrS_elim g
  obtain ⟨q6, e6, g⟩ := gPtrS_elim g
  obtain ⟨a8, l8, c8, e8, g⟩ := gSlice_elim g
  obtain ⟨b10, e10, g⟩ := gBool_elim g
  exact den_cut 2 (r := (cAt C [true, true, true, true, true, true, true, true])) (by kernel_rfl) (D3.ok R) (den_enter [(0, .int .i64 x0), (2, .int .i64 x2), (4, .pointer (some q4)), (6, .pointer (some q6)), (8, .slice a8 l8 c8), (10, .bool b10)] ⟨e0, e2, e4, e6, e8, e10, trivial⟩ (by kernel_rfl) g)
def D1.t (R : Rt) (x0 : Int) (b1_0 : Bool) (a1_1 : Option Addr) (l1_1 : Nat) (c1_1 : Nat) (x2 : Int) (h : Hp) : Prop :=
  boxK h 28 [.bool b1_0, .slice a1_1 l1_1 c1_1] fun q1 h2 =>
  boxK h2 28 T28.zs fun q3 h4 =>
  cond (decide (x2 < 0)) (stK h4 (q3.add 0) (.bool false) fun h5 =>
  stK h5 (q3.add 1) (.slice none 0 0) fun h6 =>
  ldK h6 (q3.add 0) fun v7 =>
  gBool v7 fun b_8 =>
  ldK h6 (q3.add 1) fun v9 =>
  gSlice v9 fun a_10 l_10 c_10 =>
  R (.tuple #[.agg #[.bool b_8, .slice a_10 l_10 c_10], .int .i64 1]) h6) (ldK h4 (q1.add 0) fun v11 =>
  gBool v11 fun b_12 =>
  ldK h4 (q1.add 1) fun v13 =>
  gSlice v13 fun a_14 l_14 c_14 =>
  HC num_Form.id #[.agg #[.bool b_12, .slice a_14 l_14 c_14]] h4 fun v15 h16 =>
  gBool v15 fun b_17 =>
  cond (!b_17) (stK h16 (q3.add 0) (.bool false) fun h18 =>
  stK h18 (q3.add 1) (.slice none 0 0) fun h19 =>
  ldK h19 (q3.add 0) fun v20 =>
  gBool v20 fun b_21 =>
  ldK h19 (q3.add 1) fun v22 =>
  gSlice v22 fun a_23 l_23 c_23 =>
  R (.tuple #[.agg #[.bool b_21, .slice a_23 l_23 c_23], .int .i64 2]) h19) (ldK h16 (q1.add 1) fun v24 =>
  gSlice v24 fun a_25 l_25 c_25 =>
  HC nat_Shr.id #[.slice a_25 l_25 c_25, .int .i64 x2] h16 fun v26 h27 =>
  gTup v26 fun y28 =>
  uncons y28 fun v29 y29 =>
  gSlice v29 fun a_30 l_30 c_30 =>
  uncons y29 fun v31 y31 =>
  gInt .i64 v31 fun x_32 =>
  unnil y31 <| cond (x_32 != 0) (stK h27 (q3.add 0) (.bool false) fun h33 =>
  stK h33 (q3.add 1) (.slice none 0 0) fun h34 =>
  ldK h34 (q3.add 0) fun v35 =>
  gBool v35 fun b_36 =>
  ldK h34 (q3.add 1) fun v37 =>
  gSlice v37 fun a_38 l_38 c_38 =>
  R (.tuple #[.agg #[.bool b_36, .slice a_38 l_38 c_38], .int .i64 x_32]) h34) (ldK h27 (q1.add 1) fun v39 =>
  gSlice v39 fun a_40 l_40 c_40 =>
  cond (decide ((((l_40 : Nat) : Int)) > 0)) (ldK h27 (q1.add 1) fun v41 =>
  gSlice v41 fun a_42 l_42 c_42 =>
  HC nat_Trail.id #[.slice a_42 l_42 c_42] h27 fun v43 h44 =>
  gInt .i64 v43 fun x_45 =>
  D2.t R x0 x2 q1 q3 a_30 l_30 c_30 (decide (x_45 < x2)) h44) (D2.t R x0 x2 q1 q3 a_30 l_30 c_30 false h27))))
def D1.g (R : Rt) (fr : Fr) (h : Hp) : Prop := gInt .i64 (fr 0) fun x0 => gAgg (fr 1) fun z1 => uncons z1 fun w1_0 z1_0 => gBool w1_0 fun b1_0 => uncons z1_0 fun w1_1 z1_1 => gSlice w1_1 fun a1_1 l1_1 c1_1 => unnil z1_1 <| gInt .i64 (fr 2) fun x2 => D1.t R x0 b1_0 a1_1 l1_1 c1_1 x2 h
theorem D1.ok (R : Rt) (fr : Fr) (h : Hp) (g : D1.g R fr h) : den prog E C (retQ E [.cell 6 28, .tmp 7] R) fr h := by
  obtain ⟨x0, e0, g⟩ := gInt_elim g
  obtain ⟨z1, e1, g1_0⟩ := gAgg_elim' g
  obtain ⟨w1_0, z1_0, rfl, g1_0x⟩ := uncons_elim g1_0
  obtain ⟨b1_0, rfl, g1_1⟩ := gBool_elim g1_0x
  obtain ⟨w1_1, z1_1, rfl, g1_1x⟩ := uncons_elim g1_1
  obtain ⟨a1_1, l1_1, c1_1, rfl, g1_2⟩ := gSlice_elim g1_1x
  obtain ⟨rfl, g⟩ := unnil_elim g1_2
  obtain ⟨x2, e2, g⟩ := gInt_elim g
  exact den_cut 6 (r := (cAt C [true, true, true, true, true, true])) (by kernel_rfl) (D2.ok R) (den_enter [(0, .int .i64 x0), (1, .agg #[.bool b1_0, .slice a1_1 l1_1 c1_1]), (2, .int .i64 x2)] ⟨e0, e1, e2, trivial⟩ (by kernel_rfl) g)
def t (x0 : Int) (b1_0 : Bool) (a1_1 : Option Addr) (l1_1 : Nat) (c1_1 : Nat) (x2 : Int) (h : Hp) (R : Rt) : Prop := D1.t R x0 b1_0 a1_1 l1_1 c1_1 x2 h
theorem ok {x0 : Int} {b1_0 : Bool} {a1_1 : Option Addr} {l1_1 : Nat} {c1_1 : Nat} {x2 : Int} {h : Hp} {R : Rt} (g : t x0 b1_0 a1_1 l1_1 c1_1 x2 h R) : HC id #[.int .i64 x0, .agg #[.bool b1_0, .slice a1_1 l1_1 c1_1], .int .i64 x2] h R :=
  calls_of_den' envOk (c := C) (rs := [.cell 6 28, .tmp 7]) Tryz.func41 (by kernel_rfl) (by kernel_rfl) (by kernel_rfl) (args := [.int .i64 x0, .agg #[.bool b1_0, .slice a1_1 l1_1 c1_1], .int .i64 x2]) (by kernel_rfl) (D1.ok R _ h (gInt_intro rfl (gAgg_intro rfl (uncons_intro (gBool_intro rfl (uncons_intro (gSlice_intro rfl (unnil_intro (gInt_intro rfl (g))))))))))
end num_way_shr

namespace natdiv_QuoRem
noncomputable def C : Code := bodyOf Tryz.f42
def D2.t (R : Rt) (a0 : Option Addr) (l0 : Nat) (c0 : Nat) (a1 : Option Addr) (l1 : Nat) (c1 : Nat) (h : Hp) : Prop :=
  cond ((((l1 : Nat) : Int)) == 0) (R (.tuple #[.slice none 0 0, .slice none 0 0, .int .i64 4]) h) (HC nat_Cmp.id #[.slice a0 l0 c0, .slice a1 l1 c1] h fun v7 h8 =>
  gInt .i64 v7 fun x_9 =>
  cond (decide (x_9 < 0)) (HC nat_Norm.id #[.slice a0 l0 c0] h8 fun v10 h11 =>
  gTup v10 fun y12 =>
  uncons y12 fun v13 y13 =>
  gSlice v13 fun a_14 l_14 c_14 =>
  uncons y13 fun v15 y15 =>
  gInt .i64 v15 fun x_16 =>
  unnil y15 <| R (.tuple #[.slice none 0 0, .slice a_14 l_14 c_14, .int .i64 0]) h11) (cond ((((l1 : Nat) : Int)) == 1) (idxK a1 l1 0 1 fun q17 =>
  ldK h8 q17 fun v18 =>
  gInt .u64 v18 fun x_19 =>
  HC nat_DivWord.id #[.slice a0 l0 c0, .int .u64 x_19] h8 fun v20 h21 =>
  gTup v20 fun y22 =>
  uncons y22 fun v23 y23 =>
  gSlice v23 fun a_24 l_24 c_24 =>
  uncons y23 fun v25 y25 =>
  gInt .u64 v25 fun x_26 =>
  uncons y25 fun v27 y27 =>
  gInt .i64 v27 fun x_28 =>
  unnil y27 <| HC nat_Word.id #[.int .u64 x_26] h21 fun v29 h30 =>
  gSlice v29 fun a_31 l_31 c_31 =>
  R (.tuple #[.slice a_24 l_24 c_24, .slice a_31 l_31 c_31, .int .i64 0]) h30) (letK (IntKind.i64.wrap ((((l1 : Nat) : Int)) - 1)) fun n32 =>
  idxK a1 l1 n32 1 fun q33 =>
  ldK h8 q33 fun v34 =>
  gInt .u64 v34 fun x_35 =>
  HC bits_LeadingZeros64.id #[.int .u64 x_35] h8 fun v36 h37 =>
  gInt .i64 v36 fun x_38 =>
  letK (IntKind.i64.wrap ((((l0 : Nat) : Int)) + 1)) fun n39 =>
  HC natdiv_shifted.id #[.slice a0 l0 c0, .int .i64 x_38, .int .i64 n39] h37 fun v40 h41 =>
  gSlice v40 fun a_42 l_42 c_42 =>
  HC natdiv_shifted.id #[.slice a1 l1 c1, .int .i64 x_38, .int .i64 (((l1 : Nat) : Int))] h41 fun v43 h44 =>
  gSlice v43 fun a_45 l_45 c_45 =>
  HC natdiv_long.id #[.slice a_42 l_42 c_42, .slice a_45 l_45 c_45] h44 fun v46 h47 =>
  gSlice v46 fun a_48 l_48 c_48 =>
  slK 1 a_42 l_42 c_42 none (some (.int .i64 (((l_45 : Nat) : Int)))) none fun a_49 l_49 c_49 =>
  HC nat_Norm.id #[.slice a_49 l_49 c_49] h47 fun v50 h51 =>
  gTup v50 fun y52 =>
  uncons y52 fun v53 y53 =>
  gSlice v53 fun a_54 l_54 c_54 =>
  uncons y53 fun v55 y55 =>
  gInt .i64 v55 fun x_56 =>
  unnil y55 <| HC nat_Shr.id #[.slice a_54 l_54 c_54, .int .i64 x_38] h51 fun v57 h58 =>
  gTup v57 fun y59 =>
  uncons y59 fun v60 y60 =>
  gSlice v60 fun a_61 l_61 c_61 =>
  uncons y60 fun v62 y62 =>
  gInt .i64 v62 fun x_63 =>
  unnil y62 <| HC nat_Norm.id #[.slice a_48 l_48 c_48] h58 fun v64 h65 =>
  gTup v64 fun y66 =>
  uncons y66 fun v67 y67 =>
  gSlice v67 fun a_68 l_68 c_68 =>
  uncons y67 fun v69 y69 =>
  gInt .i64 v69 fun x_70 =>
  unnil y69 <| R (.tuple #[.slice a_68 l_68 c_68, .slice a_61 l_61 c_61, .int .i64 0]) h65)))
def D2.g (R : Rt) (fr : Fr) (h : Hp) : Prop := gSlice (fr 0) fun a0 l0 c0 => gSlice (fr 1) fun a1 l1 c1 => D2.t R a0 l0 c0 a1 l1 c1 h
theorem D2.ok (R : Rt) (fr : Fr) (h : Hp) (g : D2.g R fr h) : den prog E (cAt C [true, true]) (retQ E [.tmp 4, .tmp 5, .tmp 6] R) fr h := by
  obtain ⟨a0, l0, c0, e0, g⟩ := gSlice_elim g
  obtain ⟨a1, l1, c1, e1, g⟩ := gSlice_elim g
  exact den_enter [(0, .slice a0 l0 c0), (1, .slice a1 l1 c1)] ⟨e0, e1, trivial⟩ (by kernel_rfl) g
def D1.t (R : Rt) (a0 : Option Addr) (l0 : Nat) (c0 : Nat) (a1 : Option Addr) (l1 : Nat) (c1 : Nat) (h : Hp) : Prop :=
  HC nat_Form.id #[.slice a0 l0 c0] h fun v1 h2 =>
  gBool v1 fun b_3 =>
  cond (!b_3) (R (.tuple #[.slice none 0 0, .slice none 0 0, .int .i64 2]) h2) (HC nat_Form.id #[.slice a1 l1 c1] h2 fun v4 h5 =>
  gBool v4 fun b_6 =>
  cond (!b_6) (R (.tuple #[.slice none 0 0, .slice none 0 0, .int .i64 2]) h5) (D2.t R a0 l0 c0 a1 l1 c1 h5))
def D1.g (R : Rt) (fr : Fr) (h : Hp) : Prop := gSlice (fr 0) fun a0 l0 c0 => gSlice (fr 1) fun a1 l1 c1 => D1.t R a0 l0 c0 a1 l1 c1 h
theorem D1.ok (R : Rt) (fr : Fr) (h : Hp) (g : D1.g R fr h) : den prog E C (retQ E [.tmp 4, .tmp 5, .tmp 6] R) fr h := by
  obtain ⟨a0, l0, c0, e0, g⟩ := gSlice_elim g
  obtain ⟨a1, l1, c1, e1, g⟩ := gSlice_elim g
  exact den_cut 2 (r := (cAt C [true, true])) (by kernel_rfl) (D2.ok R) (den_enter [(0, .slice a0 l0 c0), (1, .slice a1 l1 c1)] ⟨e0, e1, trivial⟩ (by kernel_rfl) g)
def t (a0 : Option Addr) (l0 : Nat) (c0 : Nat) (a1 : Option Addr) (l1 : Nat) (c1 : Nat) (h : Hp) (R : Rt) : Prop := D1.t R a0 l0 c0 a1 l1 c1 h
theorem ok {a0 : Option Addr} {l0 : Nat} {c0 : Nat} {a1 : Option Addr} {l1 : Nat} {c1 : Nat} {h : Hp} {R : Rt} (g : t a0 l0 c0 a1 l1 c1 h R) : HC id #[.slice a0 l0 c0, .slice a1 l1 c1] h R :=
  calls_of_den' envOk (c := C) (rs := [.tmp 4, .tmp 5, .tmp 6]) Tryz.func42 (by kernel_rfl) (by kernel_rfl) (by kernel_rfl) (args := [.slice a0 l0 c0, .slice a1 l1 c1]) (by kernel_rfl) (D1.ok R _ h (gSlice_intro rfl (gSlice_intro rfl (g))))
end natdiv_QuoRem

namespace gnomonref01_Same
noncomputable def C : Code := bodyOf Tryz.f43
def D2.t (R : Rt)  (h : Hp) : Prop :=
  R (.bool true) h
def D2.g (R : Rt) (fr : Fr) (h : Hp) : Prop := D2.t R  h
theorem D2.ok (R : Rt) (fr : Fr) (h : Hp) (g : D2.g R fr h) : den prog E (cAt C [true, true, true]) (retQ E [.tmp 4] R) fr h := by
  exact den_enter [] trivial (by kernel_rfl) g
def L4.g (N : Option Addr → Nat → Nat → Option Addr → Nat → Nat → Int → Hp → Prop) (fr : Fr) (h : Hp) : Prop := gSlice (fr 0) fun a0 l0 c0 => gSlice (fr 1) fun a1 l1 c1 => gInt .i64 (fr 5) fun x5 => N a0 l0 c0 a1 l1 c1 x5 h
def D5.t (R : Rt) (N4 : Option Addr → Nat → Nat → Option Addr → Nat → Nat → Int → Hp → Prop) (a0 : Option Addr) (l0 : Nat) (c0 : Nat) (a1 : Option Addr) (l1 : Nat) (c1 : Nat) (x5 : Int) (h : Hp) : Prop :=
  cond (decide (x5 < (((l0 : Nat) : Int)))) (idxK a0 l0 x5 1 fun q1 =>
  ldK h q1 fun v2 =>
  gInt .u64 v2 fun x_3 =>
  idxK a1 l1 x5 1 fun q4 =>
  ldK h q4 fun v5 =>
  gInt .u64 v5 fun x_6 =>
  cond (x_3 != x_6) (R (.bool false) h) (letK (IntKind.i64.wrap (x5 + 1)) fun n7 =>
  N4 a0 l0 c0 a1 l1 c1 n7 h)) (D2.t R h)
def D5.g (R : Rt) (N4 : Option Addr → Nat → Nat → Option Addr → Nat → Nat → Int → Hp → Prop) (fr : Fr) (h : Hp) : Prop := gSlice (fr 0) fun a0 l0 c0 => gSlice (fr 1) fun a1 l1 c1 => gInt .i64 (fr 5) fun x5 => D5.t R N4 a0 l0 c0 a1 l1 c1 x5 h
theorem D5.ok (R : Rt) (N4 : Option Addr → Nat → Nat → Option Addr → Nat → Nat → Int → Hp → Prop) (fr : Fr) (h : Hp) (g : D5.g R N4 fr h) : den prog E (cAt C [true, true, false, true, false, false]) (Ex.then (L4.g N4) (Ex.inBlock 0 (Ex.then (D2.g R) (retQ E [.tmp 4] R)))) fr h := by
  obtain ⟨a0, l0, c0, e0, g⟩ := gSlice_elim g
  obtain ⟨a1, l1, c1, e1, g⟩ := gSlice_elim g
  obtain ⟨x5, e5, g⟩ := gInt_elim g
  exact den_enter [(0, .slice a0 l0 c0), (1, .slice a1 l1 c1), (5, .int .i64 x5)] ⟨e0, e1, e5, trivial⟩ (by kernel_rfl) g
def L4.t (R : Rt) : Nat → Option Addr → Nat → Nat → Option Addr → Nat → Nat → Int → Hp → Prop
  | 0 => fun _ _ _ _ _ _ _ _ => False
  | n + 1 => fun a0 l0 c0 a1 l1 c1 x5 h => D5.t R (L4.t R n) a0 l0 c0 a1 l1 c1 x5 h
theorem L4.ok (R : Rt) (fr : Fr) (h : Hp) (g : L4.g (fun a0 l0 c0 a1 l1 c1 x5 h => ∃ n, L4.t R n a0 l0 c0 a1 l1 c1 x5 h) fr h) : den prog E (cAt C [true, true, false, true, false]) (Ex.inBlock 0 (Ex.then (D2.g R) (retQ E [.tmp 4] R))) fr h := by
  obtain ⟨a0, l0, c0, e0, g⟩ := gSlice_elim g
  obtain ⟨a1, l1, c1, e1, g⟩ := gSlice_elim g
  obtain ⟨x5, e5, g⟩ := gInt_elim g
  obtain ⟨n, g⟩ := g
  refine loop_ok (fun n => L4.g (L4.t R n)) (b := (cAt C [true, true, false, true, false, false])) (by kernel_rfl) (fun fr h g => ?_) (fun n => D5.ok R (L4.t R n)) n fr h (gSlice_intro e0 (gSlice_intro e1 (gInt_intro e5 (g))))
  obtain ⟨a0, l0, c0, e0, g⟩ := gSlice_elim g
  obtain ⟨a1, l1, c1, e1, g⟩ := gSlice_elim g
  obtain ⟨x5, e5, g⟩ := gInt_elim g
  exact g
theorem B6.ok (R : Rt) (fr : Fr) (h : Hp) (g : L4.g (fun a0 l0 c0 a1 l1 c1 x5 h => ∃ n, L4.t R n a0 l0 c0 a1 l1 c1 x5 h) fr h) : den prog E (cAt C [true, true, false, true]) (Ex.then (D2.g R) (retQ E [.tmp 4] R)) fr h :=
  den_block (by kernel_rfl) (L4.ok R fr h g)
def D3.t (R : Rt) (a0 : Option Addr) (l0 : Nat) (c0 : Nat) (a1 : Option Addr) (l1 : Nat) (c1 : Nat) (h : Hp) : Prop :=
  (∃ n, L4.t R n a0 l0 c0 a1 l1 c1 0 h)
def D3.g (R : Rt) (fr : Fr) (h : Hp) : Prop := gSlice (fr 0) fun a0 l0 c0 => gSlice (fr 1) fun a1 l1 c1 => D3.t R a0 l0 c0 a1 l1 c1 h
theorem D3.ok (R : Rt) (fr : Fr) (h : Hp) (g : D3.g R fr h) : den prog E (cAt C [true, true, false]) (Ex.then (D2.g R) (retQ E [.tmp 4] R)) fr h := by
  obtain ⟨a0, l0, c0, e0, g⟩ := gSlice_elim g
  obtain ⟨a1, l1, c1, e1, g⟩ := gSlice_elim g
  exact den_cut 1 (r := (cAt C [true, true, false, true])) (by kernel_rfl) (B6.ok R) (den_enter [(0, .slice a0 l0 c0), (1, .slice a1 l1 c1)] ⟨e0, e1, trivial⟩ (by kernel_rfl) g)
theorem W7.ok (R : Rt) (fr : Fr) (h : Hp) (g : D3.g R fr h) : den prog E (cAt C [true, true]) (retQ E [.tmp 4] R) fr h :=
  den_then (by kernel_rfl) (D2.ok R) (D3.ok R fr h g)
def D1.t (R : Rt) (a0 : Option Addr) (l0 : Nat) (c0 : Nat) (a1 : Option Addr) (l1 : Nat) (c1 : Nat) (h : Hp) : Prop :=
  cond ((((l0 : Nat) : Int)) != (((l1 : Nat) : Int))) (R (.bool false) h) (D3.t R a0 l0 c0 a1 l1 c1 h)
def D1.g (R : Rt) (fr : Fr) (h : Hp) : Prop := gSlice (fr 0) fun a0 l0 c0 => gSlice (fr 1) fun a1 l1 c1 => D1.t R a0 l0 c0 a1 l1 c1 h
theorem D1.ok (R : Rt) (fr : Fr) (h : Hp) (g : D1.g R fr h) : den prog E C (retQ E [.tmp 4] R) fr h := by
  obtain ⟨a0, l0, c0, e0, g⟩ := gSlice_elim g
  obtain ⟨a1, l1, c1, e1, g⟩ := gSlice_elim g
  exact den_cut 2 (r := (cAt C [true, true])) (by kernel_rfl) (W7.ok R) (den_enter [(0, .slice a0 l0 c0), (1, .slice a1 l1 c1)] ⟨e0, e1, trivial⟩ (by kernel_rfl) g)
def t (a0 : Option Addr) (l0 : Nat) (c0 : Nat) (a1 : Option Addr) (l1 : Nat) (c1 : Nat) (h : Hp) (R : Rt) : Prop := D1.t R a0 l0 c0 a1 l1 c1 h
theorem ok {a0 : Option Addr} {l0 : Nat} {c0 : Nat} {a1 : Option Addr} {l1 : Nat} {c1 : Nat} {h : Hp} {R : Rt} (g : t a0 l0 c0 a1 l1 c1 h R) : HC id #[.slice a0 l0 c0, .slice a1 l1 c1] h R :=
  calls_of_den' envOk (c := C) (rs := [.tmp 4]) Tryz.func43 (by kernel_rfl) (by kernel_rfl) (by kernel_rfl) (args := [.slice a0 l0 c0, .slice a1 l1 c1]) (by kernel_rfl) (D1.ok R _ h (gSlice_intro rfl (gSlice_intro rfl (g))))
end gnomonref01_Same

namespace gnomonref04_To
noncomputable def C : Code := bodyOf Tryz.f44
def D1.t (R : Rt) (b0_0 : Bool) (a0_1 : Option Addr) (l0_1 : Nat) (c0_1 : Nat) (h : Hp) : Prop :=
  boxK h 67 [.bool b0_0, .slice a0_1 l0_1 c0_1] fun q1 h2 =>
  boxK h2 28 T28.zs fun q3 h4 =>
  (q1.add 0).block < h4.size ∧ ldK h4 (q1.add 0) fun v5 =>
  gBool v5 fun b_6 =>
  cond b_6 ((q1.add 1).block < h4.size ∧ ldK h4 (q1.add 1) fun v7 =>
  gSlice v7 fun a_8 l_8 c_8 =>
  (q1.add 1).block < h4.size ∧ ldK h4 (q1.add 1) fun v9 =>
  gSlice v9 fun a_10 l_10 c_10 =>
  HC gnomonref01_To.id #[.slice a_10 l_10 c_10] h4 fun v11 h12 =>
  gSlice v11 fun a_13 l_13 c_13 =>
  (Pre h4.size h4 h12) ∧ stK h12 (q3.add 0) (.bool (decide ((((l_8 : Nat) : Int)) > 0))) fun h14 =>
  stK h14 (q3.add 1) (.slice a_13 l_13 c_13) fun h15 =>
  ldK h15 (q3.add 0) fun v16 =>
  gBool v16 fun b_17 =>
  ldK h15 (q3.add 1) fun v18 =>
  gSlice v18 fun a_19 l_19 c_19 =>
  R (.agg #[.bool b_17, .slice a_19 l_19 c_19]) h15) ((q1.add 1).block < h4.size ∧ ldK h4 (q1.add 1) fun v20 =>
  gSlice v20 fun a_21 l_21 c_21 =>
  HC gnomonref01_To.id #[.slice a_21 l_21 c_21] h4 fun v22 h23 =>
  gSlice v22 fun a_24 l_24 c_24 =>
  (Pre h4.size h4 h23) ∧ stK h23 (q3.add 0) (.bool false) fun h25 =>
  stK h25 (q3.add 1) (.slice a_24 l_24 c_24) fun h26 =>
  ldK h26 (q3.add 0) fun v27 =>
  gBool v27 fun b_28 =>
  ldK h26 (q3.add 1) fun v29 =>
  gSlice v29 fun a_30 l_30 c_30 =>
  R (.agg #[.bool b_28, .slice a_30 l_30 c_30]) h26)
def D1.g (R : Rt) (fr : Fr) (h : Hp) : Prop := gAgg (fr 0) fun z0 => uncons z0 fun w0_0 z0_0 => gBool w0_0 fun b0_0 => uncons z0_0 fun w0_1 z0_1 => gSlice w0_1 fun a0_1 l0_1 c0_1 => unnil z0_1 <| D1.t R b0_0 a0_1 l0_1 c0_1 h
theorem D1.ok (R : Rt) (fr : Fr) (h : Hp) (g : D1.g R fr h) : den prog E C (retQ E [.cell 2 28] R) fr h := by
  obtain ⟨z0, e0, g0_0⟩ := gAgg_elim' g
  obtain ⟨w0_0, z0_0, rfl, g0_0x⟩ := uncons_elim g0_0
  obtain ⟨b0_0, rfl, g0_1⟩ := gBool_elim g0_0x
  obtain ⟨w0_1, z0_1, rfl, g0_1x⟩ := uncons_elim g0_1
  obtain ⟨a0_1, l0_1, c0_1, rfl, g0_2⟩ := gSlice_elim g0_1x
  obtain ⟨rfl, g⟩ := unnil_elim g0_2
  exact den_enter [(0, .agg #[.bool b0_0, .slice a0_1 l0_1 c0_1])] ⟨e0, trivial⟩ (by kernel_rfl) g
def t (b0_0 : Bool) (a0_1 : Option Addr) (l0_1 : Nat) (c0_1 : Nat) (h : Hp) (R : Rt) : Prop := D1.t R b0_0 a0_1 l0_1 c0_1 h
theorem ok {b0_0 : Bool} {a0_1 : Option Addr} {l0_1 : Nat} {c0_1 : Nat} {h : Hp} {R : Rt} (g : t b0_0 a0_1 l0_1 c0_1 h R) : HC id #[.agg #[.bool b0_0, .slice a0_1 l0_1 c0_1]] h R :=
  calls_of_den' envOk (c := C) (rs := [.cell 2 28]) Tryz.func44 (by kernel_rfl) (by kernel_rfl) (by kernel_rfl) (args := [.agg #[.bool b0_0, .slice a0_1 l0_1 c0_1]]) (by kernel_rfl) (D1.ok R _ h (gAgg_intro rfl (uncons_intro (gBool_intro rfl (uncons_intro (gSlice_intro rfl (unnil_intro (g))))))))
end gnomonref04_To

namespace gnomonref04_Of
noncomputable def C : Code := bodyOf Tryz.f45
def D1.t (R : Rt) (x0 : Int) (h : Hp) : Prop :=
  boxK h 67 T67.zs fun q1 h2 =>
  cond (decide (x0 < 0)) (letK (IntKind.i64.wrap (x0 + 1)) fun n3 =>
  letK (IntKind.i64.wrap (0 - n3)) fun n4 =>
  letK (IntKind.u64.wrap n4) fun n5 =>
  HC gnomonref01_Word.id #[.int .u64 n5] h2 fun v6 h7 =>
  gSlice v6 fun a_8 l_8 c_8 =>
  HC gnomonref01_Word.id #[.int .u64 1] h7 fun v9 h10 =>
  gSlice v9 fun a_11 l_11 c_11 =>
  HC gnomonref01_Add.id #[.slice a_8 l_8 c_8, .slice a_11 l_11 c_11] h10 fun v12 h13 =>
  gSlice v12 fun a_14 l_14 c_14 =>
  HC gnomonref04_Mk.id #[.bool true, .slice a_14 l_14 c_14] h13 fun v15 h16 =>
  gAgg v15 fun y17 =>
  uncons y17 fun v18 y18 =>
  gBool v18 fun b_19 =>
  uncons y18 fun v20 y20 =>
  gSlice v20 fun a_21 l_21 c_21 =>
  unnil y20 <| stK h16 (q1.add 0) (.bool b_19) fun h22 =>
  stK h22 (q1.add 1) (.slice a_21 l_21 c_21) fun h23 =>
  ldK h23 (q1.add 0) fun v24 =>
  gBool v24 fun b_25 =>
  ldK h23 (q1.add 1) fun v26 =>
  gSlice v26 fun a_27 l_27 c_27 =>
  R (.agg #[.bool b_25, .slice a_27 l_27 c_27]) h23) (letK (IntKind.u64.wrap x0) fun n28 =>
  HC gnomonref01_Word.id #[.int .u64 n28] h2 fun v29 h30 =>
  gSlice v29 fun a_31 l_31 c_31 =>
  HC gnomonref04_Mk.id #[.bool false, .slice a_31 l_31 c_31] h30 fun v32 h33 =>
  gAgg v32 fun y34 =>
  uncons y34 fun v35 y35 =>
  gBool v35 fun b_36 =>
  uncons y35 fun v37 y37 =>
  gSlice v37 fun a_38 l_38 c_38 =>
  unnil y37 <| stK h33 (q1.add 0) (.bool b_36) fun h39 =>
  stK h39 (q1.add 1) (.slice a_38 l_38 c_38) fun h40 =>
  ldK h40 (q1.add 0) fun v41 =>
  gBool v41 fun b_42 =>
  ldK h40 (q1.add 1) fun v43 =>
  gSlice v43 fun a_44 l_44 c_44 =>
  R (.agg #[.bool b_42, .slice a_44 l_44 c_44]) h40)
def D1.g (R : Rt) (fr : Fr) (h : Hp) : Prop := gInt .i64 (fr 0) fun x0 => D1.t R x0 h
theorem D1.ok (R : Rt) (fr : Fr) (h : Hp) (g : D1.g R fr h) : den prog E C (retQ E [.cell 2 67] R) fr h := by
  obtain ⟨x0, e0, g⟩ := gInt_elim g
  exact den_enter [(0, .int .i64 x0)] ⟨e0, trivial⟩ (by kernel_rfl) g
def t (x0 : Int) (h : Hp) (R : Rt) : Prop := D1.t R x0 h
theorem ok {x0 : Int} {h : Hp} {R : Rt} (g : t x0 h R) : HC id #[.int .i64 x0] h R :=
  calls_of_den' envOk (c := C) (rs := [.cell 2 67]) Tryz.func45 (by kernel_rfl) (by kernel_rfl) (by kernel_rfl) (args := [.int .i64 x0]) (by kernel_rfl) (D1.ok R _ h (gInt_intro rfl (g)))
end gnomonref04_Of

namespace nat_told
noncomputable def C : Code := bodyOf Tryz.f47
def D1.t (R : Rt) (a0 : Option Addr) (l0 : Nat) (c0 : Nat) (h : Hp) : Prop :=
  HC nat_trim.id #[.slice a0 l0 c0] h fun v1 h2 =>
  gSlice v1 fun a_3 l_3 c_3 =>
  cond (decide ((((l_3 : Nat) : Int)) > 8192)) (R (.tuple #[.slice none 0 0, .int .i64 5]) h2) (R (.tuple #[.slice a_3 l_3 c_3, .int .i64 0]) h2)
def D1.g (R : Rt) (fr : Fr) (h : Hp) : Prop := gSlice (fr 0) fun a0 l0 c0 => D1.t R a0 l0 c0 h
theorem D1.ok (R : Rt) (fr : Fr) (h : Hp) (g : D1.g R fr h) : den prog E C (retQ E [.tmp 2, .tmp 3] R) fr h := by
  obtain ⟨a0, l0, c0, e0, g⟩ := gSlice_elim g
  exact den_enter [(0, .slice a0 l0 c0)] ⟨e0, trivial⟩ (by kernel_rfl) g
def t (a0 : Option Addr) (l0 : Nat) (c0 : Nat) (h : Hp) (R : Rt) : Prop := D1.t R a0 l0 c0 h
theorem ok {a0 : Option Addr} {l0 : Nat} {c0 : Nat} {h : Hp} {R : Rt} (g : t a0 l0 c0 h R) : HC id #[.slice a0 l0 c0] h R :=
  calls_of_den' envOk (c := C) (rs := [.tmp 2, .tmp 3]) Tryz.func47 (by kernel_rfl) (by kernel_rfl) (by kernel_rfl) (args := [.slice a0 l0 c0]) (by kernel_rfl) (D1.ok R _ h (gSlice_intro rfl (g)))
end nat_told

namespace nat_trim
noncomputable def C : Code := bodyOf Tryz.f48
def D2.t (R : Rt) (a0 : Option Addr) (l0 : Nat) (c0 : Nat) (x3 : Int) (h : Hp) : Prop :=
  slK 1 a0 l0 c0 none (some (.int .i64 x3)) none fun a_1 l_1 c_1 => R (.slice a_1 l_1 c_1) h
def D2.g (R : Rt) (fr : Fr) (h : Hp) : Prop := gSlice (fr 0) fun a0 l0 c0 => gInt .i64 (fr 3) fun x3 => D2.t R a0 l0 c0 x3 h
theorem D2.ok (R : Rt) (fr : Fr) (h : Hp) (g : D2.g R fr h) : den prog E (cAt C [true, true, true]) (retQ E [.tmp 2] R) fr h := by
  obtain ⟨a0, l0, c0, e0, g⟩ := gSlice_elim g
  obtain ⟨x3, e3, g⟩ := gInt_elim g
  exact den_enter [(0, .slice a0 l0 c0), (3, .int .i64 x3)] ⟨e0, e3, trivial⟩ (by kernel_rfl) g
def L3.g (N : Option Addr → Nat → Nat → Int → Hp → Prop) (fr : Fr) (h : Hp) : Prop := gSlice (fr 0) fun a0 l0 c0 => gInt .i64 (fr 3) fun x3 => N a0 l0 c0 x3 h
def D4.t (R : Rt) (N3 : Option Addr → Nat → Nat → Int → Hp → Prop) (a0 : Option Addr) (l0 : Nat) (c0 : Nat) (x3 : Int) (h : Hp) : Prop :=
  cond (decide (x3 > 0)) (letK (IntKind.i64.wrap (x3 - 1)) fun n2 =>
  idxK a0 l0 n2 1 fun q3 =>
  ldK h q3 fun v4 =>
  gInt .u64 v4 fun x_5 =>
  cond (x_5 == 0) (letK (IntKind.i64.wrap (x3 - 1)) fun n6 =>
  N3 a0 l0 c0 n6 h) (D2.t R a0 l0 c0 x3 h)) (D2.t R a0 l0 c0 x3 h)
def D4.g (R : Rt) (N3 : Option Addr → Nat → Nat → Int → Hp → Prop) (fr : Fr) (h : Hp) : Prop := gSlice (fr 0) fun a0 l0 c0 => gInt .i64 (fr 3) fun x3 => D4.t R N3 a0 l0 c0 x3 h
theorem D4.ok (R : Rt) (N3 : Option Addr → Nat → Nat → Int → Hp → Prop) (fr : Fr) (h : Hp) (g : D4.g R N3 fr h) : den prog E (cAt C [true, true, false, false, false]) (Ex.then (L3.g N3) (Ex.inBlock 0 (Ex.then (D2.g R) (retQ E [.tmp 2] R)))) fr h := by
  obtain ⟨a0, l0, c0, e0, g⟩ := gSlice_elim g
  obtain ⟨x3, e3, g⟩ := gInt_elim g
  exact den_enter [(0, .slice a0 l0 c0), (3, .int .i64 x3)] ⟨e0, e3, trivial⟩ (by kernel_rfl) g
def L3.t (R : Rt) : Nat → Option Addr → Nat → Nat → Int → Hp → Prop
  | 0 => fun _ _ _ _ _ => False
  | n + 1 => fun a0 l0 c0 x3 h => D4.t R (L3.t R n) a0 l0 c0 x3 h
theorem L3.ok (R : Rt) (fr : Fr) (h : Hp) (g : L3.g (fun a0 l0 c0 x3 h => ∃ n, L3.t R n a0 l0 c0 x3 h) fr h) : den prog E (cAt C [true, true, false, false]) (Ex.inBlock 0 (Ex.then (D2.g R) (retQ E [.tmp 2] R))) fr h := by
  obtain ⟨a0, l0, c0, e0, g⟩ := gSlice_elim g
  obtain ⟨x3, e3, g⟩ := gInt_elim g
  obtain ⟨n, g⟩ := g
  refine loop_ok (fun n => L3.g (L3.t R n)) (b := (cAt C [true, true, false, false, false])) (by kernel_rfl) (fun fr h g => ?_) (fun n => D4.ok R (L3.t R n)) n fr h (gSlice_intro e0 (gInt_intro e3 (g)))
  obtain ⟨a0, l0, c0, e0, g⟩ := gSlice_elim g
  obtain ⟨x3, e3, g⟩ := gInt_elim g
  exact g
theorem B5.ok (R : Rt) (fr : Fr) (h : Hp) (g : L3.g (fun a0 l0 c0 x3 h => ∃ n, L3.t R n a0 l0 c0 x3 h) fr h) : den prog E (cAt C [true, true, false]) (Ex.then (D2.g R) (retQ E [.tmp 2] R)) fr h :=
  den_block (by kernel_rfl) (L3.ok R fr h g)
theorem W6.ok (R : Rt) (fr : Fr) (h : Hp) (g : L3.g (fun a0 l0 c0 x3 h => ∃ n, L3.t R n a0 l0 c0 x3 h) fr h) : den prog E (cAt C [true, true]) (retQ E [.tmp 2] R) fr h :=
  den_then (by kernel_rfl) (D2.ok R) (B5.ok R fr h g)
def D1.t (R : Rt) (a0 : Option Addr) (l0 : Nat) (c0 : Nat) (h : Hp) : Prop :=
  (∃ n, L3.t R n a0 l0 c0 (((l0 : Nat) : Int)) h)
def D1.g (R : Rt) (fr : Fr) (h : Hp) : Prop := gSlice (fr 0) fun a0 l0 c0 => D1.t R a0 l0 c0 h
theorem D1.ok (R : Rt) (fr : Fr) (h : Hp) (g : D1.g R fr h) : den prog E C (retQ E [.tmp 2] R) fr h := by
  obtain ⟨a0, l0, c0, e0, g⟩ := gSlice_elim g
  exact den_cut 2 (r := (cAt C [true, true])) (by kernel_rfl) (W6.ok R) (den_enter [(0, .slice a0 l0 c0)] ⟨e0, trivial⟩ (by kernel_rfl) g)
def t (a0 : Option Addr) (l0 : Nat) (c0 : Nat) (h : Hp) (R : Rt) : Prop := D1.t R a0 l0 c0 h
theorem ok {a0 : Option Addr} {l0 : Nat} {c0 : Nat} {h : Hp} {R : Rt} (g : t a0 l0 c0 h R) : HC id #[.slice a0 l0 c0] h R :=
  calls_of_den' envOk (c := C) (rs := [.tmp 2]) Tryz.func48 (by kernel_rfl) (by kernel_rfl) (by kernel_rfl) (args := [.slice a0 l0 c0]) (by kernel_rfl) (D1.ok R _ h (gSlice_intro rfl (g)))
end nat_trim



namespace bits_Len64
noncomputable def C : Code := bodyOf Tryz.f52
def D4.t (R : Rt) (x0 : Int) (x2 : Int) (h : Hp) : Prop :=
  letK (IntKind.u8.wrap x0) fun n6 =>
  idxS (⟨#[0, 1, 2, 2, 3, 3, 3, 3, 4, 4, 4, 4, 4, 4, 4, 4, 5, 5, 5, 5, 5, 5, 5, 5, 5, 5, 5, 5, 5, 5, 5, 5, 6, 6, 6, 6, 6, 6, 6, 6, 6, 6, 6, 6, 6, 6, 6, 6, 6, 6, 6, 6, 6, 6, 6, 6, 6, 6, 6, 6, 6, 6, 6, 6, 7, 7, 7, 7, 7, 7, 7, 7, 7, 7, 7, 7, 7, 7, 7, 7, 7, 7, 7, 7, 7, 7, 7, 7, 7, 7, 7, 7, 7, 7, 7, 7, 7, 7, 7, 7, 7, 7, 7, 7, 7, 7, 7, 7, 7, 7, 7, 7, 7, 7, 7, 7, 7, 7, 7, 7, 7, 7, 7, 7, 7, 7, 7, 7, 8, 8, 8, 8, 8, 8, 8, 8, 8, 8, 8, 8, 8, 8, 8, 8, 8, 8, 8, 8, 8, 8, 8, 8, 8, 8, 8, 8, 8, 8, 8, 8, 8, 8, 8, 8, 8, 8, 8, 8, 8, 8, 8, 8, 8, 8, 8, 8, 8, 8, 8, 8, 8, 8, 8, 8, 8, 8, 8, 8, 8, 8, 8, 8, 8, 8, 8, 8, 8, 8, 8, 8, 8, 8, 8, 8, 8, 8, 8, 8, 8, 8, 8, 8, 8, 8, 8, 8, 8, 8, 8, 8, 8, 8, 8, 8, 8, 8, 8, 8, 8, 8, 8, 8, 8, 8, 8, 8, 8, 8, 8, 8, 8, 8, 8, 8, 8, 8, 8, 8, 8, 8, 8, 8, 8, 8, 8, 8]⟩ : ByteArray) n6 fun n7 =>
  letK (IntKind.i64.wrap n7) fun n8 =>
  letK (IntKind.i64.wrap (x2 + n8)) fun n9 =>
  R (.int .i64 n9) h
def D4.g (R : Rt) (fr : Fr) (h : Hp) : Prop := gInt .u64 (fr 0) fun x0 => gInt .i64 (fr 2) fun x2 => D4.t R x0 x2 h
theorem D4.ok (R : Rt) (fr : Fr) (h : Hp) (g : D4.g R fr h) : den prog E (cAt C [true, true, true, true]) (retQ E [.tmp 2] R) fr h := by
  obtain ⟨x0, e0, g⟩ := gInt_elim g
  obtain ⟨x2, e2, g⟩ := gInt_elim g
  exact den_enter [(0, .int .u64 x0), (2, .int .i64 x2)] ⟨e0, e2, trivial⟩ (by kernel_rfl) g
def D3.t (R : Rt) (x0 : Int) (x2 : Int) (h : Hp) : Prop :=
  cond (decide (x0 ≥ 256)) (0 ≤ (8 : Int) ∧ letK (shrI .u64 x0 8) fun n4 =>
  letK (IntKind.i64.wrap (x2 + 8)) fun n5 =>
  D4.t R n4 n5 h) (D4.t R x0 x2 h)
def D3.g (R : Rt) (fr : Fr) (h : Hp) : Prop := gInt .u64 (fr 0) fun x0 => gInt .i64 (fr 2) fun x2 => D3.t R x0 x2 h
theorem D3.ok (R : Rt) (fr : Fr) (h : Hp) (g : D3.g R fr h) : den prog E (cAt C [true, true, true]) (retQ E [.tmp 2] R) fr h := by
  obtain ⟨x0, e0, g⟩ := gInt_elim g
  obtain ⟨x2, e2, g⟩ := gInt_elim g
  exact den_cut 1 (r := (cAt C [true, true, true, true])) (by kernel_rfl) (D4.ok R) (den_enter [(0, .int .u64 x0), (2, .int .i64 x2)] ⟨e0, e2, trivial⟩ (by kernel_rfl) g)
def D2.t (R : Rt) (x0 : Int) (x2 : Int) (h : Hp) : Prop :=
  cond (decide (x0 ≥ 65536)) (0 ≤ (16 : Int) ∧ letK (shrI .u64 x0 16) fun n2 =>
  letK (IntKind.i64.wrap (x2 + 16)) fun n3 =>
  D3.t R n2 n3 h) (D3.t R x0 x2 h)
def D2.g (R : Rt) (fr : Fr) (h : Hp) : Prop := gInt .u64 (fr 0) fun x0 => gInt .i64 (fr 2) fun x2 => D2.t R x0 x2 h
theorem D2.ok (R : Rt) (fr : Fr) (h : Hp) (g : D2.g R fr h) : den prog E (cAt C [true, true]) (retQ E [.tmp 2] R) fr h := by
  obtain ⟨x0, e0, g⟩ := gInt_elim g
  obtain ⟨x2, e2, g⟩ := gInt_elim g
  exact den_cut 1 (r := (cAt C [true, true, true])) (by kernel_rfl) (D3.ok R) (den_enter [(0, .int .u64 x0), (2, .int .i64 x2)] ⟨e0, e2, trivial⟩ (by kernel_rfl) g)
def D1.t (R : Rt) (x0 : Int) (h : Hp) : Prop :=
  cond (decide (x0 ≥ 4294967296)) (0 ≤ (32 : Int) ∧ letK (shrI .u64 x0 32) fun n1 =>
  D2.t R n1 32 h) (D2.t R x0 0 h)
def D1.g (R : Rt) (fr : Fr) (h : Hp) : Prop := gInt .u64 (fr 0) fun x0 => D1.t R x0 h
theorem D1.ok (R : Rt) (fr : Fr) (h : Hp) (g : D1.g R fr h) : den prog E C (retQ E [.tmp 2] R) fr h := by
  obtain ⟨x0, e0, g⟩ := gInt_elim g
  exact den_cut 2 (r := (cAt C [true, true])) (by kernel_rfl) (D2.ok R) (den_enter [(0, .int .u64 x0)] ⟨e0, trivial⟩ (by kernel_rfl) g)
def t (x0 : Int) (h : Hp) (R : Rt) : Prop := D1.t R x0 h
theorem ok {x0 : Int} {h : Hp} {R : Rt} (g : t x0 h R) : HC id #[.int .u64 x0] h R :=
  calls_of_den' envOk (c := C) (rs := [.tmp 2]) Tryz.func52 (by kernel_rfl) (by kernel_rfl) (by kernel_rfl) (args := [.int .u64 x0]) (by kernel_rfl) (D1.ok R _ h (gInt_intro rfl (g)))
end bits_Len64

namespace gnomonref01_Twin
noncomputable def C : Code := bodyOf Tryz.f53
def D1.t (R : Rt) (a0 : Option Addr) (l0 : Nat) (c0 : Nat) (h : Hp) : Prop :=
  mkK h 48 T48 (((l0 : Nat) : Int)) (((l0 : Nat) : Int)) fun q1 h2 =>
  cpK h2 1 (some q1) ((((l0 : Nat) : Int)).toNat) (.slice a0 l0 c0) fun n3 h3 =>
  R (.slice (some q1) ((((l0 : Nat) : Int)).toNat) ((((l0 : Nat) : Int)).toNat)) h3
def D1.g (R : Rt) (fr : Fr) (h : Hp) : Prop := gSlice (fr 0) fun a0 l0 c0 => D1.t R a0 l0 c0 h
theorem D1.ok (R : Rt) (fr : Fr) (h : Hp) (g : D1.g R fr h) : den prog E C (retQ E [.tmp 2] R) fr h := by
  obtain ⟨a0, l0, c0, e0, g⟩ := gSlice_elim g
  exact den_enter [(0, .slice a0 l0 c0)] ⟨e0, trivial⟩ (by kernel_rfl) g
def t (a0 : Option Addr) (l0 : Nat) (c0 : Nat) (h : Hp) (R : Rt) : Prop := D1.t R a0 l0 c0 h
theorem ok {a0 : Option Addr} {l0 : Nat} {c0 : Nat} {h : Hp} {R : Rt} (g : t a0 l0 c0 h R) : HC id #[.slice a0 l0 c0] h R :=
  calls_of_den' envOk (c := C) (rs := [.tmp 2]) Tryz.func53 (by kernel_rfl) (by kernel_rfl) (by kernel_rfl) (args := [.slice a0 l0 c0]) (by kernel_rfl) (D1.ok R _ h (gSlice_intro rfl (g)))
end gnomonref01_Twin

namespace gnomonref01_DocForm
noncomputable def C : Code := bodyOf Tryz.f54
def D1.t (R : Rt) (a0 : Option Addr) (l0 : Nat) (c0 : Nat) (h : Hp) : Prop :=
  cond (decide ((((l0 : Nat) : Int)) ≤ 8192)) (cond ((((l0 : Nat) : Int)) == 0) (R (.bool true) h) (letK (IntKind.i64.wrap ((((l0 : Nat) : Int)) - 1)) fun n1 =>
  idxK a0 l0 n1 1 fun q2 =>
  ldK h q2 fun v3 =>
  gInt .u64 v3 fun x_4 =>
  R (.bool (x_4 != 0)) h)) (R (.bool false) h)
def D1.g (R : Rt) (fr : Fr) (h : Hp) : Prop := gSlice (fr 0) fun a0 l0 c0 => D1.t R a0 l0 c0 h
theorem D1.ok (R : Rt) (fr : Fr) (h : Hp) (g : D1.g R fr h) : den prog E C (retQ E [.tmp 2] R) fr h := by
  obtain ⟨a0, l0, c0, e0, g⟩ := gSlice_elim g
  exact den_enter [(0, .slice a0 l0 c0)] ⟨e0, trivial⟩ (by kernel_rfl) g
def t (a0 : Option Addr) (l0 : Nat) (c0 : Nat) (h : Hp) (R : Rt) : Prop := D1.t R a0 l0 c0 h
theorem ok {a0 : Option Addr} {l0 : Nat} {c0 : Nat} {h : Hp} {R : Rt} (g : t a0 l0 c0 h R) : HC id #[.slice a0 l0 c0] h R :=
  calls_of_den' envOk (c := C) (rs := [.tmp 2]) Tryz.func54 (by kernel_rfl) (by kernel_rfl) (by kernel_rfl) (args := [.slice a0 l0 c0]) (by kernel_rfl) (D1.ok R _ h (gSlice_intro rfl (g)))
end gnomonref01_DocForm

namespace gnomonref04_Sign
noncomputable def C : Code := bodyOf Tryz.f55
def D1.t (R : Rt) (b0_0 : Bool) (a0_1 : Option Addr) (l0_1 : Nat) (c0_1 : Nat) (h : Hp) : Prop :=
  boxK h 67 [.bool b0_0, .slice a0_1 l0_1 c0_1] fun q1 h2 =>
  ldK h2 (q1.add 1) fun v3 =>
  gSlice v3 fun a_4 l_4 c_4 =>
  cond ((((l_4 : Nat) : Int)) == 0) (R (.int .i64 0) h2) (ldK h2 (q1.add 0) fun v5 =>
  gBool v5 fun b_6 =>
  cond b_6 (R (.int .i64 (-1)) h2) (R (.int .i64 1) h2))
def D1.g (R : Rt) (fr : Fr) (h : Hp) : Prop := gAgg (fr 0) fun z0 => uncons z0 fun w0_0 z0_0 => gBool w0_0 fun b0_0 => uncons z0_0 fun w0_1 z0_1 => gSlice w0_1 fun a0_1 l0_1 c0_1 => unnil z0_1 <| D1.t R b0_0 a0_1 l0_1 c0_1 h
theorem D1.ok (R : Rt) (fr : Fr) (h : Hp) (g : D1.g R fr h) : den prog E C (retQ E [.tmp 2] R) fr h := by
  obtain ⟨z0, e0, g0_0⟩ := gAgg_elim' g
  obtain ⟨w0_0, z0_0, rfl, g0_0x⟩ := uncons_elim g0_0
  obtain ⟨b0_0, rfl, g0_1⟩ := gBool_elim g0_0x
  obtain ⟨w0_1, z0_1, rfl, g0_1x⟩ := uncons_elim g0_1
  obtain ⟨a0_1, l0_1, c0_1, rfl, g0_2⟩ := gSlice_elim g0_1x
  obtain ⟨rfl, g⟩ := unnil_elim g0_2
  exact den_enter [(0, .agg #[.bool b0_0, .slice a0_1 l0_1 c0_1])] ⟨e0, trivial⟩ (by kernel_rfl) g
def t (b0_0 : Bool) (a0_1 : Option Addr) (l0_1 : Nat) (c0_1 : Nat) (h : Hp) (R : Rt) : Prop := D1.t R b0_0 a0_1 l0_1 c0_1 h
theorem ok {b0_0 : Bool} {a0_1 : Option Addr} {l0_1 : Nat} {c0_1 : Nat} {h : Hp} {R : Rt} (g : t b0_0 a0_1 l0_1 c0_1 h R) : HC id #[.agg #[.bool b0_0, .slice a0_1 l0_1 c0_1]] h R :=
  calls_of_den' envOk (c := C) (rs := [.tmp 2]) Tryz.func55 (by kernel_rfl) (by kernel_rfl) (by kernel_rfl) (args := [.agg #[.bool b0_0, .slice a0_1 l0_1 c0_1]]) (by kernel_rfl) (D1.ok R _ h (gAgg_intro rfl (uncons_intro (gBool_intro rfl (uncons_intro (gSlice_intro rfl (unnil_intro (g))))))))
end gnomonref04_Sign

namespace gnomonref04_From
noncomputable def C : Code := bodyOf Tryz.f56
def D1.t (R : Rt) (b0_0 : Bool) (a0_1 : Option Addr) (l0_1 : Nat) (c0_1 : Nat) (h : Hp) : Prop :=
  boxK h 28 [.bool b0_0, .slice a0_1 l0_1 c0_1] fun q1 h2 =>
  boxK h2 67 T67.zs fun q3 h4 =>
  (q1.add 0).block < h4.size ∧ ldK h4 (q1.add 0) fun v5 =>
  gBool v5 fun b_6 =>
  (q1.add 1).block < h4.size ∧ ldK h4 (q1.add 1) fun v7 =>
  gSlice v7 fun a_8 l_8 c_8 =>
  HC gnomonref01_From.id #[.slice a_8 l_8 c_8] h4 fun v9 h10 =>
  gSlice v9 fun a_11 l_11 c_11 =>
  (Pre h4.size h4 h10) ∧ HC gnomonref04_Mk.id #[.bool b_6, .slice a_11 l_11 c_11] h10 fun v12 h13 =>
  gAgg v12 fun y14 =>
  uncons y14 fun v15 y15 =>
  gBool v15 fun b_16 =>
  uncons y15 fun v17 y17 =>
  gSlice v17 fun a_18 l_18 c_18 =>
  unnil y17 <| (Pre h4.size h10 h13) ∧ stK h13 (q3.add 0) (.bool b_16) fun h19 =>
  stK h19 (q3.add 1) (.slice a_18 l_18 c_18) fun h20 =>
  ldK h20 (q3.add 0) fun v21 =>
  gBool v21 fun b_22 =>
  ldK h20 (q3.add 1) fun v23 =>
  gSlice v23 fun a_24 l_24 c_24 =>
  R (.agg #[.bool b_22, .slice a_24 l_24 c_24]) h20
def D1.g (R : Rt) (fr : Fr) (h : Hp) : Prop := gAgg (fr 0) fun z0 => uncons z0 fun w0_0 z0_0 => gBool w0_0 fun b0_0 => uncons z0_0 fun w0_1 z0_1 => gSlice w0_1 fun a0_1 l0_1 c0_1 => unnil z0_1 <| D1.t R b0_0 a0_1 l0_1 c0_1 h
theorem D1.ok (R : Rt) (fr : Fr) (h : Hp) (g : D1.g R fr h) : den prog E C (retQ E [.cell 2 67] R) fr h := by
  obtain ⟨z0, e0, g0_0⟩ := gAgg_elim' g
  obtain ⟨w0_0, z0_0, rfl, g0_0x⟩ := uncons_elim g0_0
  obtain ⟨b0_0, rfl, g0_1⟩ := gBool_elim g0_0x
  obtain ⟨w0_1, z0_1, rfl, g0_1x⟩ := uncons_elim g0_1
  obtain ⟨a0_1, l0_1, c0_1, rfl, g0_2⟩ := gSlice_elim g0_1x
  obtain ⟨rfl, g⟩ := unnil_elim g0_2
  exact den_enter [(0, .agg #[.bool b0_0, .slice a0_1 l0_1 c0_1])] ⟨e0, trivial⟩ (by kernel_rfl) g
def t (b0_0 : Bool) (a0_1 : Option Addr) (l0_1 : Nat) (c0_1 : Nat) (h : Hp) (R : Rt) : Prop := D1.t R b0_0 a0_1 l0_1 c0_1 h
theorem ok {b0_0 : Bool} {a0_1 : Option Addr} {l0_1 : Nat} {c0_1 : Nat} {h : Hp} {R : Rt} (g : t b0_0 a0_1 l0_1 c0_1 h R) : HC id #[.agg #[.bool b0_0, .slice a0_1 l0_1 c0_1]] h R :=
  calls_of_den' envOk (c := C) (rs := [.cell 2 67]) Tryz.func56 (by kernel_rfl) (by kernel_rfl) (by kernel_rfl) (args := [.agg #[.bool b0_0, .slice a0_1 l0_1 c0_1]]) (by kernel_rfl) (D1.ok R _ h (gAgg_intro rfl (uncons_intro (gBool_intro rfl (uncons_intro (gSlice_intro rfl (unnil_intro (g))))))))
end gnomonref04_From


namespace gnomonref04_Cmp
noncomputable def C : Code := bodyOf Tryz.f58
def D1.t (R : Rt) (b0_0 : Bool) (a0_1 : Option Addr) (l0_1 : Nat) (c0_1 : Nat) (b1_0 : Bool) (a1_1 : Option Addr) (l1_1 : Nat) (c1_1 : Nat) (h : Hp) : Prop :=
  boxK h 67 [.bool b0_0, .slice a0_1 l0_1 c0_1] fun q1 h2 =>
  boxK h2 67 [.bool b1_0, .slice a1_1 l1_1 c1_1] fun q3 h4 =>
  ldK h4 (q1.add 0) fun v5 =>
  gBool v5 fun b_6 =>
  ldK h4 (q1.add 1) fun v7 =>
  gSlice v7 fun a_8 l_8 c_8 =>
  ldK h4 (q3.add 0) fun v9 =>
  gBool v9 fun b_10 =>
  ldK h4 (q3.add 1) fun v11 =>
  gSlice v11 fun a_12 l_12 c_12 =>
  HC gnomonref04_Sub.id #[.agg #[.bool b_6, .slice a_8 l_8 c_8], .agg #[.bool b_10, .slice a_12 l_12 c_12]] h4 fun v13 h14 =>
  gAgg v13 fun y15 =>
  uncons y15 fun v16 y16 =>
  gBool v16 fun b_17 =>
  uncons y16 fun v18 y18 =>
  gSlice v18 fun a_19 l_19 c_19 =>
  unnil y18 <| HC gnomonref04_Sign.id #[.agg #[.bool b_17, .slice a_19 l_19 c_19]] h14 fun v20 h21 =>
  gInt .i64 v20 fun x_22 =>
  R (.int .i64 x_22) h21
def D1.g (R : Rt) (fr : Fr) (h : Hp) : Prop := gAgg (fr 0) fun z0 => uncons z0 fun w0_0 z0_0 => gBool w0_0 fun b0_0 => uncons z0_0 fun w0_1 z0_1 => gSlice w0_1 fun a0_1 l0_1 c0_1 => unnil z0_1 <| gAgg (fr 1) fun z1 => uncons z1 fun w1_0 z1_0 => gBool w1_0 fun b1_0 => uncons z1_0 fun w1_1 z1_1 => gSlice w1_1 fun a1_1 l1_1 c1_1 => unnil z1_1 <| D1.t R b0_0 a0_1 l0_1 c0_1 b1_0 a1_1 l1_1 c1_1 h
theorem D1.ok (R : Rt) (fr : Fr) (h : Hp) (g : D1.g R fr h) : den prog E C (retQ E [.tmp 4] R) fr h := by
  obtain ⟨z0, e0, g0_0⟩ := gAgg_elim' g
  obtain ⟨w0_0, z0_0, rfl, g0_0x⟩ := uncons_elim g0_0
  obtain ⟨b0_0, rfl, g0_1⟩ := gBool_elim g0_0x
  obtain ⟨w0_1, z0_1, rfl, g0_1x⟩ := uncons_elim g0_1
  obtain ⟨a0_1, l0_1, c0_1, rfl, g0_2⟩ := gSlice_elim g0_1x
  obtain ⟨rfl, g⟩ := unnil_elim g0_2
  obtain ⟨z1, e1, g1_0⟩ := gAgg_elim' g
  obtain ⟨w1_0, z1_0, rfl, g1_0x⟩ := uncons_elim g1_0
  obtain ⟨b1_0, rfl, g1_1⟩ := gBool_elim g1_0x
  obtain ⟨w1_1, z1_1, rfl, g1_1x⟩ := uncons_elim g1_1
  obtain ⟨a1_1, l1_1, c1_1, rfl, g1_2⟩ := gSlice_elim g1_1x
  obtain ⟨rfl, g⟩ := unnil_elim g1_2
  exact den_enter [(0, .agg #[.bool b0_0, .slice a0_1 l0_1 c0_1]), (1, .agg #[.bool b1_0, .slice a1_1 l1_1 c1_1])] ⟨e0, e1, trivial⟩ (by kernel_rfl) g
def t (b0_0 : Bool) (a0_1 : Option Addr) (l0_1 : Nat) (c0_1 : Nat) (b1_0 : Bool) (a1_1 : Option Addr) (l1_1 : Nat) (c1_1 : Nat) (h : Hp) (R : Rt) : Prop := D1.t R b0_0 a0_1 l0_1 c0_1 b1_0 a1_1 l1_1 c1_1 h
theorem ok {b0_0 : Bool} {a0_1 : Option Addr} {l0_1 : Nat} {c0_1 : Nat} {b1_0 : Bool} {a1_1 : Option Addr} {l1_1 : Nat} {c1_1 : Nat} {h : Hp} {R : Rt} (g : t b0_0 a0_1 l0_1 c0_1 b1_0 a1_1 l1_1 c1_1 h R) : HC id #[.agg #[.bool b0_0, .slice a0_1 l0_1 c0_1], .agg #[.bool b1_0, .slice a1_1 l1_1 c1_1]] h R :=
  calls_of_den' envOk (c := C) (rs := [.tmp 4]) Tryz.func58 (by kernel_rfl) (by kernel_rfl) (by kernel_rfl) (args := [.agg #[.bool b0_0, .slice a0_1 l0_1 c0_1], .agg #[.bool b1_0, .slice a1_1 l1_1 c1_1]]) (by kernel_rfl) (D1.ok R _ h (gAgg_intro rfl (uncons_intro (gBool_intro rfl (uncons_intro (gSlice_intro rfl (unnil_intro (gAgg_intro rfl (uncons_intro (gBool_intro rfl (uncons_intro (gSlice_intro rfl (unnil_intro (g))))))))))))))
end gnomonref04_Cmp


namespace gnomonref04_DocTwo
noncomputable def C : Code := bodyOf Tryz.f60
def D4.t (R : Rt) (x0 : Int) (q6 : Addr) (q8 : Addr) (q9 : Addr) (h : Hp) : Prop :=
  cond (x0 == 0) (ldK h (q8.add 0) fun v76 =>
  gBool v76 fun b_77 =>
  ldK h (q8.add 1) fun v78 =>
  gSlice v78 fun a_79 l_79 c_79 =>
  ldK h (q9.add 0) fun v80 =>
  gBool v80 fun b_81 =>
  ldK h (q9.add 1) fun v82 =>
  gSlice v82 fun a_83 l_83 c_83 =>
  HC gnomonref04_Add.id #[.agg #[.bool b_77, .slice a_79 l_79 c_79], .agg #[.bool b_81, .slice a_83 l_83 c_83]] h fun v84 h85 =>
  gAgg v84 fun y86 =>
  uncons y86 fun v87 y87 =>
  gBool v87 fun b_88 =>
  uncons y87 fun v89 y89 =>
  gSlice v89 fun a_90 l_90 c_90 =>
  unnil y89 <| HC gnomonref04_Told.id #[.agg #[.bool b_88, .slice a_90 l_90 c_90]] h85 fun v91 h92 =>
  gTup v91 fun y93 =>
  uncons y93 fun v94 y94 =>
  gAgg v94 fun y95 =>
  uncons y95 fun v96 y96 =>
  gBool v96 fun b_97 =>
  uncons y96 fun v98 y98 =>
  gSlice v98 fun a_99 l_99 c_99 =>
  unnil y98 <| uncons y94 fun v100 y100 =>
  gInt .i64 v100 fun x_101 =>
  unnil y100 <| stK h92 (q6.add 0) (.bool b_97) fun h102 =>
  stK h102 (q6.add 1) (.slice a_99 l_99 c_99) fun h103 =>
  ldK h103 (q6.add 0) fun v104 =>
  gBool v104 fun b_105 =>
  ldK h103 (q6.add 1) fun v106 =>
  gSlice v106 fun a_107 l_107 c_107 =>
  R (.tuple #[.agg #[.bool b_105, .slice a_107 l_107 c_107], .int .i64 x_101]) h103) (cond (x0 == 1) (ldK h (q8.add 0) fun v108 =>
  gBool v108 fun b_109 =>
  ldK h (q8.add 1) fun v110 =>
  gSlice v110 fun a_111 l_111 c_111 =>
  ldK h (q9.add 0) fun v112 =>
  gBool v112 fun b_113 =>
  ldK h (q9.add 1) fun v114 =>
  gSlice v114 fun a_115 l_115 c_115 =>
  HC gnomonref04_Sub.id #[.agg #[.bool b_109, .slice a_111 l_111 c_111], .agg #[.bool b_113, .slice a_115 l_115 c_115]] h fun v116 h117 =>
  gAgg v116 fun y118 =>
  uncons y118 fun v119 y119 =>
  gBool v119 fun b_120 =>
  uncons y119 fun v121 y121 =>
  gSlice v121 fun a_122 l_122 c_122 =>
  unnil y121 <| HC gnomonref04_Told.id #[.agg #[.bool b_120, .slice a_122 l_122 c_122]] h117 fun v123 h124 =>
  gTup v123 fun y125 =>
  uncons y125 fun v126 y126 =>
  gAgg v126 fun y127 =>
  uncons y127 fun v128 y128 =>
  gBool v128 fun b_129 =>
  uncons y128 fun v130 y130 =>
  gSlice v130 fun a_131 l_131 c_131 =>
  unnil y130 <| uncons y126 fun v132 y132 =>
  gInt .i64 v132 fun x_133 =>
  unnil y132 <| stK h124 (q6.add 0) (.bool b_129) fun h134 =>
  stK h134 (q6.add 1) (.slice a_131 l_131 c_131) fun h135 =>
  ldK h135 (q6.add 0) fun v136 =>
  gBool v136 fun b_137 =>
  ldK h135 (q6.add 1) fun v138 =>
  gSlice v138 fun a_139 l_139 c_139 =>
  R (.tuple #[.agg #[.bool b_137, .slice a_139 l_139 c_139], .int .i64 x_133]) h135) (cond (x0 == 2) (ldK h (q8.add 0) fun v140 =>
  gBool v140 fun b_141 =>
  ldK h (q8.add 1) fun v142 =>
  gSlice v142 fun a_143 l_143 c_143 =>
  ldK h (q9.add 0) fun v144 =>
  gBool v144 fun b_145 =>
  ldK h (q9.add 1) fun v146 =>
  gSlice v146 fun a_147 l_147 c_147 =>
  HC gnomonref04_Mul.id #[.agg #[.bool b_141, .slice a_143 l_143 c_143], .agg #[.bool b_145, .slice a_147 l_147 c_147]] h fun v148 h149 =>
  gAgg v148 fun y150 =>
  uncons y150 fun v151 y151 =>
  gBool v151 fun b_152 =>
  uncons y151 fun v153 y153 =>
  gSlice v153 fun a_154 l_154 c_154 =>
  unnil y153 <| HC gnomonref04_Told.id #[.agg #[.bool b_152, .slice a_154 l_154 c_154]] h149 fun v155 h156 =>
  gTup v155 fun y157 =>
  uncons y157 fun v158 y158 =>
  gAgg v158 fun y159 =>
  uncons y159 fun v160 y160 =>
  gBool v160 fun b_161 =>
  uncons y160 fun v162 y162 =>
  gSlice v162 fun a_163 l_163 c_163 =>
  unnil y162 <| uncons y158 fun v164 y164 =>
  gInt .i64 v164 fun x_165 =>
  unnil y164 <| stK h156 (q6.add 0) (.bool b_161) fun h166 =>
  stK h166 (q6.add 1) (.slice a_163 l_163 c_163) fun h167 =>
  ldK h167 (q6.add 0) fun v168 =>
  gBool v168 fun b_169 =>
  ldK h167 (q6.add 1) fun v170 =>
  gSlice v170 fun a_171 l_171 c_171 =>
  R (.tuple #[.agg #[.bool b_169, .slice a_171 l_171 c_171], .int .i64 x_165]) h167) (cond (x0 == 3) (ldK h (q8.add 0) fun v172 =>
  gBool v172 fun b_173 =>
  ldK h (q8.add 1) fun v174 =>
  gSlice v174 fun a_175 l_175 c_175 =>
  ldK h (q9.add 0) fun v176 =>
  gBool v176 fun b_177 =>
  ldK h (q9.add 1) fun v178 =>
  gSlice v178 fun a_179 l_179 c_179 =>
  HC gnomonref04_FloorDiv.id #[.agg #[.bool b_173, .slice a_175 l_175 c_175], .agg #[.bool b_177, .slice a_179 l_179 c_179]] h fun v180 h181 =>
  gAgg v180 fun y182 =>
  uncons y182 fun v183 y183 =>
  gBool v183 fun b_184 =>
  uncons y183 fun v185 y185 =>
  gSlice v185 fun a_186 l_186 c_186 =>
  unnil y185 <| HC gnomonref04_Told.id #[.agg #[.bool b_184, .slice a_186 l_186 c_186]] h181 fun v187 h188 =>
  gTup v187 fun y189 =>
  uncons y189 fun v190 y190 =>
  gAgg v190 fun y191 =>
  uncons y191 fun v192 y192 =>
  gBool v192 fun b_193 =>
  uncons y192 fun v194 y194 =>
  gSlice v194 fun a_195 l_195 c_195 =>
  unnil y194 <| uncons y190 fun v196 y196 =>
  gInt .i64 v196 fun x_197 =>
  unnil y196 <| stK h188 (q6.add 0) (.bool b_193) fun h198 =>
  stK h198 (q6.add 1) (.slice a_195 l_195 c_195) fun h199 =>
  ldK h199 (q6.add 0) fun v200 =>
  gBool v200 fun b_201 =>
  ldK h199 (q6.add 1) fun v202 =>
  gSlice v202 fun a_203 l_203 c_203 =>
  R (.tuple #[.agg #[.bool b_201, .slice a_203 l_203 c_203], .int .i64 x_197]) h199) (cond (x0 == 4) (ldK h (q8.add 0) fun v204 =>
  gBool v204 fun b_205 =>
  ldK h (q8.add 1) fun v206 =>
  gSlice v206 fun a_207 l_207 c_207 =>
  ldK h (q9.add 0) fun v208 =>
  gBool v208 fun b_209 =>
  ldK h (q9.add 1) fun v210 =>
  gSlice v210 fun a_211 l_211 c_211 =>
  HC gnomonref04_CeilDiv.id #[.agg #[.bool b_205, .slice a_207 l_207 c_207], .agg #[.bool b_209, .slice a_211 l_211 c_211]] h fun v212 h213 =>
  gAgg v212 fun y214 =>
  uncons y214 fun v215 y215 =>
  gBool v215 fun b_216 =>
  uncons y215 fun v217 y217 =>
  gSlice v217 fun a_218 l_218 c_218 =>
  unnil y217 <| HC gnomonref04_Told.id #[.agg #[.bool b_216, .slice a_218 l_218 c_218]] h213 fun v219 h220 =>
  gTup v219 fun y221 =>
  uncons y221 fun v222 y222 =>
  gAgg v222 fun y223 =>
  uncons y223 fun v224 y224 =>
  gBool v224 fun b_225 =>
  uncons y224 fun v226 y226 =>
  gSlice v226 fun a_227 l_227 c_227 =>
  unnil y226 <| uncons y222 fun v228 y228 =>
  gInt .i64 v228 fun x_229 =>
  unnil y228 <| stK h220 (q6.add 0) (.bool b_225) fun h230 =>
  stK h230 (q6.add 1) (.slice a_227 l_227 c_227) fun h231 =>
  ldK h231 (q6.add 0) fun v232 =>
  gBool v232 fun b_233 =>
  ldK h231 (q6.add 1) fun v234 =>
  gSlice v234 fun a_235 l_235 c_235 =>
  R (.tuple #[.agg #[.bool b_233, .slice a_235 l_235 c_235], .int .i64 x_229]) h231) (cond (x0 == 5) (ldK h (q8.add 0) fun v236 =>
  gBool v236 fun b_237 =>
  ldK h (q8.add 1) fun v238 =>
  gSlice v238 fun a_239 l_239 c_239 =>
  ldK h (q9.add 0) fun v240 =>
  gBool v240 fun b_241 =>
  ldK h (q9.add 1) fun v242 =>
  gSlice v242 fun a_243 l_243 c_243 =>
  HC gnomonref04_NearDiv.id #[.agg #[.bool b_237, .slice a_239 l_239 c_239], .agg #[.bool b_241, .slice a_243 l_243 c_243]] h fun v244 h245 =>
  gAgg v244 fun y246 =>
  uncons y246 fun v247 y247 =>
  gBool v247 fun b_248 =>
  uncons y247 fun v249 y249 =>
  gSlice v249 fun a_250 l_250 c_250 =>
  unnil y249 <| HC gnomonref04_Told.id #[.agg #[.bool b_248, .slice a_250 l_250 c_250]] h245 fun v251 h252 =>
  gTup v251 fun y253 =>
  uncons y253 fun v254 y254 =>
  gAgg v254 fun y255 =>
  uncons y255 fun v256 y256 =>
  gBool v256 fun b_257 =>
  uncons y256 fun v258 y258 =>
  gSlice v258 fun a_259 l_259 c_259 =>
  unnil y258 <| uncons y254 fun v260 y260 =>
  gInt .i64 v260 fun x_261 =>
  unnil y260 <| stK h252 (q6.add 0) (.bool b_257) fun h262 =>
  stK h262 (q6.add 1) (.slice a_259 l_259 c_259) fun h263 =>
  ldK h263 (q6.add 0) fun v264 =>
  gBool v264 fun b_265 =>
  ldK h263 (q6.add 1) fun v266 =>
  gSlice v266 fun a_267 l_267 c_267 =>
  R (.tuple #[.agg #[.bool b_265, .slice a_267 l_267 c_267], .int .i64 x_261]) h263) (ldK h (q8.add 0) fun v268 =>
  gBool v268 fun b_269 =>
  ldK h (q8.add 1) fun v270 =>
  gSlice v270 fun a_271 l_271 c_271 =>
  ldK h (q9.add 0) fun v272 =>
  gBool v272 fun b_273 =>
  ldK h (q9.add 1) fun v274 =>
  gSlice v274 fun a_275 l_275 c_275 =>
  HC gnomonref04_Mod.id #[.agg #[.bool b_269, .slice a_271 l_271 c_271], .agg #[.bool b_273, .slice a_275 l_275 c_275]] h fun v276 h277 =>
  gAgg v276 fun y278 =>
  uncons y278 fun v279 y279 =>
  gBool v279 fun b_280 =>
  uncons y279 fun v281 y281 =>
  gSlice v281 fun a_282 l_282 c_282 =>
  unnil y281 <| HC gnomonref04_Told.id #[.agg #[.bool b_280, .slice a_282 l_282 c_282]] h277 fun v283 h284 =>
  gTup v283 fun y285 =>
  uncons y285 fun v286 y286 =>
  gAgg v286 fun y287 =>
  uncons y287 fun v288 y288 =>
  gBool v288 fun b_289 =>
  uncons y288 fun v290 y290 =>
  gSlice v290 fun a_291 l_291 c_291 =>
  unnil y290 <| uncons y286 fun v292 y292 =>
  gInt .i64 v292 fun x_293 =>
  unnil y292 <| stK h284 (q6.add 0) (.bool b_289) fun h294 =>
  stK h294 (q6.add 1) (.slice a_291 l_291 c_291) fun h295 =>
  ldK h295 (q6.add 0) fun v296 =>
  gBool v296 fun b_297 =>
  ldK h295 (q6.add 1) fun v298 =>
  gSlice v298 fun a_299 l_299 c_299 =>
  R (.tuple #[.agg #[.bool b_297, .slice a_299 l_299 c_299], .int .i64 x_293]) h295))))))
def D4.g (R : Rt) (fr : Fr) (h : Hp) : Prop := gInt .i64 (fr 0) fun x0 => gPtrS (fr 6) fun q6 => gPtrS (fr 8) fun q8 => gPtrS (fr 9) fun q9 => D4.t R x0 q6 q8 q9 h
theorem D4.ok (R : Rt) (fr : Fr) (h : Hp) (g : D4.g R fr h) : den prog E (cAt C [true, true, true, true]) (retQ E [.cell 6 28, .tmp 7] R) fr h := by
  obtain ⟨x0, e0, g⟩ := gInt_elim g
  obtain ⟨q6, e6, g⟩ := gPtrS_elim g
  obtain ⟨q8, e8, g⟩ := gPtrS_elim g
  obtain ⟨q9, e9, g⟩ := gPtrS_elim g
  exact den_enter [(0, .int .i64 x0), (6, .pointer (some q6)), (8, .pointer (some q8)), (9, .pointer (some q9))] ⟨e0, e6, e8, e9, trivial⟩ (by kernel_rfl) g
def D3.t (R : Rt) (x0 : Int) (q6 : Addr) (q8 : Addr) (q9 : Addr) (h : Hp) : Prop :=
  cond (decide (x0 ≥ 3)) (ldK h (q9.add 0) fun v63 =>
  gBool v63 fun b_64 =>
  ldK h (q9.add 1) fun v65 =>
  gSlice v65 fun a_66 l_66 c_66 =>
  HC gnomonref04_Sign.id #[.agg #[.bool b_64, .slice a_66 l_66 c_66]] h fun v67 h68 =>
  gInt .i64 v67 fun x_69 =>
  cond (x_69 == 0) (stK h68 (q6.add 0) (.bool false) fun h70 =>
  stK h70 (q6.add 1) (.slice none 0 0) fun h71 =>
  ldK h71 (q6.add 0) fun v72 =>
  gBool v72 fun b_73 =>
  ldK h71 (q6.add 1) fun v74 =>
  gSlice v74 fun a_75 l_75 c_75 =>
  R (.tuple #[.agg #[.bool b_73, .slice a_75 l_75 c_75], .int .i64 4]) h71) (D4.t R x0 q6 q8 q9 h68)) (D4.t R x0 q6 q8 q9 h)
def D3.g (R : Rt) (fr : Fr) (h : Hp) : Prop := gInt .i64 (fr 0) fun x0 => gPtrS (fr 6) fun q6 => gPtrS (fr 8) fun q8 => gPtrS (fr 9) fun q9 => D3.t R x0 q6 q8 q9 h
theorem D3.ok (R : Rt) (fr : Fr) (h : Hp) (g : D3.g R fr h) : den prog E (cAt C [true, true, true]) (retQ E [.cell 6 28, .tmp 7] R) fr h := by
  obtain ⟨x0, e0, g⟩ := gInt_elim g
  obtain ⟨q6, e6, g⟩ := gPtrS_elim g
  obtain ⟨q8, e8, g⟩ := gPtrS_elim g
  obtain ⟨q9, e9, g⟩ := gPtrS_elim g
  exact den_cut 1 (r := (cAt C [true, true, true, true])) (by kernel_rfl) (D4.ok R) (den_enter [(0, .int .i64 x0), (6, .pointer (some q6)), (8, .pointer (some q8)), (9, .pointer (some q9))] ⟨e0, e6, e8, e9, trivial⟩ (by kernel_rfl) g)
def D2.t (R : Rt) (x0 : Int) (q4 : Addr) (q5 : Addr) (q6 : Addr) (h : Hp) : Prop :=
  q4.block < h.size ∧ ldK h (q4.add 0) fun v33 =>
  gBool v33 fun b_34 =>
  ldK h (q4.add 1) fun v35 =>
  gSlice v35 fun a_36 l_36 c_36 =>
  q5.block < h.size ∧ ldK h (q5.add 0) fun v37 =>
  gBool v37 fun b_38 =>
  ldK h (q5.add 1) fun v39 =>
  gSlice v39 fun a_40 l_40 c_40 =>
  (HC gnomonref04_From.id #[.agg #[.bool b_34, .slice a_36 l_36 c_36]] h fun v41 h42 =>
  gAgg v41 fun y43 =>
  uncons y43 fun v44 y44 =>
  gBool v44 fun b_45 =>
  uncons y44 fun v46 y46 =>
  gSlice v46 fun a_47 l_47 c_47 =>
  unnil y46 <| (Pre h.size h h42) ∧ (HC gnomonref04_From.id #[.agg #[.bool b_38, .slice a_40 l_40 c_40]] h42 fun v48 h49 =>
  gAgg v48 fun y50 =>
  uncons y50 fun v51 y51 =>
  gBool v51 fun b_52 =>
  uncons y51 fun v53 y53 =>
  gSlice v53 fun a_54 l_54 c_54 =>
  unnil y53 <| (Pre h.size h42 h49) ∧ (boxK h49 67 T67.zs fun q55 h56 =>
  (Pre h.size h49 h56) ∧ boxK h56 67 T67.zs fun q57 h58 =>
  (Pre h.size h56 h58) ∧ stK h58 (q55.add 0) (.bool b_45) fun h59 =>
  stK h59 (q55.add 1) (.slice a_47 l_47 c_47) fun h60 =>
  stK h60 (q57.add 0) (.bool b_52) fun h61 =>
  stK h61 (q57.add 1) (.slice a_54 l_54 c_54) fun h62 =>
  D3.t R x0 q6 q55 q57 h62) ∧ (boxK h49 67 T67.zs fun q300 h301 =>
  (Pre h.size h49 h301) ∧ boxK h301 67 T67.zs fun q302 h303 =>
  (Pre h.size h301 h303) ∧ stK h303 (q302.add 0) (.bool b_45) fun h304 =>
  stK h304 (q302.add 1) (.slice a_47 l_47 c_47) fun h305 =>
  stK h305 (q300.add 0) (.bool b_52) fun h306 =>
  stK h306 (q300.add 1) (.slice a_54 l_54 c_54) fun h307 =>
  D3.t R x0 q6 q302 q300 h307)) ∧ (boxK h42 67 T67.zs fun q308 h309 =>
  (Pre h.size h42 h309) ∧ (HC gnomonref04_From.id #[.agg #[.bool b_38, .slice a_40 l_40 c_40]] h309 fun v310 h311 =>
  gAgg v310 fun y312 =>
  uncons y312 fun v313 y313 =>
  gBool v313 fun b_314 =>
  uncons y313 fun v315 y315 =>
  gSlice v315 fun a_316 l_316 c_316 =>
  unnil y315 <| (Pre h.size h309 h311) ∧ boxK h311 67 T67.zs fun q317 h318 =>
  (Pre h.size h311 h318) ∧ stK h318 (q308.add 0) (.bool b_45) fun h319 =>
  stK h319 (q308.add 1) (.slice a_47 l_47 c_47) fun h320 =>
  stK h320 (q317.add 0) (.bool b_314) fun h321 =>
  stK h321 (q317.add 1) (.slice a_316 l_316 c_316) fun h322 =>
  D3.t R x0 q6 q308 q317 h322) ∧ (boxK h309 67 T67.zs fun q323 h324 =>
  (Pre h.size h309 h324) ∧ HC gnomonref04_From.id #[.agg #[.bool b_38, .slice a_40 l_40 c_40]] h324 fun v325 h326 =>
  gAgg v325 fun y327 =>
  uncons y327 fun v328 y328 =>
  gBool v328 fun b_329 =>
  uncons y328 fun v330 y330 =>
  gSlice v330 fun a_331 l_331 c_331 =>
  unnil y330 <| (Pre h.size h324 h326) ∧ stK h326 (q308.add 0) (.bool b_45) fun h332 =>
  stK h332 (q308.add 1) (.slice a_47 l_47 c_47) fun h333 =>
  stK h333 (q323.add 0) (.bool b_329) fun h334 =>
  stK h334 (q323.add 1) (.slice a_331 l_331 c_331) fun h335 =>
  D3.t R x0 q6 q308 q323 h335)) ∧ (boxK h42 67 T67.zs fun q336 h337 =>
  (Pre h.size h42 h337) ∧ (HC gnomonref04_From.id #[.agg #[.bool b_38, .slice a_40 l_40 c_40]] h337 fun v338 h339 =>
  gAgg v338 fun y340 =>
  uncons y340 fun v341 y341 =>
  gBool v341 fun b_342 =>
  uncons y341 fun v343 y343 =>
  gSlice v343 fun a_344 l_344 c_344 =>
  unnil y343 <| (Pre h.size h337 h339) ∧ boxK h339 67 T67.zs fun q345 h346 =>
  (Pre h.size h339 h346) ∧ stK h346 (q345.add 0) (.bool b_45) fun h347 =>
  stK h347 (q345.add 1) (.slice a_47 l_47 c_47) fun h348 =>
  stK h348 (q336.add 0) (.bool b_342) fun h349 =>
  stK h349 (q336.add 1) (.slice a_344 l_344 c_344) fun h350 =>
  D3.t R x0 q6 q345 q336 h350) ∧ (boxK h337 67 T67.zs fun q351 h352 =>
  (Pre h.size h337 h352) ∧ HC gnomonref04_From.id #[.agg #[.bool b_38, .slice a_40 l_40 c_40]] h352 fun v353 h354 =>
  gAgg v353 fun y355 =>
  uncons y355 fun v356 y356 =>
  gBool v356 fun b_357 =>
  uncons y356 fun v358 y358 =>
  gSlice v358 fun a_359 l_359 c_359 =>
  unnil y358 <| (Pre h.size h352 h354) ∧ stK h354 (q351.add 0) (.bool b_45) fun h360 =>
  stK h360 (q351.add 1) (.slice a_47 l_47 c_47) fun h361 =>
  stK h361 (q336.add 0) (.bool b_357) fun h362 =>
  stK h362 (q336.add 1) (.slice a_359 l_359 c_359) fun h363 =>
  D3.t R x0 q6 q351 q336 h363))) ∧ (boxK h 67 T67.zs fun q364 h365 =>
  (Pre h.size h h365) ∧ (HC gnomonref04_From.id #[.agg #[.bool b_34, .slice a_36 l_36 c_36]] h365 fun v366 h367 =>
  gAgg v366 fun y368 =>
  uncons y368 fun v369 y369 =>
  gBool v369 fun b_370 =>
  uncons y369 fun v371 y371 =>
  gSlice v371 fun a_372 l_372 c_372 =>
  unnil y371 <| (Pre h.size h365 h367) ∧ (HC gnomonref04_From.id #[.agg #[.bool b_38, .slice a_40 l_40 c_40]] h367 fun v373 h374 =>
  gAgg v373 fun y375 =>
  uncons y375 fun v376 y376 =>
  gBool v376 fun b_377 =>
  uncons y376 fun v378 y378 =>
  gSlice v378 fun a_379 l_379 c_379 =>
  unnil y378 <| (Pre h.size h367 h374) ∧ boxK h374 67 T67.zs fun q380 h381 =>
  (Pre h.size h374 h381) ∧ stK h381 (q364.add 0) (.bool b_370) fun h382 =>
  stK h382 (q364.add 1) (.slice a_372 l_372 c_372) fun h383 =>
  stK h383 (q380.add 0) (.bool b_377) fun h384 =>
  stK h384 (q380.add 1) (.slice a_379 l_379 c_379) fun h385 =>
  D3.t R x0 q6 q364 q380 h385) ∧ (boxK h367 67 T67.zs fun q386 h387 =>
  (Pre h.size h367 h387) ∧ HC gnomonref04_From.id #[.agg #[.bool b_38, .slice a_40 l_40 c_40]] h387 fun v388 h389 =>
  gAgg v388 fun y390 =>
  uncons y390 fun v391 y391 =>
  gBool v391 fun b_392 =>
  uncons y391 fun v393 y393 =>
  gSlice v393 fun a_394 l_394 c_394 =>
  unnil y393 <| (Pre h.size h387 h389) ∧ stK h389 (q364.add 0) (.bool b_370) fun h395 =>
  stK h395 (q364.add 1) (.slice a_372 l_372 c_372) fun h396 =>
  stK h396 (q386.add 0) (.bool b_392) fun h397 =>
  stK h397 (q386.add 1) (.slice a_394 l_394 c_394) fun h398 =>
  D3.t R x0 q6 q364 q386 h398)) ∧ (boxK h365 67 T67.zs fun q399 h400 =>
  (Pre h.size h365 h400) ∧ HC gnomonref04_From.id #[.agg #[.bool b_34, .slice a_36 l_36 c_36]] h400 fun v401 h402 =>
  gAgg v401 fun y403 =>
  uncons y403 fun v404 y404 =>
  gBool v404 fun b_405 =>
  uncons y404 fun v406 y406 =>
  gSlice v406 fun a_407 l_407 c_407 =>
  unnil y406 <| (Pre h.size h400 h402) ∧ HC gnomonref04_From.id #[.agg #[.bool b_38, .slice a_40 l_40 c_40]] h402 fun v408 h409 =>
  gAgg v408 fun y410 =>
  uncons y410 fun v411 y411 =>
  gBool v411 fun b_412 =>
  uncons y411 fun v413 y413 =>
  gSlice v413 fun a_414 l_414 c_414 =>
  unnil y413 <| (Pre h.size h402 h409) ∧ stK h409 (q364.add 0) (.bool b_405) fun h415 =>
  stK h415 (q364.add 1) (.slice a_407 l_407 c_407) fun h416 =>
  stK h416 (q399.add 0) (.bool b_412) fun h417 =>
  stK h417 (q399.add 1) (.slice a_414 l_414 c_414) fun h418 =>
  D3.t R x0 q6 q364 q399 h418)) ∧ (boxK h 67 T67.zs fun q419 h420 =>
  (Pre h.size h h420) ∧ (HC gnomonref04_From.id #[.agg #[.bool b_34, .slice a_36 l_36 c_36]] h420 fun v421 h422 =>
  gAgg v421 fun y423 =>
  uncons y423 fun v424 y424 =>
  gBool v424 fun b_425 =>
  uncons y424 fun v426 y426 =>
  gSlice v426 fun a_427 l_427 c_427 =>
  unnil y426 <| (Pre h.size h420 h422) ∧ (HC gnomonref04_From.id #[.agg #[.bool b_38, .slice a_40 l_40 c_40]] h422 fun v428 h429 =>
  gAgg v428 fun y430 =>
  uncons y430 fun v431 y431 =>
  gBool v431 fun b_432 =>
  uncons y431 fun v433 y433 =>
  gSlice v433 fun a_434 l_434 c_434 =>
  unnil y433 <| (Pre h.size h422 h429) ∧ boxK h429 67 T67.zs fun q435 h436 =>
  (Pre h.size h429 h436) ∧ stK h436 (q435.add 0) (.bool b_425) fun h437 =>
  stK h437 (q435.add 1) (.slice a_427 l_427 c_427) fun h438 =>
  stK h438 (q419.add 0) (.bool b_432) fun h439 =>
  stK h439 (q419.add 1) (.slice a_434 l_434 c_434) fun h440 =>
  D3.t R x0 q6 q435 q419 h440) ∧ (boxK h422 67 T67.zs fun q441 h442 =>
  (Pre h.size h422 h442) ∧ HC gnomonref04_From.id #[.agg #[.bool b_38, .slice a_40 l_40 c_40]] h442 fun v443 h444 =>
  gAgg v443 fun y445 =>
  uncons y445 fun v446 y446 =>
  gBool v446 fun b_447 =>
  uncons y446 fun v448 y448 =>
  gSlice v448 fun a_449 l_449 c_449 =>
  unnil y448 <| (Pre h.size h442 h444) ∧ stK h444 (q441.add 0) (.bool b_425) fun h450 =>
  stK h450 (q441.add 1) (.slice a_427 l_427 c_427) fun h451 =>
  stK h451 (q419.add 0) (.bool b_447) fun h452 =>
  stK h452 (q419.add 1) (.slice a_449 l_449 c_449) fun h453 =>
  D3.t R x0 q6 q441 q419 h453)) ∧ (boxK h420 67 T67.zs fun q454 h455 =>
  (Pre h.size h420 h455) ∧ HC gnomonref04_From.id #[.agg #[.bool b_34, .slice a_36 l_36 c_36]] h455 fun v456 h457 =>
  gAgg v456 fun y458 =>
  uncons y458 fun v459 y459 =>
  gBool v459 fun b_460 =>
  uncons y459 fun v461 y461 =>
  gSlice v461 fun a_462 l_462 c_462 =>
  unnil y461 <| (Pre h.size h455 h457) ∧ HC gnomonref04_From.id #[.agg #[.bool b_38, .slice a_40 l_40 c_40]] h457 fun v463 h464 =>
  gAgg v463 fun y465 =>
  uncons y465 fun v466 y466 =>
  gBool v466 fun b_467 =>
  uncons y466 fun v468 y468 =>
  gSlice v468 fun a_469 l_469 c_469 =>
  unnil y468 <| (Pre h.size h457 h464) ∧ stK h464 (q454.add 0) (.bool b_460) fun h470 =>
  stK h470 (q454.add 1) (.slice a_462 l_462 c_462) fun h471 =>
  stK h471 (q419.add 0) (.bool b_467) fun h472 =>
  stK h472 (q419.add 1) (.slice a_469 l_469 c_469) fun h473 =>
  D3.t R x0 q6 q454 q419 h473))
def D2.g (R : Rt) (fr : Fr) (h : Hp) : Prop := gInt .i64 (fr 0) fun x0 => gPtrS (fr 4) fun q4 => gPtrS (fr 5) fun q5 => gPtrS (fr 6) fun q6 => D2.t R x0 q4 q5 q6 h
theorem D2.ok (R : Rt) (fr : Fr) (h : Hp) (g : D2.g R fr h) : den prog E (cAt C [true, true]) (retQ E [.cell 6 28, .tmp 7] R) fr h := by
  obtain ⟨x0, e0, g⟩ := gInt_elim g
  obtain ⟨q4, e4, g⟩ := gPtrS_elim g
  obtain ⟨q5, e5, g⟩ := gPtrS_elim g
  obtain ⟨q6, e6, g⟩ := gPtrS_elim g
  exact den_cut 1 (r := (cAt C [true, true, true])) (by kernel_rfl) (D3.ok R) (den_enter [(0, .int .i64 x0), (4, .pointer (some q4)), (5, .pointer (some q5)), (6, .pointer (some q6))] ⟨e0, e4, e5, e6, trivial⟩ (by kernel_rfl) g)
def D1.t (R : Rt) (x0 : Int) (b1_0 : Bool) (a1_1 : Option Addr) (l1_1 : Nat) (c1_1 : Nat) (b2_0 : Bool) (a2_1 : Option Addr) (l2_1 : Nat) (c2_1 : Nat) (h : Hp) : Prop :=
  boxK h 28 [.bool b1_0, .slice a1_1 l1_1 c1_1] fun q1 h2 =>
  boxK h2 28 [.bool b2_0, .slice a2_1 l2_1 c2_1] fun q3 h4 =>
  boxK h4 28 T28.zs fun q5 h6 =>
  ldK h6 (q1.add 0) fun v7 =>
  gBool v7 fun b_8 =>
  ldK h6 (q1.add 1) fun v9 =>
  gSlice v9 fun a_10 l_10 c_10 =>
  HC gnomonref04_DocForm.id #[.agg #[.bool b_8, .slice a_10 l_10 c_10]] h6 fun v11 h12 =>
  gBool v11 fun b_13 =>
  cond (!b_13) (stK h12 (q5.add 0) (.bool false) fun h14 =>
  stK h14 (q5.add 1) (.slice none 0 0) fun h15 =>
  ldK h15 (q5.add 0) fun v16 =>
  gBool v16 fun b_17 =>
  ldK h15 (q5.add 1) fun v18 =>
  gSlice v18 fun a_19 l_19 c_19 =>
  R (.tuple #[.agg #[.bool b_17, .slice a_19 l_19 c_19], .int .i64 2]) h15) (ldK h12 (q3.add 0) fun v20 =>
  gBool v20 fun b_21 =>
  ldK h12 (q3.add 1) fun v22 =>
  gSlice v22 fun a_23 l_23 c_23 =>
  HC gnomonref04_DocForm.id #[.agg #[.bool b_21, .slice a_23 l_23 c_23]] h12 fun v24 h25 =>
  gBool v24 fun b_26 =>
  cond (!b_26) (stK h25 (q5.add 0) (.bool false) fun h27 =>
  stK h27 (q5.add 1) (.slice none 0 0) fun h28 =>
  ldK h28 (q5.add 0) fun v29 =>
  gBool v29 fun b_30 =>
  ldK h28 (q5.add 1) fun v31 =>
  gSlice v31 fun a_32 l_32 c_32 =>
  R (.tuple #[.agg #[.bool b_30, .slice a_32 l_32 c_32], .int .i64 2]) h28) (D2.t R x0 q1 q3 q5 h25))
def D1.g (R : Rt) (fr : Fr) (h : Hp) : Prop := gInt .i64 (fr 0) fun x0 => gAgg (fr 1) fun z1 => uncons z1 fun w1_0 z1_0 => gBool w1_0 fun b1_0 => uncons z1_0 fun w1_1 z1_1 => gSlice w1_1 fun a1_1 l1_1 c1_1 => unnil z1_1 <| gAgg (fr 2) fun z2 => uncons z2 fun w2_0 z2_0 => gBool w2_0 fun b2_0 => uncons z2_0 fun w2_1 z2_1 => gSlice w2_1 fun a2_1 l2_1 c2_1 => unnil z2_1 <| D1.t R x0 b1_0 a1_1 l1_1 c1_1 b2_0 a2_1 l2_1 c2_1 h
theorem D1.ok (R : Rt) (fr : Fr) (h : Hp) (g : D1.g R fr h) : den prog E C (retQ E [.cell 6 28, .tmp 7] R) fr h := by
  obtain ⟨x0, e0, g⟩ := gInt_elim g
  obtain ⟨z1, e1, g1_0⟩ := gAgg_elim' g
  obtain ⟨w1_0, z1_0, rfl, g1_0x⟩ := uncons_elim g1_0
  obtain ⟨b1_0, rfl, g1_1⟩ := gBool_elim g1_0x
  obtain ⟨w1_1, z1_1, rfl, g1_1x⟩ := uncons_elim g1_1
  obtain ⟨a1_1, l1_1, c1_1, rfl, g1_2⟩ := gSlice_elim g1_1x
  obtain ⟨rfl, g⟩ := unnil_elim g1_2
  obtain ⟨z2, e2, g2_0⟩ := gAgg_elim' g
  obtain ⟨w2_0, z2_0, rfl, g2_0x⟩ := uncons_elim g2_0
  obtain ⟨b2_0, rfl, g2_1⟩ := gBool_elim g2_0x
  obtain ⟨w2_1, z2_1, rfl, g2_1x⟩ := uncons_elim g2_1
  obtain ⟨a2_1, l2_1, c2_1, rfl, g2_2⟩ := gSlice_elim g2_1x
  obtain ⟨rfl, g⟩ := unnil_elim g2_2
  exact den_cut 2 (r := (cAt C [true, true])) (by kernel_rfl) (D2.ok R) (den_enter [(0, .int .i64 x0), (1, .agg #[.bool b1_0, .slice a1_1 l1_1 c1_1]), (2, .agg #[.bool b2_0, .slice a2_1 l2_1 c2_1])] ⟨e0, e1, e2, trivial⟩ (by kernel_rfl) g)
def t (x0 : Int) (b1_0 : Bool) (a1_1 : Option Addr) (l1_1 : Nat) (c1_1 : Nat) (b2_0 : Bool) (a2_1 : Option Addr) (l2_1 : Nat) (c2_1 : Nat) (h : Hp) (R : Rt) : Prop := D1.t R x0 b1_0 a1_1 l1_1 c1_1 b2_0 a2_1 l2_1 c2_1 h
theorem ok {x0 : Int} {b1_0 : Bool} {a1_1 : Option Addr} {l1_1 : Nat} {c1_1 : Nat} {b2_0 : Bool} {a2_1 : Option Addr} {l2_1 : Nat} {c2_1 : Nat} {h : Hp} {R : Rt} (g : t x0 b1_0 a1_1 l1_1 c1_1 b2_0 a2_1 l2_1 c2_1 h R) : HC id #[.int .i64 x0, .agg #[.bool b1_0, .slice a1_1 l1_1 c1_1], .agg #[.bool b2_0, .slice a2_1 l2_1 c2_1]] h R :=
  calls_of_den' envOk (c := C) (rs := [.cell 6 28, .tmp 7]) Tryz.func60 (by kernel_rfl) (by kernel_rfl) (by kernel_rfl) (args := [.int .i64 x0, .agg #[.bool b1_0, .slice a1_1 l1_1 c1_1], .agg #[.bool b2_0, .slice a2_1 l2_1 c2_1]]) (by kernel_rfl) (D1.ok R _ h (gInt_intro rfl (gAgg_intro rfl (uncons_intro (gBool_intro rfl (uncons_intro (gSlice_intro rfl (unnil_intro (gAgg_intro rfl (uncons_intro (gBool_intro rfl (uncons_intro (gSlice_intro rfl (unnil_intro (g)))))))))))))))
end gnomonref04_DocTwo






end Go.Proofs.YtanlcacaihdceaaGreatDoor.G
