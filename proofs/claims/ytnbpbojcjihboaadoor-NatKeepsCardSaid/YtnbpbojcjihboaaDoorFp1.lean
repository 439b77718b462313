/- Functions of the translation as predicates over heaps, and that their calls do so. Written by a program of this work. -/
import Derived.Test.YtnbpbojcjihboaaDoorEnv
namespace Go.Proofs.YtnbpbojcjihboaaDoor.G
open Go.Gv
set_option linter.unusedVariables false
set_option maxRecDepth 100000
namespace gnomonlaw01_twin
noncomputable def C : Code := bodyOf Tryd.f41
def D1.t (R : Rt) (x0_0 : Int) (a0_1 : Option Addr) (l0_1 : Nat) (c0_1 : Nat) (a0_2 : Option Addr) (l0_2 : Nat) (c0_2 : Nat) (x0_3 : Int) (x0_4 : Int) (h : Hp) : Prop :=
  boxK h 43 [.int .i64 x0_0, .slice a0_1 l0_1 c0_1, .slice a0_2 l0_2 c0_2, .int .i64 x0_3, .int .u64 x0_4] fun q1 h2 =>
  boxK h2 43 T43.zs fun q3 h4 =>
  ldK h4 (q1.add 1) fun v5 =>
  gSlice v5 fun a_6 l_6 c_6 =>
  HC gnomonref01_Twin.id #[.slice a_6 l_6 c_6] h4 fun v7 h8 =>
  gSlice v7 fun a_9 l_9 c_9 =>
  stK h8 (q1.add 1) (.slice a_9 l_9 c_9) fun h10 =>
  ldK h10 (q1.add 2) fun v11 =>
  gSlice v11 fun a_12 l_12 c_12 =>
  HC gnomonref01_Twin.id #[.slice a_12 l_12 c_12] h10 fun v13 h14 =>
  gSlice v13 fun a_15 l_15 c_15 =>
  stK h14 (q1.add 2) (.slice a_15 l_15 c_15) fun h16 =>
  ldK h16 (q1.add 0) fun v17 =>
  gInt .i64 v17 fun x_18 =>
  ldK h16 (q1.add 1) fun v19 =>
  gSlice v19 fun a_20 l_20 c_20 =>
  ldK h16 (q1.add 2) fun v21 =>
  gSlice v21 fun a_22 l_22 c_22 =>
  ldK h16 (q1.add 3) fun v23 =>
  gInt .i64 v23 fun x_24 =>
  ldK h16 (q1.add 4) fun v25 =>
  gInt .u64 v25 fun x_26 =>
  stK h16 (q3.add 0) (.int .i64 x_18) fun h27 =>
  stK h27 (q3.add 1) (.slice a_20 l_20 c_20) fun h28 =>
  stK h28 (q3.add 2) (.slice a_22 l_22 c_22) fun h29 =>
  stK h29 (q3.add 3) (.int .i64 x_24) fun h30 =>
  stK h30 (q3.add 4) (.int .u64 x_26) fun h31 =>
  ldK h31 (q3.add 0) fun v32 =>
  gInt .i64 v32 fun x_33 =>
  ldK h31 (q3.add 1) fun v34 =>
  gSlice v34 fun a_35 l_35 c_35 =>
  ldK h31 (q3.add 2) fun v36 =>
  gSlice v36 fun a_37 l_37 c_37 =>
  ldK h31 (q3.add 3) fun v38 =>
  gInt .i64 v38 fun x_39 =>
  ldK h31 (q3.add 4) fun v40 =>
  gInt .u64 v40 fun x_41 =>
  R (.agg #[.int .i64 x_33, .slice a_35 l_35 c_35, .slice a_37 l_37 c_37, .int .i64 x_39, .int .u64 x_41]) h31
def D1.g (R : Rt) (fr : Fr) (h : Hp) : Prop := gAgg (fr 0) fun z0 => uncons z0 fun w0_0 z0_0 => gInt .i64 w0_0 fun x0_0 => uncons z0_0 fun w0_1 z0_1 => gSlice w0_1 fun a0_1 l0_1 c0_1 => uncons z0_1 fun w0_2 z0_2 => gSlice w0_2 fun a0_2 l0_2 c0_2 => uncons z0_2 fun w0_3 z0_3 => gInt .i64 w0_3 fun x0_3 => uncons z0_3 fun w0_4 z0_4 => gInt .u64 w0_4 fun x0_4 => unnil z0_4 <| D1.t R x0_0 a0_1 l0_1 c0_1 a0_2 l0_2 c0_2 x0_3 x0_4 h
theorem D1.ok (R : Rt) (fr : Fr) (h : Hp) (g : D1.g R fr h) : den prog E C (retQ E [.cell 2 43] R) fr h := by
  obtain ⟨z0, e0, g0_0⟩ := gAgg_elim' g
  obtain ⟨w0_0, z0_0, rfl, g0_0x⟩ := uncons_elim g0_0
  obtain ⟨x0_0, rfl, g0_1⟩ := gInt_elim g0_0x
  obtain ⟨w0_1, z0_1, rfl, g0_1x⟩ := uncons_elim g0_1
  obtain ⟨a0_1, l0_1, c0_1, rfl, g0_2⟩ := gSlice_elim g0_1x
  obtain ⟨w0_2, z0_2, rfl, g0_2x⟩ := uncons_elim g0_2
  obtain ⟨a0_2, l0_2, c0_2, rfl, g0_3⟩ := gSlice_elim g0_2x
  obtain ⟨w0_3, z0_3, rfl, g0_3x⟩ := uncons_elim g0_3
  obtain ⟨x0_3, rfl, g0_4⟩ := gInt_elim g0_3x
  obtain ⟨w0_4, z0_4, rfl, g0_4x⟩ := uncons_elim g0_4
  obtain ⟨x0_4, rfl, g0_5⟩ := gInt_elim g0_4x
  obtain ⟨rfl, g⟩ := unnil_elim g0_5
  exact den_enter [(0, .agg #[.int .i64 x0_0, .slice a0_1 l0_1 c0_1, .slice a0_2 l0_2 c0_2, .int .i64 x0_3, .int .u64 x0_4])] ⟨e0, trivial⟩ (by kernel_rfl) g
def t (x0_0 : Int) (a0_1 : Option Addr) (l0_1 : Nat) (c0_1 : Nat) (a0_2 : Option Addr) (l0_2 : Nat) (c0_2 : Nat) (x0_3 : Int) (x0_4 : Int) (h : Hp) (R : Rt) : Prop := D1.t R x0_0 a0_1 l0_1 c0_1 a0_2 l0_2 c0_2 x0_3 x0_4 h
theorem ok {x0_0 : Int} {a0_1 : Option Addr} {l0_1 : Nat} {c0_1 : Nat} {a0_2 : Option Addr} {l0_2 : Nat} {c0_2 : Nat} {x0_3 : Int} {x0_4 : Int} {h : Hp} {R : Rt} (g : t x0_0 a0_1 l0_1 c0_1 a0_2 l0_2 c0_2 x0_3 x0_4 h R) : HC id #[.agg #[.int .i64 x0_0, .slice a0_1 l0_1 c0_1, .slice a0_2 l0_2 c0_2, .int .i64 x0_3, .int .u64 x0_4]] h R :=
  calls_of_den' envOk (c := C) (rs := [.cell 2 43]) Tryd.func41 (by kernel_rfl) (by kernel_rfl) (by kernel_rfl) (args := [.agg #[.int .i64 x0_0, .slice a0_1 l0_1 c0_1, .slice a0_2 l0_2 c0_2, .int .i64 x0_3, .int .u64 x0_4]]) (by kernel_rfl) (D1.ok R _ h (gAgg_intro rfl (uncons_intro (gInt_intro rfl (uncons_intro (gSlice_intro rfl (uncons_intro (gSlice_intro rfl (uncons_intro (gInt_intro rfl (uncons_intro (gInt_intro rfl (unnil_intro (g))))))))))))))
end gnomonlaw01_twin

namespace gnomonref01_Over
noncomputable def C : Code := bodyOf Tryd.f42
def L2.g (N : Option Addr → Nat → Nat → Int → Hp → Prop) (fr : Fr) (h : Hp) : Prop := gSlice (fr 0) fun a0 l0 c0 => gInt .i64 (fr 2) fun x2 => N a0 l0 c0 x2 h
def D3.t (R : Rt) (N2 : Option Addr → Nat → Nat → Int → Hp → Prop) (a0 : Option Addr) (l0 : Nat) (c0 : Nat) (x2 : Int) (h : Hp) : Prop :=
  cond (decide (x2 < (((l0 : Nat) : Int)))) (HQC gnomonref01_mark.id #[.int .i64 (-2), .int .i64 x2] h fun v1 =>
  gInt .u64 v1 fun x_2 =>
  letK (notI .u64 x_2) fun n3 =>
  idxK a0 l0 x2 1 fun q4 =>
  stK h q4 (.int .u64 n3) fun h5 =>
  letK (IntKind.i64.wrap (x2 + 1)) fun n6 =>
  N2 a0 l0 c0 n6 h5) (R (.tuple #[]) h)
def D3.g (R : Rt) (N2 : Option Addr → Nat → Nat → Int → Hp → Prop) (fr : Fr) (h : Hp) : Prop := gSlice (fr 0) fun a0 l0 c0 => gInt .i64 (fr 2) fun x2 => D3.t R N2 a0 l0 c0 x2 h
theorem D3.ok (R : Rt) (N2 : Option Addr → Nat → Nat → Int → Hp → Prop) (fr : Fr) (h : Hp) (g : D3.g R N2 fr h) : den prog E (cAt C [true, false, false]) (Ex.then (L2.g N2) (Ex.inBlock 0 (retQ E [] R))) fr h := by
  obtain ⟨a0, l0, c0, e0, g⟩ := gSlice_elim g
  obtain ⟨x2, e2, g⟩ := gInt_elim g
  exact den_enter [(0, .slice a0 l0 c0), (2, .int .i64 x2)] ⟨e0, e2, trivial⟩ (by kernel_rfl) g
def L2.t (R : Rt) : Nat → Option Addr → Nat → Nat → Int → Hp → Prop
  | 0 => fun _ _ _ _ _ => False
  | n + 1 => fun a0 l0 c0 x2 h => D3.t R (L2.t R n) a0 l0 c0 x2 h
theorem L2.ok (R : Rt) (fr : Fr) (h : Hp) (g : L2.g (fun a0 l0 c0 x2 h => ∃ n, L2.t R n a0 l0 c0 x2 h) fr h) : den prog E (cAt C [true, false]) (Ex.inBlock 0 (retQ E [] R)) fr h := by
  obtain ⟨a0, l0, c0, e0, g⟩ := gSlice_elim g
  obtain ⟨x2, e2, g⟩ := gInt_elim g
  obtain ⟨n, g⟩ := g
  refine loop_ok (fun n => L2.g (L2.t R n)) (b := (cAt C [true, false, false])) (by kernel_rfl) (fun fr h g => ?_) (fun n => D3.ok R (L2.t R n)) n fr h (gSlice_intro e0 (gInt_intro e2 (g)))
  obtain ⟨a0, l0, c0, e0, g⟩ := gSlice_elim g
  obtain ⟨x2, e2, g⟩ := gInt_elim g
  exact g
theorem B4.ok (R : Rt) (fr : Fr) (h : Hp) (g : L2.g (fun a0 l0 c0 x2 h => ∃ n, L2.t R n a0 l0 c0 x2 h) fr h) : den prog E (cAt C [true]) (retQ E [] R) fr h :=
  den_block (by kernel_rfl) (L2.ok R fr h g)
def D1.t (R : Rt) (a0 : Option Addr) (l0 : Nat) (c0 : Nat) (h : Hp) : Prop :=
  (∃ n, L2.t R n a0 l0 c0 0 h)
def D1.g (R : Rt) (fr : Fr) (h : Hp) : Prop := gSlice (fr 0) fun a0 l0 c0 => D1.t R a0 l0 c0 h
theorem D1.ok (R : Rt) (fr : Fr) (h : Hp) (g : D1.g R fr h) : den prog E C (retQ E [] R) fr h := by
  obtain ⟨a0, l0, c0, e0, g⟩ := gSlice_elim g
  exact den_cut 1 (r := (cAt C [true])) (by kernel_rfl) (B4.ok R) (den_enter [(0, .slice a0 l0 c0)] ⟨e0, trivial⟩ (by kernel_rfl) g)
def t (a0 : Option Addr) (l0 : Nat) (c0 : Nat) (h : Hp) (R : Rt) : Prop := D1.t R a0 l0 c0 h
theorem ok {a0 : Option Addr} {l0 : Nat} {c0 : Nat} {h : Hp} {R : Rt} (g : t a0 l0 c0 h R) : HC id #[.slice a0 l0 c0] h R :=
  calls_of_den' envOk (c := C) (rs := []) Tryd.func42 (by kernel_rfl) (by kernel_rfl) (by kernel_rfl) (args := [.slice a0 l0 c0]) (by kernel_rfl) (D1.ok R _ h (gSlice_intro rfl (g)))
end gnomonref01_Over

namespace gnomonref01_Apart
noncomputable def C : Code := bodyOf Tryd.f43
def D3.t (R : Rt)  (h : Hp) : Prop :=
  R (.bool true) h
def D3.g (R : Rt) (fr : Fr) (h : Hp) : Prop := D3.t R  h
theorem D3.ok (R : Rt) (fr : Fr) (h : Hp) (g : D3.g R fr h) : den prog E (cAt C [true, true, true, true, true, true, true]) (retQ E [.tmp 2] R) fr h := by
  exact den_enter [] trivial (by kernel_rfl) g
def L5.g (N : Option Addr → Nat → Nat → Int → Hp → Prop) (fr : Fr) (h : Hp) : Prop := gSlice (fr 0) fun a0 l0 c0 => gInt .i64 (fr 14) fun x14 => N a0 l0 c0 x14 h
def D7.t (R : Rt) (N5 : Option Addr → Nat → Nat → Int → Hp → Prop) (a0 : Option Addr) (l0 : Nat) (c0 : Nat) (x14 : Int) (h : Hp) : Prop :=
  letK (IntKind.i64.wrap (x14 + 1)) fun n1 => N5 a0 l0 c0 n1 h
def D7.g (R : Rt) (N5 : Option Addr → Nat → Nat → Int → Hp → Prop) (fr : Fr) (h : Hp) : Prop := gSlice (fr 0) fun a0 l0 c0 => gInt .i64 (fr 14) fun x14 => D7.t R N5 a0 l0 c0 x14 h
theorem D7.ok (R : Rt) (N5 : Option Addr → Nat → Nat → Int → Hp → Prop) (fr : Fr) (h : Hp) (g : D7.g R N5 fr h) : den prog E (cAt C [true, true, true, true, true, true, false, true, false, false, true, true]) (Ex.then (L5.g N5) (Ex.inBlock 16 (Ex.then (D3.g R) (retQ E [.tmp 2] R)))) fr h := by
  obtain ⟨a0, l0, c0, e0, g⟩ := gSlice_elim g
  obtain ⟨x14, e14, g⟩ := gInt_elim g
  exact den_enter [(0, .slice a0 l0 c0), (14, .int .i64 x14)] ⟨e0, e14, trivial⟩ (by kernel_rfl) g
def L9.g (N : Option Addr → Nat → Nat → Int → Int → Hp → Prop) (fr : Fr) (h : Hp) : Prop := gSlice (fr 0) fun a0 l0 c0 => gInt .i64 (fr 14) fun x14 => gInt .i64 (fr 15) fun x15 => N a0 l0 c0 x14 x15 h
def D10.t (R : Rt) (N5 : Option Addr → Nat → Nat → Int → Hp → Prop) (N9 : Option Addr → Nat → Nat → Int → Int → Hp → Prop) (a0 : Option Addr) (l0 : Nat) (c0 : Nat) (x14 : Int) (x15 : Int) (h : Hp) : Prop :=
  idxK a0 l0 x14 1 fun q2 =>
  ldK h q2 fun v3 =>
  gSlice v3 fun a_4 l_4 c_4 =>
  cond (decide (x15 < (((l_4 : Nat) : Int)))) (idxK a0 l0 x14 1 fun q5 =>
  ldK h q5 fun v6 =>
  gSlice v6 fun a_7 l_7 c_7 =>
  idxK a_7 l_7 x15 1 fun q8 =>
  ldK h q8 fun v9 =>
  gInt .u64 v9 fun x_10 =>
  HQC gnomonref01_mark.id #[.int .i64 x14, .int .i64 x15] h fun v11 =>
  gInt .u64 v11 fun x_12 =>
  cond (x_10 != x_12) (R (.bool false) h) (letK (IntKind.i64.wrap (x15 + 1)) fun n13 =>
  N9 a0 l0 c0 x14 n13 h)) (D7.t R N5 a0 l0 c0 x14 h)
def D10.g (R : Rt) (N5 : Option Addr → Nat → Nat → Int → Hp → Prop) (N9 : Option Addr → Nat → Nat → Int → Int → Hp → Prop) (fr : Fr) (h : Hp) : Prop := gSlice (fr 0) fun a0 l0 c0 => gInt .i64 (fr 14) fun x14 => gInt .i64 (fr 15) fun x15 => D10.t R N5 N9 a0 l0 c0 x14 x15 h
theorem D10.ok (R : Rt) (N5 : Option Addr → Nat → Nat → Int → Hp → Prop) (N9 : Option Addr → Nat → Nat → Int → Int → Hp → Prop) (fr : Fr) (h : Hp) (g : D10.g R N5 N9 fr h) : den prog E (cAt C [true, true, true, true, true, true, false, true, false, false, true, false, false, true, false, false]) (Ex.then (L9.g N9) (Ex.inBlock 18 (Ex.inBlock 17 (Ex.then (D7.g R N5) (Ex.then (L5.g N5) (Ex.inBlock 16 (Ex.then (D3.g R) (retQ E [.tmp 2] R)))))))) fr h := by
  obtain ⟨a0, l0, c0, e0, g⟩ := gSlice_elim g
  obtain ⟨x14, e14, g⟩ := gInt_elim g
  obtain ⟨x15, e15, g⟩ := gInt_elim g
  exact den_enter [(0, .slice a0 l0 c0), (14, .int .i64 x14), (15, .int .i64 x15)] ⟨e0, e14, e15, trivial⟩ (by kernel_rfl) g
def L9.t (R : Rt) (N5 : Option Addr → Nat → Nat → Int → Hp → Prop) : Nat → Option Addr → Nat → Nat → Int → Int → Hp → Prop
  | 0 => fun _ _ _ _ _ _ => False
  | n + 1 => fun a0 l0 c0 x14 x15 h => D10.t R N5 (L9.t R N5 n) a0 l0 c0 x14 x15 h
theorem L9.ok (R : Rt) (N5 : Option Addr → Nat → Nat → Int → Hp → Prop) (fr : Fr) (h : Hp) (g : L9.g (fun a0 l0 c0 x14 x15 h => ∃ n, L9.t R N5 n a0 l0 c0 x14 x15 h) fr h) : den prog E (cAt C [true, true, true, true, true, true, false, true, false, false, true, false, false, true, false]) (Ex.inBlock 18 (Ex.inBlock 17 (Ex.then (D7.g R N5) (Ex.then (L5.g N5) (Ex.inBlock 16 (Ex.then (D3.g R) (retQ E [.tmp 2] R))))))) fr h := by
  obtain ⟨a0, l0, c0, e0, g⟩ := gSlice_elim g
  obtain ⟨x14, e14, g⟩ := gInt_elim g
  obtain ⟨x15, e15, g⟩ := gInt_elim g
  obtain ⟨n, g⟩ := g
  refine loop_ok (fun n => L9.g (L9.t R N5 n)) (b := (cAt C [true, true, true, true, true, true, false, true, false, false, true, false, false, true, false, false])) (by kernel_rfl) (fun fr h g => ?_) (fun n => D10.ok R N5 (L9.t R N5 n)) n fr h (gSlice_intro e0 (gInt_intro e14 (gInt_intro e15 (g))))
  obtain ⟨a0, l0, c0, e0, g⟩ := gSlice_elim g
  obtain ⟨x14, e14, g⟩ := gInt_elim g
  obtain ⟨x15, e15, g⟩ := gInt_elim g
  exact g
theorem B11.ok (R : Rt) (N5 : Option Addr → Nat → Nat → Int → Hp → Prop) (fr : Fr) (h : Hp) (g : L9.g (fun a0 l0 c0 x14 x15 h => ∃ n, L9.t R N5 n a0 l0 c0 x14 x15 h) fr h) : den prog E (cAt C [true, true, true, true, true, true, false, true, false, false, true, false, false, true]) (Ex.inBlock 17 (Ex.then (D7.g R N5) (Ex.then (L5.g N5) (Ex.inBlock 16 (Ex.then (D3.g R) (retQ E [.tmp 2] R)))))) fr h :=
  den_block (by kernel_rfl) (L9.ok R N5 fr h g)
def D8.t (R : Rt) (N5 : Option Addr → Nat → Nat → Int → Hp → Prop) (a0 : Option Addr) (l0 : Nat) (c0 : Nat) (x14 : Int) (h : Hp) : Prop :=
  (∃ n, L9.t R N5 n a0 l0 c0 x14 0 h)
def D8.g (R : Rt) (N5 : Option Addr → Nat → Nat → Int → Hp → Prop) (fr : Fr) (h : Hp) : Prop := gSlice (fr 0) fun a0 l0 c0 => gInt .i64 (fr 14) fun x14 => D8.t R N5 a0 l0 c0 x14 h
theorem D8.ok (R : Rt) (N5 : Option Addr → Nat → Nat → Int → Hp → Prop) (fr : Fr) (h : Hp) (g : D8.g R N5 fr h) : den prog E (cAt C [true, true, true, true, true, true, false, true, false, false, true, false, false]) (Ex.inBlock 17 (Ex.then (D7.g R N5) (Ex.then (L5.g N5) (Ex.inBlock 16 (Ex.then (D3.g R) (retQ E [.tmp 2] R)))))) fr h := by
  obtain ⟨a0, l0, c0, e0, g⟩ := gSlice_elim g
  obtain ⟨x14, e14, g⟩ := gInt_elim g
  exact den_cut 1 (r := (cAt C [true, true, true, true, true, true, false, true, false, false, true, false, false, true])) (by kernel_rfl) (B11.ok R N5) (den_enter [(0, .slice a0 l0 c0), (14, .int .i64 x14)] ⟨e0, e14, trivial⟩ (by kernel_rfl) g)
theorem B12.ok (R : Rt) (N5 : Option Addr → Nat → Nat → Int → Hp → Prop) (fr : Fr) (h : Hp) (g : D8.g R N5 fr h) : den prog E (cAt C [true, true, true, true, true, true, false, true, false, false, true, false]) (Ex.then (D7.g R N5) (Ex.then (L5.g N5) (Ex.inBlock 16 (Ex.then (D3.g R) (retQ E [.tmp 2] R))))) fr h :=
  den_block (by kernel_rfl) (D8.ok R N5 fr h g)
theorem W13.ok (R : Rt) (N5 : Option Addr → Nat → Nat → Int → Hp → Prop) (fr : Fr) (h : Hp) (g : D8.g R N5 fr h) : den prog E (cAt C [true, true, true, true, true, true, false, true, false, false, true]) (Ex.then (L5.g N5) (Ex.inBlock 16 (Ex.then (D3.g R) (retQ E [.tmp 2] R)))) fr h :=
  den_then (by kernel_rfl) (D7.ok R N5) (B12.ok R N5 fr h g)
def D6.t (R : Rt) (N5 : Option Addr → Nat → Nat → Int → Hp → Prop) (a0 : Option Addr) (l0 : Nat) (c0 : Nat) (x14 : Int) (h : Hp) : Prop :=
  cond (decide (x14 < (((l0 : Nat) : Int)))) (D8.t R N5 a0 l0 c0 x14 h) (D3.t R h)
def D6.g (R : Rt) (N5 : Option Addr → Nat → Nat → Int → Hp → Prop) (fr : Fr) (h : Hp) : Prop := gSlice (fr 0) fun a0 l0 c0 => gInt .i64 (fr 14) fun x14 => D6.t R N5 a0 l0 c0 x14 h
theorem D6.ok (R : Rt) (N5 : Option Addr → Nat → Nat → Int → Hp → Prop) (fr : Fr) (h : Hp) (g : D6.g R N5 fr h) : den prog E (cAt C [true, true, true, true, true, true, false, true, false, false]) (Ex.then (L5.g N5) (Ex.inBlock 16 (Ex.then (D3.g R) (retQ E [.tmp 2] R)))) fr h := by
  obtain ⟨a0, l0, c0, e0, g⟩ := gSlice_elim g
  obtain ⟨x14, e14, g⟩ := gInt_elim g
  exact den_cut 1 (r := (cAt C [true, true, true, true, true, true, false, true, false, false, true])) (by kernel_rfl) (W13.ok R N5) (den_enter [(0, .slice a0 l0 c0), (14, .int .i64 x14)] ⟨e0, e14, trivial⟩ (by kernel_rfl) g)
def L5.t (R : Rt) : Nat → Option Addr → Nat → Nat → Int → Hp → Prop
  | 0 => fun _ _ _ _ _ => False
  | n + 1 => fun a0 l0 c0 x14 h => D6.t R (L5.t R n) a0 l0 c0 x14 h
theorem L5.ok (R : Rt) (fr : Fr) (h : Hp) (g : L5.g (fun a0 l0 c0 x14 h => ∃ n, L5.t R n a0 l0 c0 x14 h) fr h) : den prog E (cAt C [true, true, true, true, true, true, false, true, false]) (Ex.inBlock 16 (Ex.then (D3.g R) (retQ E [.tmp 2] R))) fr h := by
  obtain ⟨a0, l0, c0, e0, g⟩ := gSlice_elim g
  obtain ⟨x14, e14, g⟩ := gInt_elim g
  obtain ⟨n, g⟩ := g
  refine loop_ok (fun n => L5.g (L5.t R n)) (b := (cAt C [true, true, true, true, true, true, false, true, false, false])) (by kernel_rfl) (fun fr h g => ?_) (fun n => D6.ok R (L5.t R n)) n fr h (gSlice_intro e0 (gInt_intro e14 (g)))
  obtain ⟨a0, l0, c0, e0, g⟩ := gSlice_elim g
  obtain ⟨x14, e14, g⟩ := gInt_elim g
  exact g
theorem B14.ok (R : Rt) (fr : Fr) (h : Hp) (g : L5.g (fun a0 l0 c0 x14 h => ∃ n, L5.t R n a0 l0 c0 x14 h) fr h) : den prog E (cAt C [true, true, true, true, true, true, false, true]) (Ex.then (D3.g R) (retQ E [.tmp 2] R)) fr h :=
  den_block (by kernel_rfl) (L5.ok R fr h g)
def D4.t (R : Rt) (a0 : Option Addr) (l0 : Nat) (c0 : Nat) (h : Hp) : Prop :=
  (∃ n, L5.t R n a0 l0 c0 0 h)
def D4.g (R : Rt) (fr : Fr) (h : Hp) : Prop := gSlice (fr 0) fun a0 l0 c0 => D4.t R a0 l0 c0 h
theorem D4.ok (R : Rt) (fr : Fr) (h : Hp) (g : D4.g R fr h) : den prog E (cAt C [true, true, true, true, true, true, false]) (Ex.then (D3.g R) (retQ E [.tmp 2] R)) fr h := by
  obtain ⟨a0, l0, c0, e0, g⟩ := gSlice_elim g
  exact den_cut 1 (r := (cAt C [true, true, true, true, true, true, false, true])) (by kernel_rfl) (B14.ok R) (den_enter [(0, .slice a0 l0 c0)] ⟨e0, trivial⟩ (by kernel_rfl) g)
theorem W15.ok (R : Rt) (fr : Fr) (h : Hp) (g : D4.g R fr h) : den prog E (cAt C [true, true, true, true, true, true]) (retQ E [.tmp 2] R) fr h :=
  den_then (by kernel_rfl) (D3.ok R) (D4.ok R fr h g)
def L17.g (N : Option Addr → Nat → Nat → Option Addr → Nat → Nat → Int → Hp → Prop) (fr : Fr) (h : Hp) : Prop := gSlice (fr 0) fun a0 l0 c0 => gSlice (fr 5) fun a5 l5 c5 => gInt .i64 (fr 12) fun x12 => N a0 l0 c0 a5 l5 c5 x12 h
def D19.t (R : Rt) (N17 : Option Addr → Nat → Nat → Option Addr → Nat → Nat → Int → Hp → Prop) (a0 : Option Addr) (l0 : Nat) (c0 : Nat) (a5 : Option Addr) (l5 : Nat) (c5 : Nat) (x12 : Int) (h : Hp) : Prop :=
  letK (IntKind.i64.wrap (x12 + 1)) fun n14 => N17 a0 l0 c0 a5 l5 c5 n14 h
def D19.g (R : Rt) (N17 : Option Addr → Nat → Nat → Option Addr → Nat → Nat → Int → Hp → Prop) (fr : Fr) (h : Hp) : Prop := gSlice (fr 0) fun a0 l0 c0 => gSlice (fr 5) fun a5 l5 c5 => gInt .i64 (fr 12) fun x12 => D19.t R N17 a0 l0 c0 a5 l5 c5 x12 h
theorem D19.ok (R : Rt) (N17 : Option Addr → Nat → Nat → Option Addr → Nat → Nat → Int → Hp → Prop) (fr : Fr) (h : Hp) (g : D19.g R N17 fr h) : den prog E (cAt C [true, true, true, true, true, false, true, false, false, true, true]) (Ex.then (L17.g N17) (Ex.inBlock 12 (Ex.then (D4.g R) (retQ E [.tmp 2] R)))) fr h := by
  obtain ⟨a0, l0, c0, e0, g⟩ := gSlice_elim g
  obtain ⟨a5, l5, c5, e5, g⟩ := gSlice_elim g
  obtain ⟨x12, e12, g⟩ := gInt_elim g
  exact den_enter [(0, .slice a0 l0 c0), (5, .slice a5 l5 c5), (12, .int .i64 x12)] ⟨e0, e5, e12, trivial⟩ (by kernel_rfl) g
def L21.g (N : Option Addr → Nat → Nat → Option Addr → Nat → Nat → Int → Int → Hp → Prop) (fr : Fr) (h : Hp) : Prop := gSlice (fr 0) fun a0 l0 c0 => gSlice (fr 5) fun a5 l5 c5 => gInt .i64 (fr 12) fun x12 => gInt .i64 (fr 13) fun x13 => N a0 l0 c0 a5 l5 c5 x12 x13 h
def D22.t (R : Rt) (N17 : Option Addr → Nat → Nat → Option Addr → Nat → Nat → Int → Hp → Prop) (N21 : Option Addr → Nat → Nat → Option Addr → Nat → Nat → Int → Int → Hp → Prop) (a0 : Option Addr) (l0 : Nat) (c0 : Nat) (a5 : Option Addr) (l5 : Nat) (c5 : Nat) (x12 : Int) (x13 : Int) (h : Hp) : Prop :=
  idxK a5 l5 x12 1 fun q15 =>
  ldK h q15 fun v16 =>
  gSlice v16 fun a_17 l_17 c_17 =>
  cond (decide (x13 < (((l_17 : Nat) : Int)))) (idxK a5 l5 x12 1 fun q18 =>
  ldK h q18 fun v19 =>
  gSlice v19 fun a_20 l_20 c_20 =>
  idxK a_20 l_20 x13 1 fun q21 =>
  ldK h q21 fun v22 =>
  gInt .u64 v22 fun x_23 =>
  (((l0 : Nat) : Int)) ≠ 0 ∧ letK (Int.tmod x12 (((l0 : Nat) : Int))) fun n24 =>
  HQC gnomonref01_mark.id #[.int .i64 n24, .int .i64 x13] h fun v25 =>
  gInt .u64 v25 fun x_26 =>
  cond (x_23 != x_26) (R (.bool false) h) (letK (IntKind.i64.wrap (x13 + 1)) fun n27 =>
  N21 a0 l0 c0 a5 l5 c5 x12 n27 h)) (D19.t R N17 a0 l0 c0 a5 l5 c5 x12 h)
def D22.g (R : Rt) (N17 : Option Addr → Nat → Nat → Option Addr → Nat → Nat → Int → Hp → Prop) (N21 : Option Addr → Nat → Nat → Option Addr → Nat → Nat → Int → Int → Hp → Prop) (fr : Fr) (h : Hp) : Prop := gSlice (fr 0) fun a0 l0 c0 => gSlice (fr 5) fun a5 l5 c5 => gInt .i64 (fr 12) fun x12 => gInt .i64 (fr 13) fun x13 => D22.t R N17 N21 a0 l0 c0 a5 l5 c5 x12 x13 h
theorem D22.ok (R : Rt) (N17 : Option Addr → Nat → Nat → Option Addr → Nat → Nat → Int → Hp → Prop) (N21 : Option Addr → Nat → Nat → Option Addr → Nat → Nat → Int → Int → Hp → Prop) (fr : Fr) (h : Hp) (g : D22.g R N17 N21 fr h) : den prog E (cAt C [true, true, true, true, true, false, true, false, false, true, false, false, true, false, false]) (Ex.then (L21.g N21) (Ex.inBlock 14 (Ex.inBlock 13 (Ex.then (D19.g R N17) (Ex.then (L17.g N17) (Ex.inBlock 12 (Ex.then (D4.g R) (retQ E [.tmp 2] R)))))))) fr h := by
  obtain ⟨a0, l0, c0, e0, g⟩ := gSlice_elim g
  obtain ⟨a5, l5, c5, e5, g⟩ := gSlice_elim g
  obtain ⟨x12, e12, g⟩ := gInt_elim g
  obtain ⟨x13, e13, g⟩ := gInt_elim g
  exact den_enter [(0, .slice a0 l0 c0), (5, .slice a5 l5 c5), (12, .int .i64 x12), (13, .int .i64 x13)] ⟨e0, e5, e12, e13, trivial⟩ (by kernel_rfl) g
def L21.t (R : Rt) (N17 : Option Addr → Nat → Nat → Option Addr → Nat → Nat → Int → Hp → Prop) : Nat → Option Addr → Nat → Nat → Option Addr → Nat → Nat → Int → Int → Hp → Prop
  | 0 => fun _ _ _ _ _ _ _ _ _ => False
  | n + 1 => fun a0 l0 c0 a5 l5 c5 x12 x13 h => D22.t R N17 (L21.t R N17 n) a0 l0 c0 a5 l5 c5 x12 x13 h
theorem L21.ok (R : Rt) (N17 : Option Addr → Nat → Nat → Option Addr → Nat → Nat → Int → Hp → Prop) (fr : Fr) (h : Hp) (g : L21.g (fun a0 l0 c0 a5 l5 c5 x12 x13 h => ∃ n, L21.t R N17 n a0 l0 c0 a5 l5 c5 x12 x13 h) fr h) : den prog E (cAt C [true, true, true, true, true, false, true, false, false, true, false, false, true, false]) (Ex.inBlock 14 (Ex.inBlock 13 (Ex.then (D19.g R N17) (Ex.then (L17.g N17) (Ex.inBlock 12 (Ex.then (D4.g R) (retQ E [.tmp 2] R))))))) fr h := by
  obtain ⟨a0, l0, c0, e0, g⟩ := gSlice_elim g
  obtain ⟨a5, l5, c5, e5, g⟩ := gSlice_elim g
  obtain ⟨x12, e12, g⟩ := gInt_elim g
  obtain ⟨x13, e13, g⟩ := gInt_elim g
  obtain ⟨n, g⟩ := g
  refine loop_ok (fun n => L21.g (L21.t R N17 n)) (b := (cAt C [true, true, true, true, true, false, true, false, false, true, false, false, true, false, false])) (by kernel_rfl) (fun fr h g => ?_) (fun n => D22.ok R N17 (L21.t R N17 n)) n fr h (gSlice_intro e0 (gSlice_intro e5 (gInt_intro e12 (gInt_intro e13 (g)))))
  obtain ⟨a0, l0, c0, e0, g⟩ := gSlice_elim g
  obtain ⟨a5, l5, c5, e5, g⟩ := gSlice_elim g
  obtain ⟨x12, e12, g⟩ := gInt_elim g
  obtain ⟨x13, e13, g⟩ := gInt_elim g
  exact g
theorem B23.ok (R : Rt) (N17 : Option Addr → Nat → Nat → Option Addr → Nat → Nat → Int → Hp → Prop) (fr : Fr) (h : Hp) (g : L21.g (fun a0 l0 c0 a5 l5 c5 x12 x13 h => ∃ n, L21.t R N17 n a0 l0 c0 a5 l5 c5 x12 x13 h) fr h) : den prog E (cAt C [true, true, true, true, true, false, true, false, false, true, false, false, true]) (Ex.inBlock 13 (Ex.then (D19.g R N17) (Ex.then (L17.g N17) (Ex.inBlock 12 (Ex.then (D4.g R) (retQ E [.tmp 2] R)))))) fr h :=
  den_block (by kernel_rfl) (L21.ok R N17 fr h g)
def D20.t (R : Rt) (N17 : Option Addr → Nat → Nat → Option Addr → Nat → Nat → Int → Hp → Prop) (a0 : Option Addr) (l0 : Nat) (c0 : Nat) (a5 : Option Addr) (l5 : Nat) (c5 : Nat) (x12 : Int) (h : Hp) : Prop :=
  (∃ n, L21.t R N17 n a0 l0 c0 a5 l5 c5 x12 0 h)
def D20.g (R : Rt) (N17 : Option Addr → Nat → Nat → Option Addr → Nat → Nat → Int → Hp → Prop) (fr : Fr) (h : Hp) : Prop := gSlice (fr 0) fun a0 l0 c0 => gSlice (fr 5) fun a5 l5 c5 => gInt .i64 (fr 12) fun x12 => D20.t R N17 a0 l0 c0 a5 l5 c5 x12 h
theorem D20.ok (R : Rt) (N17 : Option Addr → Nat → Nat → Option Addr → Nat → Nat → Int → Hp → Prop) (fr : Fr) (h : Hp) (g : D20.g R N17 fr h) : den prog E (cAt C [true, true, true, true, true, false, true, false, false, true, false, false]) (Ex.inBlock 13 (Ex.then (D19.g R N17) (Ex.then (L17.g N17) (Ex.inBlock 12 (Ex.then (D4.g R) (retQ E [.tmp 2] R)))))) fr h := by
  obtain ⟨a0, l0, c0, e0, g⟩ := gSlice_elim g
  obtain ⟨a5, l5, c5, e5, g⟩ := gSlice_elim g
  obtain ⟨x12, e12, g⟩ := gInt_elim g
  exact den_cut 1 (r := (cAt C [true, true, true, true, true, false, true, false, false, true, false, false, true])) (by kernel_rfl) (B23.ok R N17) (den_enter [(0, .slice a0 l0 c0), (5, .slice a5 l5 c5), (12, .int .i64 x12)] ⟨e0, e5, e12, trivial⟩ (by kernel_rfl) g)
theorem B24.ok (R : Rt) (N17 : Option Addr → Nat → Nat → Option Addr → Nat → Nat → Int → Hp → Prop) (fr : Fr) (h : Hp) (g : D20.g R N17 fr h) : den prog E (cAt C [true, true, true, true, true, false, true, false, false, true, false]) (Ex.then (D19.g R N17) (Ex.then (L17.g N17) (Ex.inBlock 12 (Ex.then (D4.g R) (retQ E [.tmp 2] R))))) fr h :=
  den_block (by kernel_rfl) (D20.ok R N17 fr h g)
theorem W25.ok (R : Rt) (N17 : Option Addr → Nat → Nat → Option Addr → Nat → Nat → Int → Hp → Prop) (fr : Fr) (h : Hp) (g : D20.g R N17 fr h) : den prog E (cAt C [true, true, true, true, true, false, true, false, false, true]) (Ex.then (L17.g N17) (Ex.inBlock 12 (Ex.then (D4.g R) (retQ E [.tmp 2] R)))) fr h :=
  den_then (by kernel_rfl) (D19.ok R N17) (B24.ok R N17 fr h g)
def D18.t (R : Rt) (N17 : Option Addr → Nat → Nat → Option Addr → Nat → Nat → Int → Hp → Prop) (a0 : Option Addr) (l0 : Nat) (c0 : Nat) (a5 : Option Addr) (l5 : Nat) (c5 : Nat) (x12 : Int) (h : Hp) : Prop :=
  cond (decide (x12 < (((l5 : Nat) : Int)))) (D20.t R N17 a0 l0 c0 a5 l5 c5 x12 h) (D4.t R a0 l0 c0 h)
def D18.g (R : Rt) (N17 : Option Addr → Nat → Nat → Option Addr → Nat → Nat → Int → Hp → Prop) (fr : Fr) (h : Hp) : Prop := gSlice (fr 0) fun a0 l0 c0 => gSlice (fr 5) fun a5 l5 c5 => gInt .i64 (fr 12) fun x12 => D18.t R N17 a0 l0 c0 a5 l5 c5 x12 h
theorem D18.ok (R : Rt) (N17 : Option Addr → Nat → Nat → Option Addr → Nat → Nat → Int → Hp → Prop) (fr : Fr) (h : Hp) (g : D18.g R N17 fr h) : den prog E (cAt C [true, true, true, true, true, false, true, false, false]) (Ex.then (L17.g N17) (Ex.inBlock 12 (Ex.then (D4.g R) (retQ E [.tmp 2] R)))) fr h := by
  obtain ⟨a0, l0, c0, e0, g⟩ := gSlice_elim g
  obtain ⟨a5, l5, c5, e5, g⟩ := gSlice_elim g
  obtain ⟨x12, e12, g⟩ := gInt_elim g
  exact den_cut 1 (r := (cAt C [true, true, true, true, true, false, true, false, false, true])) (by kernel_rfl) (W25.ok R N17) (den_enter [(0, .slice a0 l0 c0), (5, .slice a5 l5 c5), (12, .int .i64 x12)] ⟨e0, e5, e12, trivial⟩ (by kernel_rfl) g)
def L17.t (R : Rt) : Nat → Option Addr → Nat → Nat → Option Addr → Nat → Nat → Int → Hp → Prop
  | 0 => fun _ _ _ _ _ _ _ _ => False
  | n + 1 => fun a0 l0 c0 a5 l5 c5 x12 h => D18.t R (L17.t R n) a0 l0 c0 a5 l5 c5 x12 h
theorem L17.ok (R : Rt) (fr : Fr) (h : Hp) (g : L17.g (fun a0 l0 c0 a5 l5 c5 x12 h => ∃ n, L17.t R n a0 l0 c0 a5 l5 c5 x12 h) fr h) : den prog E (cAt C [true, true, true, true, true, false, true, false]) (Ex.inBlock 12 (Ex.then (D4.g R) (retQ E [.tmp 2] R))) fr h := by
  obtain ⟨a0, l0, c0, e0, g⟩ := gSlice_elim g
  obtain ⟨a5, l5, c5, e5, g⟩ := gSlice_elim g
  obtain ⟨x12, e12, g⟩ := gInt_elim g
  obtain ⟨n, g⟩ := g
  refine loop_ok (fun n => L17.g (L17.t R n)) (b := (cAt C [true, true, true, true, true, false, true, false, false])) (by kernel_rfl) (fun fr h g => ?_) (fun n => D18.ok R (L17.t R n)) n fr h (gSlice_intro e0 (gSlice_intro e5 (gInt_intro e12 (g))))
  obtain ⟨a0, l0, c0, e0, g⟩ := gSlice_elim g
  obtain ⟨a5, l5, c5, e5, g⟩ := gSlice_elim g
  obtain ⟨x12, e12, g⟩ := gInt_elim g
  exact g
theorem B26.ok (R : Rt) (fr : Fr) (h : Hp) (g : L17.g (fun a0 l0 c0 a5 l5 c5 x12 h => ∃ n, L17.t R n a0 l0 c0 a5 l5 c5 x12 h) fr h) : den prog E (cAt C [true, true, true, true, true, false, true]) (Ex.then (D4.g R) (retQ E [.tmp 2] R)) fr h :=
  den_block (by kernel_rfl) (L17.ok R fr h g)
def D16.t (R : Rt) (a0 : Option Addr) (l0 : Nat) (c0 : Nat) (a5 : Option Addr) (l5 : Nat) (c5 : Nat) (h : Hp) : Prop :=
  (∃ n, L17.t R n a0 l0 c0 a5 l5 c5 0 h)
def D16.g (R : Rt) (fr : Fr) (h : Hp) : Prop := gSlice (fr 0) fun a0 l0 c0 => gSlice (fr 5) fun a5 l5 c5 => D16.t R a0 l0 c0 a5 l5 c5 h
theorem D16.ok (R : Rt) (fr : Fr) (h : Hp) (g : D16.g R fr h) : den prog E (cAt C [true, true, true, true, true, false]) (Ex.then (D4.g R) (retQ E [.tmp 2] R)) fr h := by
  obtain ⟨a0, l0, c0, e0, g⟩ := gSlice_elim g
  obtain ⟨a5, l5, c5, e5, g⟩ := gSlice_elim g
  exact den_cut 1 (r := (cAt C [true, true, true, true, true, false, true])) (by kernel_rfl) (B26.ok R) (den_enter [(0, .slice a0 l0 c0), (5, .slice a5 l5 c5)] ⟨e0, e5, trivial⟩ (by kernel_rfl) g)
theorem W27.ok (R : Rt) (fr : Fr) (h : Hp) (g : D16.g R fr h) : den prog E (cAt C [true, true, true, true, true]) (retQ E [.tmp 2] R) fr h :=
  den_then (by kernel_rfl) (W15.ok R) (D16.ok R fr h g)
def L29.g (N : Option Addr → Nat → Nat → Option Addr → Nat → Nat → Int → Hp → Prop) (fr : Fr) (h : Hp) : Prop := gSlice (fr 0) fun a0 l0 c0 => gSlice (fr 5) fun a5 l5 c5 => gInt .i64 (fr 9) fun x9 => N a0 l0 c0 a5 l5 c5 x9 h
def D31.t (R : Rt) (N29 : Option Addr → Nat → Nat → Option Addr → Nat → Nat → Int → Hp → Prop) (a0 : Option Addr) (l0 : Nat) (c0 : Nat) (a5 : Option Addr) (l5 : Nat) (c5 : Nat) (x9 : Int) (h : Hp) : Prop :=
  letK (IntKind.i64.wrap (x9 + 1)) fun n28 => N29 a0 l0 c0 a5 l5 c5 n28 h
def D31.g (R : Rt) (N29 : Option Addr → Nat → Nat → Option Addr → Nat → Nat → Int → Hp → Prop) (fr : Fr) (h : Hp) : Prop := gSlice (fr 0) fun a0 l0 c0 => gSlice (fr 5) fun a5 l5 c5 => gInt .i64 (fr 9) fun x9 => D31.t R N29 a0 l0 c0 a5 l5 c5 x9 h
theorem D31.ok (R : Rt) (N29 : Option Addr → Nat → Nat → Option Addr → Nat → Nat → Int → Hp → Prop) (fr : Fr) (h : Hp) (g : D31.g R N29 fr h) : den prog E (cAt C [true, true, true, true, false, true, false, false, true, true]) (Ex.then (L29.g N29) (Ex.inBlock 8 (Ex.then (D16.g R) (retQ E [.tmp 2] R)))) fr h := by
  obtain ⟨a0, l0, c0, e0, g⟩ := gSlice_elim g
  obtain ⟨a5, l5, c5, e5, g⟩ := gSlice_elim g
  obtain ⟨x9, e9, g⟩ := gInt_elim g
  exact den_enter [(0, .slice a0 l0 c0), (5, .slice a5 l5 c5), (9, .int .i64 x9)] ⟨e0, e5, e9, trivial⟩ (by kernel_rfl) g
def D33.t (R : Rt) (N29 : Option Addr → Nat → Nat → Option Addr → Nat → Nat → Int → Hp → Prop) (a0 : Option Addr) (l0 : Nat) (c0 : Nat) (a5 : Option Addr) (l5 : Nat) (c5 : Nat) (x9 : Int) (a10 : Option Addr) (l10 : Nat) (c10 : Nat) (h : Hp) : Prop :=
  idxK a0 l0 x9 1 fun q31 =>
  ldK h q31 fun v32 =>
  gSlice v32 fun a_33 l_33 c_33 =>
  apK h 27 T27 a_33 l_33 c_33 (.slice a10 l10 c10) fun a_34 l_34 c_34 h34 =>
  boxK h34 23 [.slice a_34 l_34 c_34] fun q35 h36 =>
  apK h36 23 T23 a5 l5 c5 (.slice (some q35) 1 1) fun a_37 l_37 c_37 h37 =>
  D31.t R N29 a0 l0 c0 a_37 l_37 c_37 x9 h37
def D33.g (R : Rt) (N29 : Option Addr → Nat → Nat → Option Addr → Nat → Nat → Int → Hp → Prop) (fr : Fr) (h : Hp) : Prop := gSlice (fr 0) fun a0 l0 c0 => gSlice (fr 5) fun a5 l5 c5 => gInt .i64 (fr 9) fun x9 => gSlice (fr 10) fun a10 l10 c10 => D33.t R N29 a0 l0 c0 a5 l5 c5 x9 a10 l10 c10 h
theorem D33.ok (R : Rt) (N29 : Option Addr → Nat → Nat → Option Addr → Nat → Nat → Int → Hp → Prop) (fr : Fr) (h : Hp) (g : D33.g R N29 fr h) : den prog E (cAt C [true, true, true, true, false, true, false, false, true, false, false, true, true]) (Ex.inBlock 9 (Ex.then (D31.g R N29) (Ex.then (L29.g N29) (Ex.inBlock 8 (Ex.then (D16.g R) (retQ E [.tmp 2] R)))))) fr h := by
  obtain ⟨a0, l0, c0, e0, g⟩ := gSlice_elim g
  obtain ⟨a5, l5, c5, e5, g⟩ := gSlice_elim g
  obtain ⟨x9, e9, g⟩ := gInt_elim g
  obtain ⟨a10, l10, c10, e10, g⟩ := gSlice_elim g
  exact den_enter [(0, .slice a0 l0 c0), (5, .slice a5 l5 c5), (9, .int .i64 x9), (10, .slice a10 l10 c10)] ⟨e0, e5, e9, e10, trivial⟩ (by kernel_rfl) g
def L35.g (N : Option Addr → Nat → Nat → Option Addr → Nat → Nat → Int → Option Addr → Nat → Nat → Int → Hp → Prop) (fr : Fr) (h : Hp) : Prop := gSlice (fr 0) fun a0 l0 c0 => gSlice (fr 5) fun a5 l5 c5 => gInt .i64 (fr 9) fun x9 => gSlice (fr 10) fun a10 l10 c10 => gInt .i64 (fr 11) fun x11 => N a0 l0 c0 a5 l5 c5 x9 a10 l10 c10 x11 h
def D36.t (R : Rt) (N29 : Option Addr → Nat → Nat → Option Addr → Nat → Nat → Int → Hp → Prop) (N35 : Option Addr → Nat → Nat → Option Addr → Nat → Nat → Int → Option Addr → Nat → Nat → Int → Hp → Prop) (a0 : Option Addr) (l0 : Nat) (c0 : Nat) (a5 : Option Addr) (l5 : Nat) (c5 : Nat) (x9 : Int) (a10 : Option Addr) (l10 : Nat) (c10 : Nat) (x11 : Int) (h : Hp) : Prop :=
  cond (decide (x11 < 80)) (idxK a0 l0 x9 1 fun q38 =>
  ldK h q38 fun v39 =>
  gSlice v39 fun a_40 l_40 c_40 =>
  letK (IntKind.i64.wrap ((((l_40 : Nat) : Int)) + x11)) fun n41 =>
  HQC gnomonref01_mark.id #[.int .i64 x9, .int .i64 n41] h fun v42 =>
  gInt .u64 v42 fun x_43 =>
  idxK a10 l10 x11 1 fun q44 =>
  stK h q44 (.int .u64 x_43) fun h45 =>
  letK (IntKind.i64.wrap (x11 + 1)) fun n46 =>
  N35 a0 l0 c0 a5 l5 c5 x9 a10 l10 c10 n46 h45) (D33.t R N29 a0 l0 c0 a5 l5 c5 x9 a10 l10 c10 h)
def D36.g (R : Rt) (N29 : Option Addr → Nat → Nat → Option Addr → Nat → Nat → Int → Hp → Prop) (N35 : Option Addr → Nat → Nat → Option Addr → Nat → Nat → Int → Option Addr → Nat → Nat → Int → Hp → Prop) (fr : Fr) (h : Hp) : Prop := gSlice (fr 0) fun a0 l0 c0 => gSlice (fr 5) fun a5 l5 c5 => gInt .i64 (fr 9) fun x9 => gSlice (fr 10) fun a10 l10 c10 => gInt .i64 (fr 11) fun x11 => D36.t R N29 N35 a0 l0 c0 a5 l5 c5 x9 a10 l10 c10 x11 h
theorem D36.ok (R : Rt) (N29 : Option Addr → Nat → Nat → Option Addr → Nat → Nat → Int → Hp → Prop) (N35 : Option Addr → Nat → Nat → Option Addr → Nat → Nat → Int → Option Addr → Nat → Nat → Int → Hp → Prop) (fr : Fr) (h : Hp) (g : D36.g R N29 N35 fr h) : den prog E (cAt C [true, true, true, true, false, true, false, false, true, false, false, true, false, true, false, false]) (Ex.then (L35.g N35) (Ex.inBlock 10 (Ex.then (D33.g R N29) (Ex.inBlock 9 (Ex.then (D31.g R N29) (Ex.then (L29.g N29) (Ex.inBlock 8 (Ex.then (D16.g R) (retQ E [.tmp 2] R))))))))) fr h := by
  obtain ⟨a0, l0, c0, e0, g⟩ := gSlice_elim g
  obtain ⟨a5, l5, c5, e5, g⟩ := gSlice_elim g
  obtain ⟨x9, e9, g⟩ := gInt_elim g
  obtain ⟨a10, l10, c10, e10, g⟩ := gSlice_elim g
  obtain ⟨x11, e11, g⟩ := gInt_elim g
  exact den_enter [(0, .slice a0 l0 c0), (5, .slice a5 l5 c5), (9, .int .i64 x9), (10, .slice a10 l10 c10), (11, .int .i64 x11)] ⟨e0, e5, e9, e10, e11, trivial⟩ (by kernel_rfl) g
def L35.t (R : Rt) (N29 : Option Addr → Nat → Nat → Option Addr → Nat → Nat → Int → Hp → Prop) : Nat → Option Addr → Nat → Nat → Option Addr → Nat → Nat → Int → Option Addr → Nat → Nat → Int → Hp → Prop
  | 0 => fun _ _ _ _ _ _ _ _ _ _ _ _ => False
  | n + 1 => fun a0 l0 c0 a5 l5 c5 x9 a10 l10 c10 x11 h => D36.t R N29 (L35.t R N29 n) a0 l0 c0 a5 l5 c5 x9 a10 l10 c10 x11 h
theorem L35.ok (R : Rt) (N29 : Option Addr → Nat → Nat → Option Addr → Nat → Nat → Int → Hp → Prop) (fr : Fr) (h : Hp) (g : L35.g (fun a0 l0 c0 a5 l5 c5 x9 a10 l10 c10 x11 h => ∃ n, L35.t R N29 n a0 l0 c0 a5 l5 c5 x9 a10 l10 c10 x11 h) fr h) : den prog E (cAt C [true, true, true, true, false, true, false, false, true, false, false, true, false, true, false]) (Ex.inBlock 10 (Ex.then (D33.g R N29) (Ex.inBlock 9 (Ex.then (D31.g R N29) (Ex.then (L29.g N29) (Ex.inBlock 8 (Ex.then (D16.g R) (retQ E [.tmp 2] R)))))))) fr h := by
  obtain ⟨a0, l0, c0, e0, g⟩ := gSlice_elim g
  obtain ⟨a5, l5, c5, e5, g⟩ := gSlice_elim g
  obtain ⟨x9, e9, g⟩ := gInt_elim g
  obtain ⟨a10, l10, c10, e10, g⟩ := gSlice_elim g
  obtain ⟨x11, e11, g⟩ := gInt_elim g
  obtain ⟨n, g⟩ := g
  refine loop_ok (fun n => L35.g (L35.t R N29 n)) (b := (cAt C [true, true, true, true, false, true, false, false, true, false, false, true, false, true, false, false])) (by kernel_rfl) (fun fr h g => ?_) (fun n => D36.ok R N29 (L35.t R N29 n)) n fr h (gSlice_intro e0 (gSlice_intro e5 (gInt_intro e9 (gSlice_intro e10 (gInt_intro e11 (g))))))
  obtain ⟨a0, l0, c0, e0, g⟩ := gSlice_elim g
  obtain ⟨a5, l5, c5, e5, g⟩ := gSlice_elim g
  obtain ⟨x9, e9, g⟩ := gInt_elim g
  obtain ⟨a10, l10, c10, e10, g⟩ := gSlice_elim g
  obtain ⟨x11, e11, g⟩ := gInt_elim g
  exact g
theorem B37.ok (R : Rt) (N29 : Option Addr → Nat → Nat → Option Addr → Nat → Nat → Int → Hp → Prop) (fr : Fr) (h : Hp) (g : L35.g (fun a0 l0 c0 a5 l5 c5 x9 a10 l10 c10 x11 h => ∃ n, L35.t R N29 n a0 l0 c0 a5 l5 c5 x9 a10 l10 c10 x11 h) fr h) : den prog E (cAt C [true, true, true, true, false, true, false, false, true, false, false, true, false, true]) (Ex.then (D33.g R N29) (Ex.inBlock 9 (Ex.then (D31.g R N29) (Ex.then (L29.g N29) (Ex.inBlock 8 (Ex.then (D16.g R) (retQ E [.tmp 2] R))))))) fr h :=
  den_block (by kernel_rfl) (L35.ok R N29 fr h g)
def D34.t (R : Rt) (N29 : Option Addr → Nat → Nat → Option Addr → Nat → Nat → Int → Hp → Prop) (a0 : Option Addr) (l0 : Nat) (c0 : Nat) (a5 : Option Addr) (l5 : Nat) (c5 : Nat) (x9 : Int) (a10 : Option Addr) (l10 : Nat) (c10 : Nat) (h : Hp) : Prop :=
  (∃ n, L35.t R N29 n a0 l0 c0 a5 l5 c5 x9 a10 l10 c10 0 h)
def D34.g (R : Rt) (N29 : Option Addr → Nat → Nat → Option Addr → Nat → Nat → Int → Hp → Prop) (fr : Fr) (h : Hp) : Prop := gSlice (fr 0) fun a0 l0 c0 => gSlice (fr 5) fun a5 l5 c5 => gInt .i64 (fr 9) fun x9 => gSlice (fr 10) fun a10 l10 c10 => D34.t R N29 a0 l0 c0 a5 l5 c5 x9 a10 l10 c10 h
theorem D34.ok (R : Rt) (N29 : Option Addr → Nat → Nat → Option Addr → Nat → Nat → Int → Hp → Prop) (fr : Fr) (h : Hp) (g : D34.g R N29 fr h) : den prog E (cAt C [true, true, true, true, false, true, false, false, true, false, false, true, false]) (Ex.then (D33.g R N29) (Ex.inBlock 9 (Ex.then (D31.g R N29) (Ex.then (L29.g N29) (Ex.inBlock 8 (Ex.then (D16.g R) (retQ E [.tmp 2] R))))))) fr h := by
  obtain ⟨a0, l0, c0, e0, g⟩ := gSlice_elim g
  obtain ⟨a5, l5, c5, e5, g⟩ := gSlice_elim g
  obtain ⟨x9, e9, g⟩ := gInt_elim g
  obtain ⟨a10, l10, c10, e10, g⟩ := gSlice_elim g
  exact den_cut 1 (r := (cAt C [true, true, true, true, false, true, false, false, true, false, false, true, false, true])) (by kernel_rfl) (B37.ok R N29) (den_enter [(0, .slice a0 l0 c0), (5, .slice a5 l5 c5), (9, .int .i64 x9), (10, .slice a10 l10 c10)] ⟨e0, e5, e9, e10, trivial⟩ (by kernel_rfl) g)
theorem W38.ok (R : Rt) (N29 : Option Addr → Nat → Nat → Option Addr → Nat → Nat → Int → Hp → Prop) (fr : Fr) (h : Hp) (g : D34.g R N29 fr h) : den prog E (cAt C [true, true, true, true, false, true, false, false, true, false, false, true]) (Ex.inBlock 9 (Ex.then (D31.g R N29) (Ex.then (L29.g N29) (Ex.inBlock 8 (Ex.then (D16.g R) (retQ E [.tmp 2] R)))))) fr h :=
  den_then (by kernel_rfl) (D33.ok R N29) (D34.ok R N29 fr h g)
def D32.t (R : Rt) (N29 : Option Addr → Nat → Nat → Option Addr → Nat → Nat → Int → Hp → Prop) (a0 : Option Addr) (l0 : Nat) (c0 : Nat) (a5 : Option Addr) (l5 : Nat) (c5 : Nat) (x9 : Int) (h : Hp) : Prop :=
  mkK h 27 T27 80 80 fun q29 h30 =>
  D34.t R N29 a0 l0 c0 a5 l5 c5 x9 (some q29) ((80 : Int).toNat) ((80 : Int).toNat) h30
def D32.g (R : Rt) (N29 : Option Addr → Nat → Nat → Option Addr → Nat → Nat → Int → Hp → Prop) (fr : Fr) (h : Hp) : Prop := gSlice (fr 0) fun a0 l0 c0 => gSlice (fr 5) fun a5 l5 c5 => gInt .i64 (fr 9) fun x9 => D32.t R N29 a0 l0 c0 a5 l5 c5 x9 h
theorem D32.ok (R : Rt) (N29 : Option Addr → Nat → Nat → Option Addr → Nat → Nat → Int → Hp → Prop) (fr : Fr) (h : Hp) (g : D32.g R N29 fr h) : den prog E (cAt C [true, true, true, true, false, true, false, false, true, false, false]) (Ex.inBlock 9 (Ex.then (D31.g R N29) (Ex.then (L29.g N29) (Ex.inBlock 8 (Ex.then (D16.g R) (retQ E [.tmp 2] R)))))) fr h := by
  obtain ⟨a0, l0, c0, e0, g⟩ := gSlice_elim g
  obtain ⟨a5, l5, c5, e5, g⟩ := gSlice_elim g
  obtain ⟨x9, e9, g⟩ := gInt_elim g
  exact den_cut 1 (r := (cAt C [true, true, true, true, false, true, false, false, true, false, false, true])) (by kernel_rfl) (W38.ok R N29) (den_enter [(0, .slice a0 l0 c0), (5, .slice a5 l5 c5), (9, .int .i64 x9)] ⟨e0, e5, e9, trivial⟩ (by kernel_rfl) g)
theorem B39.ok (R : Rt) (N29 : Option Addr → Nat → Nat → Option Addr → Nat → Nat → Int → Hp → Prop) (fr : Fr) (h : Hp) (g : D32.g R N29 fr h) : den prog E (cAt C [true, true, true, true, false, true, false, false, true, false]) (Ex.then (D31.g R N29) (Ex.then (L29.g N29) (Ex.inBlock 8 (Ex.then (D16.g R) (retQ E [.tmp 2] R))))) fr h :=
  den_block (by kernel_rfl) (D32.ok R N29 fr h g)
theorem W40.ok (R : Rt) (N29 : Option Addr → Nat → Nat → Option Addr → Nat → Nat → Int → Hp → Prop) (fr : Fr) (h : Hp) (g : D32.g R N29 fr h) : den prog E (cAt C [true, true, true, true, false, true, false, false, true]) (Ex.then (L29.g N29) (Ex.inBlock 8 (Ex.then (D16.g R) (retQ E [.tmp 2] R)))) fr h :=
  den_then (by kernel_rfl) (D31.ok R N29) (B39.ok R N29 fr h g)
def D30.t (R : Rt) (N29 : Option Addr → Nat → Nat → Option Addr → Nat → Nat → Int → Hp → Prop) (a0 : Option Addr) (l0 : Nat) (c0 : Nat) (a5 : Option Addr) (l5 : Nat) (c5 : Nat) (x9 : Int) (h : Hp) : Prop :=
  cond (decide (x9 < (((l0 : Nat) : Int)))) (D32.t R N29 a0 l0 c0 a5 l5 c5 x9 h) (D16.t R a0 l0 c0 a5 l5 c5 h)
def D30.g (R : Rt) (N29 : Option Addr → Nat → Nat → Option Addr → Nat → Nat → Int → Hp → Prop) (fr : Fr) (h : Hp) : Prop := gSlice (fr 0) fun a0 l0 c0 => gSlice (fr 5) fun a5 l5 c5 => gInt .i64 (fr 9) fun x9 => D30.t R N29 a0 l0 c0 a5 l5 c5 x9 h
theorem D30.ok (R : Rt) (N29 : Option Addr → Nat → Nat → Option Addr → Nat → Nat → Int → Hp → Prop) (fr : Fr) (h : Hp) (g : D30.g R N29 fr h) : den prog E (cAt C [true, true, true, true, false, true, false, false]) (Ex.then (L29.g N29) (Ex.inBlock 8 (Ex.then (D16.g R) (retQ E [.tmp 2] R)))) fr h := by
  obtain ⟨a0, l0, c0, e0, g⟩ := gSlice_elim g
  obtain ⟨a5, l5, c5, e5, g⟩ := gSlice_elim g
  obtain ⟨x9, e9, g⟩ := gInt_elim g
  exact den_cut 1 (r := (cAt C [true, true, true, true, false, true, false, false, true])) (by kernel_rfl) (W40.ok R N29) (den_enter [(0, .slice a0 l0 c0), (5, .slice a5 l5 c5), (9, .int .i64 x9)] ⟨e0, e5, e9, trivial⟩ (by kernel_rfl) g)
def L29.t (R : Rt) : Nat → Option Addr → Nat → Nat → Option Addr → Nat → Nat → Int → Hp → Prop
  | 0 => fun _ _ _ _ _ _ _ _ => False
  | n + 1 => fun a0 l0 c0 a5 l5 c5 x9 h => D30.t R (L29.t R n) a0 l0 c0 a5 l5 c5 x9 h
theorem L29.ok (R : Rt) (fr : Fr) (h : Hp) (g : L29.g (fun a0 l0 c0 a5 l5 c5 x9 h => ∃ n, L29.t R n a0 l0 c0 a5 l5 c5 x9 h) fr h) : den prog E (cAt C [true, true, true, true, false, true, false]) (Ex.inBlock 8 (Ex.then (D16.g R) (retQ E [.tmp 2] R))) fr h := by
  obtain ⟨a0, l0, c0, e0, g⟩ := gSlice_elim g
  obtain ⟨a5, l5, c5, e5, g⟩ := gSlice_elim g
  obtain ⟨x9, e9, g⟩ := gInt_elim g
  obtain ⟨n, g⟩ := g
  refine loop_ok (fun n => L29.g (L29.t R n)) (b := (cAt C [true, true, true, true, false, true, false, false])) (by kernel_rfl) (fun fr h g => ?_) (fun n => D30.ok R (L29.t R n)) n fr h (gSlice_intro e0 (gSlice_intro e5 (gInt_intro e9 (g))))
  obtain ⟨a0, l0, c0, e0, g⟩ := gSlice_elim g
  obtain ⟨a5, l5, c5, e5, g⟩ := gSlice_elim g
  obtain ⟨x9, e9, g⟩ := gInt_elim g
  exact g
theorem B41.ok (R : Rt) (fr : Fr) (h : Hp) (g : L29.g (fun a0 l0 c0 a5 l5 c5 x9 h => ∃ n, L29.t R n a0 l0 c0 a5 l5 c5 x9 h) fr h) : den prog E (cAt C [true, true, true, true, false, true]) (Ex.then (D16.g R) (retQ E [.tmp 2] R)) fr h :=
  den_block (by kernel_rfl) (L29.ok R fr h g)
def D28.t (R : Rt) (a0 : Option Addr) (l0 : Nat) (c0 : Nat) (a5 : Option Addr) (l5 : Nat) (c5 : Nat) (h : Hp) : Prop :=
  (∃ n, L29.t R n a0 l0 c0 a5 l5 c5 0 h)
def D28.g (R : Rt) (fr : Fr) (h : Hp) : Prop := gSlice (fr 0) fun a0 l0 c0 => gSlice (fr 5) fun a5 l5 c5 => D28.t R a0 l0 c0 a5 l5 c5 h
theorem D28.ok (R : Rt) (fr : Fr) (h : Hp) (g : D28.g R fr h) : den prog E (cAt C [true, true, true, true, false]) (Ex.then (D16.g R) (retQ E [.tmp 2] R)) fr h := by
  obtain ⟨a0, l0, c0, e0, g⟩ := gSlice_elim g
  obtain ⟨a5, l5, c5, e5, g⟩ := gSlice_elim g
  exact den_cut 1 (r := (cAt C [true, true, true, true, false, true])) (by kernel_rfl) (B41.ok R) (den_enter [(0, .slice a0 l0 c0), (5, .slice a5 l5 c5)] ⟨e0, e5, trivial⟩ (by kernel_rfl) g)
theorem W42.ok (R : Rt) (fr : Fr) (h : Hp) (g : D28.g R fr h) : den prog E (cAt C [true, true, true, true]) (retQ E [.tmp 2] R) fr h :=
  den_then (by kernel_rfl) (W27.ok R) (D28.ok R fr h g)
def L44.g (N : Option Addr → Nat → Nat → Option Addr → Nat → Nat → Int → Hp → Prop) (fr : Fr) (h : Hp) : Prop := gSlice (fr 0) fun a0 l0 c0 => gSlice (fr 5) fun a5 l5 c5 => gInt .i64 (fr 6) fun x6 => N a0 l0 c0 a5 l5 c5 x6 h
def D46.t (R : Rt) (N44 : Option Addr → Nat → Nat → Option Addr → Nat → Nat → Int → Hp → Prop) (a0 : Option Addr) (l0 : Nat) (c0 : Nat) (a5 : Option Addr) (l5 : Nat) (c5 : Nat) (x6 : Int) (h : Hp) : Prop :=
  letK (IntKind.i64.wrap (x6 + 1)) fun n47 => N44 a0 l0 c0 a5 l5 c5 n47 h
def D46.g (R : Rt) (N44 : Option Addr → Nat → Nat → Option Addr → Nat → Nat → Int → Hp → Prop) (fr : Fr) (h : Hp) : Prop := gSlice (fr 0) fun a0 l0 c0 => gSlice (fr 5) fun a5 l5 c5 => gInt .i64 (fr 6) fun x6 => D46.t R N44 a0 l0 c0 a5 l5 c5 x6 h
theorem D46.ok (R : Rt) (N44 : Option Addr → Nat → Nat → Option Addr → Nat → Nat → Int → Hp → Prop) (fr : Fr) (h : Hp) (g : D46.g R N44 fr h) : den prog E (cAt C [true, true, true, false, true, false, false, true, true]) (Ex.then (L44.g N44) (Ex.inBlock 4 (Ex.then (D28.g R) (retQ E [.tmp 2] R)))) fr h := by
  obtain ⟨a0, l0, c0, e0, g⟩ := gSlice_elim g
  obtain ⟨a5, l5, c5, e5, g⟩ := gSlice_elim g
  obtain ⟨x6, e6, g⟩ := gInt_elim g
  exact den_enter [(0, .slice a0 l0 c0), (5, .slice a5 l5 c5), (6, .int .i64 x6)] ⟨e0, e5, e6, trivial⟩ (by kernel_rfl) g
def D48.t (R : Rt) (N44 : Option Addr → Nat → Nat → Option Addr → Nat → Nat → Int → Hp → Prop) (a0 : Option Addr) (l0 : Nat) (c0 : Nat) (a5 : Option Addr) (l5 : Nat) (c5 : Nat) (x6 : Int) (a7 : Option Addr) (l7 : Nat) (c7 : Nat) (h : Hp) : Prop :=
  boxK h 23 [.slice a7 l7 c7] fun q51 h52 =>
  apK h52 23 T23 a5 l5 c5 (.slice (some q51) 1 1) fun a_53 l_53 c_53 h53 =>
  D46.t R N44 a0 l0 c0 a_53 l_53 c_53 x6 h53
def D48.g (R : Rt) (N44 : Option Addr → Nat → Nat → Option Addr → Nat → Nat → Int → Hp → Prop) (fr : Fr) (h : Hp) : Prop := gSlice (fr 0) fun a0 l0 c0 => gSlice (fr 5) fun a5 l5 c5 => gInt .i64 (fr 6) fun x6 => gSlice (fr 7) fun a7 l7 c7 => D48.t R N44 a0 l0 c0 a5 l5 c5 x6 a7 l7 c7 h
theorem D48.ok (R : Rt) (N44 : Option Addr → Nat → Nat → Option Addr → Nat → Nat → Int → Hp → Prop) (fr : Fr) (h : Hp) (g : D48.g R N44 fr h) : den prog E (cAt C [true, true, true, false, true, false, false, true, false, false, true, true]) (Ex.inBlock 5 (Ex.then (D46.g R N44) (Ex.then (L44.g N44) (Ex.inBlock 4 (Ex.then (D28.g R) (retQ E [.tmp 2] R)))))) fr h := by
  obtain ⟨a0, l0, c0, e0, g⟩ := gSlice_elim g
  obtain ⟨a5, l5, c5, e5, g⟩ := gSlice_elim g
  obtain ⟨x6, e6, g⟩ := gInt_elim g
  obtain ⟨a7, l7, c7, e7, g⟩ := gSlice_elim g
  exact den_enter [(0, .slice a0 l0 c0), (5, .slice a5 l5 c5), (6, .int .i64 x6), (7, .slice a7 l7 c7)] ⟨e0, e5, e6, e7, trivial⟩ (by kernel_rfl) g
def L50.g (N : Option Addr → Nat → Nat → Option Addr → Nat → Nat → Int → Option Addr → Nat → Nat → Int → Hp → Prop) (fr : Fr) (h : Hp) : Prop := gSlice (fr 0) fun a0 l0 c0 => gSlice (fr 5) fun a5 l5 c5 => gInt .i64 (fr 6) fun x6 => gSlice (fr 7) fun a7 l7 c7 => gInt .i64 (fr 8) fun x8 => N a0 l0 c0 a5 l5 c5 x6 a7 l7 c7 x8 h
def D51.t (R : Rt) (N44 : Option Addr → Nat → Nat → Option Addr → Nat → Nat → Int → Hp → Prop) (N50 : Option Addr → Nat → Nat → Option Addr → Nat → Nat → Int → Option Addr → Nat → Nat → Int → Hp → Prop) (a0 : Option Addr) (l0 : Nat) (c0 : Nat) (a5 : Option Addr) (l5 : Nat) (c5 : Nat) (x6 : Int) (a7 : Option Addr) (l7 : Nat) (c7 : Nat) (x8 : Int) (h : Hp) : Prop :=
  cond (decide (x8 < 16)) (idxK a0 l0 x6 1 fun q54 =>
  ldK h q54 fun v55 =>
  gSlice v55 fun a_56 l_56 c_56 =>
  letK (IntKind.i64.wrap ((((l_56 : Nat) : Int)) + x8)) fun n57 =>
  HQC gnomonref01_mark.id #[.int .i64 x6, .int .i64 n57] h fun v58 =>
  gInt .u64 v58 fun x_59 =>
  boxK h 27 [.int .u64 x_59] fun q60 h61 =>
  apK h61 27 T27 a7 l7 c7 (.slice (some q60) 1 1) fun a_62 l_62 c_62 h62 =>
  letK (IntKind.i64.wrap (x8 + 1)) fun n63 =>
  N50 a0 l0 c0 a5 l5 c5 x6 a_62 l_62 c_62 n63 h62) (D48.t R N44 a0 l0 c0 a5 l5 c5 x6 a7 l7 c7 h)
def D51.g (R : Rt) (N44 : Option Addr → Nat → Nat → Option Addr → Nat → Nat → Int → Hp → Prop) (N50 : Option Addr → Nat → Nat → Option Addr → Nat → Nat → Int → Option Addr → Nat → Nat → Int → Hp → Prop) (fr : Fr) (h : Hp) : Prop := gSlice (fr 0) fun a0 l0 c0 => gSlice (fr 5) fun a5 l5 c5 => gInt .i64 (fr 6) fun x6 => gSlice (fr 7) fun a7 l7 c7 => gInt .i64 (fr 8) fun x8 => D51.t R N44 N50 a0 l0 c0 a5 l5 c5 x6 a7 l7 c7 x8 h
theorem D51.ok (R : Rt) (N44 : Option Addr → Nat → Nat → Option Addr → Nat → Nat → Int → Hp → Prop) (N50 : Option Addr → Nat → Nat → Option Addr → Nat → Nat → Int → Option Addr → Nat → Nat → Int → Hp → Prop) (fr : Fr) (h : Hp) (g : D51.g R N44 N50 fr h) : den prog E (cAt C [true, true, true, false, true, false, false, true, false, false, true, false, true, false, false]) (Ex.then (L50.g N50) (Ex.inBlock 6 (Ex.then (D48.g R N44) (Ex.inBlock 5 (Ex.then (D46.g R N44) (Ex.then (L44.g N44) (Ex.inBlock 4 (Ex.then (D28.g R) (retQ E [.tmp 2] R))))))))) fr h := by
  obtain ⟨a0, l0, c0, e0, g⟩ := gSlice_elim g
  obtain ⟨a5, l5, c5, e5, g⟩ := gSlice_elim g
  obtain ⟨x6, e6, g⟩ := gInt_elim g
  obtain ⟨a7, l7, c7, e7, g⟩ := gSlice_elim g
  obtain ⟨x8, e8, g⟩ := gInt_elim g
  exact den_enter [(0, .slice a0 l0 c0), (5, .slice a5 l5 c5), (6, .int .i64 x6), (7, .slice a7 l7 c7), (8, .int .i64 x8)] ⟨e0, e5, e6, e7, e8, trivial⟩ (by kernel_rfl) g
def L50.t (R : Rt) (N44 : Option Addr → Nat → Nat → Option Addr → Nat → Nat → Int → Hp → Prop) : Nat → Option Addr → Nat → Nat → Option Addr → Nat → Nat → Int → Option Addr → Nat → Nat → Int → Hp → Prop
  | 0 => fun _ _ _ _ _ _ _ _ _ _ _ _ => False
  | n + 1 => fun a0 l0 c0 a5 l5 c5 x6 a7 l7 c7 x8 h => D51.t R N44 (L50.t R N44 n) a0 l0 c0 a5 l5 c5 x6 a7 l7 c7 x8 h
theorem L50.ok (R : Rt) (N44 : Option Addr → Nat → Nat → Option Addr → Nat → Nat → Int → Hp → Prop) (fr : Fr) (h : Hp) (g : L50.g (fun a0 l0 c0 a5 l5 c5 x6 a7 l7 c7 x8 h => ∃ n, L50.t R N44 n a0 l0 c0 a5 l5 c5 x6 a7 l7 c7 x8 h) fr h) : den prog E (cAt C [true, true, true, false, true, false, false, true, false, false, true, false, true, false]) (Ex.inBlock 6 (Ex.then (D48.g R N44) (Ex.inBlock 5 (Ex.then (D46.g R N44) (Ex.then (L44.g N44) (Ex.inBlock 4 (Ex.then (D28.g R) (retQ E [.tmp 2] R)))))))) fr h := by
  obtain ⟨a0, l0, c0, e0, g⟩ := gSlice_elim g
  obtain ⟨a5, l5, c5, e5, g⟩ := gSlice_elim g
  obtain ⟨x6, e6, g⟩ := gInt_elim g
  obtain ⟨a7, l7, c7, e7, g⟩ := gSlice_elim g
  obtain ⟨x8, e8, g⟩ := gInt_elim g
  obtain ⟨n, g⟩ := g
  refine loop_ok (fun n => L50.g (L50.t R N44 n)) (b := (cAt C [true, true, true, false, true, false, false, true, false, false, true, false, true, false, false])) (by kernel_rfl) (fun fr h g => ?_) (fun n => D51.ok R N44 (L50.t R N44 n)) n fr h (gSlice_intro e0 (gSlice_intro e5 (gInt_intro e6 (gSlice_intro e7 (gInt_intro e8 (g))))))
  obtain ⟨a0, l0, c0, e0, g⟩ := gSlice_elim g
  obtain ⟨a5, l5, c5, e5, g⟩ := gSlice_elim g
  obtain ⟨x6, e6, g⟩ := gInt_elim g
  obtain ⟨a7, l7, c7, e7, g⟩ := gSlice_elim g
  obtain ⟨x8, e8, g⟩ := gInt_elim g
  exact g
theorem B52.ok (R : Rt) (N44 : Option Addr → Nat → Nat → Option Addr → Nat → Nat → Int → Hp → Prop) (fr : Fr) (h : Hp) (g : L50.g (fun a0 l0 c0 a5 l5 c5 x6 a7 l7 c7 x8 h => ∃ n, L50.t R N44 n a0 l0 c0 a5 l5 c5 x6 a7 l7 c7 x8 h) fr h) : den prog E (cAt C [true, true, true, false, true, false, false, true, false, false, true, false, true]) (Ex.then (D48.g R N44) (Ex.inBlock 5 (Ex.then (D46.g R N44) (Ex.then (L44.g N44) (Ex.inBlock 4 (Ex.then (D28.g R) (retQ E [.tmp 2] R))))))) fr h :=
  den_block (by kernel_rfl) (L50.ok R N44 fr h g)
def D49.t (R : Rt) (N44 : Option Addr → Nat → Nat → Option Addr → Nat → Nat → Int → Hp → Prop) (a0 : Option Addr) (l0 : Nat) (c0 : Nat) (a5 : Option Addr) (l5 : Nat) (c5 : Nat) (x6 : Int) (a7 : Option Addr) (l7 : Nat) (c7 : Nat) (h : Hp) : Prop :=
  (∃ n, L50.t R N44 n a0 l0 c0 a5 l5 c5 x6 a7 l7 c7 0 h)
def D49.g (R : Rt) (N44 : Option Addr → Nat → Nat → Option Addr → Nat → Nat → Int → Hp → Prop) (fr : Fr) (h : Hp) : Prop := gSlice (fr 0) fun a0 l0 c0 => gSlice (fr 5) fun a5 l5 c5 => gInt .i64 (fr 6) fun x6 => gSlice (fr 7) fun a7 l7 c7 => D49.t R N44 a0 l0 c0 a5 l5 c5 x6 a7 l7 c7 h
theorem D49.ok (R : Rt) (N44 : Option Addr → Nat → Nat → Option Addr → Nat → Nat → Int → Hp → Prop) (fr : Fr) (h : Hp) (g : D49.g R N44 fr h) : den prog E (cAt C [true, true, true, false, true, false, false, true, false, false, true, false]) (Ex.then (D48.g R N44) (Ex.inBlock 5 (Ex.then (D46.g R N44) (Ex.then (L44.g N44) (Ex.inBlock 4 (Ex.then (D28.g R) (retQ E [.tmp 2] R))))))) fr h := by
  obtain ⟨a0, l0, c0, e0, g⟩ := gSlice_elim g
  obtain ⟨a5, l5, c5, e5, g⟩ := gSlice_elim g
  obtain ⟨x6, e6, g⟩ := gInt_elim g
  obtain ⟨a7, l7, c7, e7, g⟩ := gSlice_elim g
  exact den_cut 1 (r := (cAt C [true, true, true, false, true, false, false, true, false, false, true, false, true])) (by kernel_rfl) (B52.ok R N44) (den_enter [(0, .slice a0 l0 c0), (5, .slice a5 l5 c5), (6, .int .i64 x6), (7, .slice a7 l7 c7)] ⟨e0, e5, e6, e7, trivial⟩ (by kernel_rfl) g)
theorem W53.ok (R : Rt) (N44 : Option Addr → Nat → Nat → Option Addr → Nat → Nat → Int → Hp → Prop) (fr : Fr) (h : Hp) (g : D49.g R N44 fr h) : den prog E (cAt C [true, true, true, false, true, false, false, true, false, false, true]) (Ex.inBlock 5 (Ex.then (D46.g R N44) (Ex.then (L44.g N44) (Ex.inBlock 4 (Ex.then (D28.g R) (retQ E [.tmp 2] R)))))) fr h :=
  den_then (by kernel_rfl) (D48.ok R N44) (D49.ok R N44 fr h g)
def D47.t (R : Rt) (N44 : Option Addr → Nat → Nat → Option Addr → Nat → Nat → Int → Hp → Prop) (a0 : Option Addr) (l0 : Nat) (c0 : Nat) (a5 : Option Addr) (l5 : Nat) (c5 : Nat) (x6 : Int) (h : Hp) : Prop :=
  idxK a0 l0 x6 1 fun q48 =>
  ldK h q48 fun v49 =>
  gSlice v49 fun a_50 l_50 c_50 =>
  D49.t R N44 a0 l0 c0 a5 l5 c5 x6 a_50 l_50 c_50 h
def D47.g (R : Rt) (N44 : Option Addr → Nat → Nat → Option Addr → Nat → Nat → Int → Hp → Prop) (fr : Fr) (h : Hp) : Prop := gSlice (fr 0) fun a0 l0 c0 => gSlice (fr 5) fun a5 l5 c5 => gInt .i64 (fr 6) fun x6 => D47.t R N44 a0 l0 c0 a5 l5 c5 x6 h
theorem D47.ok (R : Rt) (N44 : Option Addr → Nat → Nat → Option Addr → Nat → Nat → Int → Hp → Prop) (fr : Fr) (h : Hp) (g : D47.g R N44 fr h) : den prog E (cAt C [true, true, true, false, true, false, false, true, false, false]) (Ex.inBlock 5 (Ex.then (D46.g R N44) (Ex.then (L44.g N44) (Ex.inBlock 4 (Ex.then (D28.g R) (retQ E [.tmp 2] R)))))) fr h := by
  obtain ⟨a0, l0, c0, e0, g⟩ := gSlice_elim g
  obtain ⟨a5, l5, c5, e5, g⟩ := gSlice_elim g
  obtain ⟨x6, e6, g⟩ := gInt_elim g
  exact den_cut 1 (r := (cAt C [true, true, true, false, true, false, false, true, false, false, true])) (by kernel_rfl) (W53.ok R N44) (den_enter [(0, .slice a0 l0 c0), (5, .slice a5 l5 c5), (6, .int .i64 x6)] ⟨e0, e5, e6, trivial⟩ (by kernel_rfl) g)
theorem B54.ok (R : Rt) (N44 : Option Addr → Nat → Nat → Option Addr → Nat → Nat → Int → Hp → Prop) (fr : Fr) (h : Hp) (g : D47.g R N44 fr h) : den prog E (cAt C [true, true, true, false, true, false, false, true, false]) (Ex.then (D46.g R N44) (Ex.then (L44.g N44) (Ex.inBlock 4 (Ex.then (D28.g R) (retQ E [.tmp 2] R))))) fr h :=
  den_block (by kernel_rfl) (D47.ok R N44 fr h g)
theorem W55.ok (R : Rt) (N44 : Option Addr → Nat → Nat → Option Addr → Nat → Nat → Int → Hp → Prop) (fr : Fr) (h : Hp) (g : D47.g R N44 fr h) : den prog E (cAt C [true, true, true, false, true, false, false, true]) (Ex.then (L44.g N44) (Ex.inBlock 4 (Ex.then (D28.g R) (retQ E [.tmp 2] R)))) fr h :=
  den_then (by kernel_rfl) (D46.ok R N44) (B54.ok R N44 fr h g)
def D45.t (R : Rt) (N44 : Option Addr → Nat → Nat → Option Addr → Nat → Nat → Int → Hp → Prop) (a0 : Option Addr) (l0 : Nat) (c0 : Nat) (a5 : Option Addr) (l5 : Nat) (c5 : Nat) (x6 : Int) (h : Hp) : Prop :=
  cond (decide (x6 < (((l0 : Nat) : Int)))) (D47.t R N44 a0 l0 c0 a5 l5 c5 x6 h) (D28.t R a0 l0 c0 a5 l5 c5 h)
def D45.g (R : Rt) (N44 : Option Addr → Nat → Nat → Option Addr → Nat → Nat → Int → Hp → Prop) (fr : Fr) (h : Hp) : Prop := gSlice (fr 0) fun a0 l0 c0 => gSlice (fr 5) fun a5 l5 c5 => gInt .i64 (fr 6) fun x6 => D45.t R N44 a0 l0 c0 a5 l5 c5 x6 h
theorem D45.ok (R : Rt) (N44 : Option Addr → Nat → Nat → Option Addr → Nat → Nat → Int → Hp → Prop) (fr : Fr) (h : Hp) (g : D45.g R N44 fr h) : den prog E (cAt C [true, true, true, false, true, false, false]) (Ex.then (L44.g N44) (Ex.inBlock 4 (Ex.then (D28.g R) (retQ E [.tmp 2] R)))) fr h := by
  obtain ⟨a0, l0, c0, e0, g⟩ := gSlice_elim g
  obtain ⟨a5, l5, c5, e5, g⟩ := gSlice_elim g
  obtain ⟨x6, e6, g⟩ := gInt_elim g
  exact den_cut 1 (r := (cAt C [true, true, true, false, true, false, false, true])) (by kernel_rfl) (W55.ok R N44) (den_enter [(0, .slice a0 l0 c0), (5, .slice a5 l5 c5), (6, .int .i64 x6)] ⟨e0, e5, e6, trivial⟩ (by kernel_rfl) g)
def L44.t (R : Rt) : Nat → Option Addr → Nat → Nat → Option Addr → Nat → Nat → Int → Hp → Prop
  | 0 => fun _ _ _ _ _ _ _ _ => False
  | n + 1 => fun a0 l0 c0 a5 l5 c5 x6 h => D45.t R (L44.t R n) a0 l0 c0 a5 l5 c5 x6 h
theorem L44.ok (R : Rt) (fr : Fr) (h : Hp) (g : L44.g (fun a0 l0 c0 a5 l5 c5 x6 h => ∃ n, L44.t R n a0 l0 c0 a5 l5 c5 x6 h) fr h) : den prog E (cAt C [true, true, true, false, true, false]) (Ex.inBlock 4 (Ex.then (D28.g R) (retQ E [.tmp 2] R))) fr h := by
  obtain ⟨a0, l0, c0, e0, g⟩ := gSlice_elim g
  obtain ⟨a5, l5, c5, e5, g⟩ := gSlice_elim g
  obtain ⟨x6, e6, g⟩ := gInt_elim g
  obtain ⟨n, g⟩ := g
  refine loop_ok (fun n => L44.g (L44.t R n)) (b := (cAt C [true, true, true, false, true, false, false])) (by kernel_rfl) (fun fr h g => ?_) (fun n => D45.ok R (L44.t R n)) n fr h (gSlice_intro e0 (gSlice_intro e5 (gInt_intro e6 (g))))
  obtain ⟨a0, l0, c0, e0, g⟩ := gSlice_elim g
  obtain ⟨a5, l5, c5, e5, g⟩ := gSlice_elim g
  obtain ⟨x6, e6, g⟩ := gInt_elim g
  exact g
theorem B56.ok (R : Rt) (fr : Fr) (h : Hp) (g : L44.g (fun a0 l0 c0 a5 l5 c5 x6 h => ∃ n, L44.t R n a0 l0 c0 a5 l5 c5 x6 h) fr h) : den prog E (cAt C [true, true, true, false, true]) (Ex.then (D28.g R) (retQ E [.tmp 2] R)) fr h :=
  den_block (by kernel_rfl) (L44.ok R fr h g)
def D43.t (R : Rt) (a0 : Option Addr) (l0 : Nat) (c0 : Nat) (a5 : Option Addr) (l5 : Nat) (c5 : Nat) (h : Hp) : Prop :=
  (∃ n, L44.t R n a0 l0 c0 a5 l5 c5 0 h)
def D43.g (R : Rt) (fr : Fr) (h : Hp) : Prop := gSlice (fr 0) fun a0 l0 c0 => gSlice (fr 5) fun a5 l5 c5 => D43.t R a0 l0 c0 a5 l5 c5 h
theorem D43.ok (R : Rt) (fr : Fr) (h : Hp) (g : D43.g R fr h) : den prog E (cAt C [true, true, true, false]) (Ex.then (D28.g R) (retQ E [.tmp 2] R)) fr h := by
  obtain ⟨a0, l0, c0, e0, g⟩ := gSlice_elim g
  obtain ⟨a5, l5, c5, e5, g⟩ := gSlice_elim g
  exact den_cut 1 (r := (cAt C [true, true, true, false, true])) (by kernel_rfl) (B56.ok R) (den_enter [(0, .slice a0 l0 c0), (5, .slice a5 l5 c5)] ⟨e0, e5, trivial⟩ (by kernel_rfl) g)
theorem W57.ok (R : Rt) (fr : Fr) (h : Hp) (g : D43.g R fr h) : den prog E (cAt C [true, true, true]) (retQ E [.tmp 2] R) fr h :=
  den_then (by kernel_rfl) (W42.ok R) (D43.ok R fr h g)
def D2.t (R : Rt) (a0 : Option Addr) (l0 : Nat) (c0 : Nat) (h : Hp) : Prop :=
  D43.t R a0 l0 c0 none 0 0 h
def D2.g (R : Rt) (fr : Fr) (h : Hp) : Prop := gSlice (fr 0) fun a0 l0 c0 => D2.t R a0 l0 c0 h
theorem D2.ok (R : Rt) (fr : Fr) (h : Hp) (g : D2.g R fr h) : den prog E (cAt C [true, true]) (retQ E [.tmp 2] R) fr h := by
  obtain ⟨a0, l0, c0, e0, g⟩ := gSlice_elim g
  exact den_cut 1 (r := (cAt C [true, true, true])) (by kernel_rfl) (W57.ok R) (den_enter [(0, .slice a0 l0 c0)] ⟨e0, trivial⟩ (by kernel_rfl) g)
def L59.g (N : Option Addr → Nat → Nat → Int → Hp → Prop) (fr : Fr) (h : Hp) : Prop := gSlice (fr 0) fun a0 l0 c0 => gInt .i64 (fr 3) fun x3 => N a0 l0 c0 x3 h
def D61.t (R : Rt) (N59 : Option Addr → Nat → Nat → Int → Hp → Prop) (a0 : Option Addr) (l0 : Nat) (c0 : Nat) (x3 : Int) (h : Hp) : Prop :=
  letK (IntKind.i64.wrap (x3 + 1)) fun n64 => N59 a0 l0 c0 n64 h
def D61.g (R : Rt) (N59 : Option Addr → Nat → Nat → Int → Hp → Prop) (fr : Fr) (h : Hp) : Prop := gSlice (fr 0) fun a0 l0 c0 => gInt .i64 (fr 3) fun x3 => D61.t R N59 a0 l0 c0 x3 h
theorem D61.ok (R : Rt) (N59 : Option Addr → Nat → Nat → Int → Hp → Prop) (fr : Fr) (h : Hp) (g : D61.g R N59 fr h) : den prog E (cAt C [true, false, true, false, false, true, true]) (Ex.then (L59.g N59) (Ex.inBlock 0 (Ex.then (D2.g R) (retQ E [.tmp 2] R)))) fr h := by
  obtain ⟨a0, l0, c0, e0, g⟩ := gSlice_elim g
  obtain ⟨x3, e3, g⟩ := gInt_elim g
  exact den_enter [(0, .slice a0 l0 c0), (3, .int .i64 x3)] ⟨e0, e3, trivial⟩ (by kernel_rfl) g
def L63.g (N : Option Addr → Nat → Nat → Int → Int → Hp → Prop) (fr : Fr) (h : Hp) : Prop := gSlice (fr 0) fun a0 l0 c0 => gInt .i64 (fr 3) fun x3 => gInt .i64 (fr 4) fun x4 => N a0 l0 c0 x3 x4 h
def D64.t (R : Rt) (N59 : Option Addr → Nat → Nat → Int → Hp → Prop) (N63 : Option Addr → Nat → Nat → Int → Int → Hp → Prop) (a0 : Option Addr) (l0 : Nat) (c0 : Nat) (x3 : Int) (x4 : Int) (h : Hp) : Prop :=
  idxK a0 l0 x3 1 fun q65 =>
  ldK h q65 fun v66 =>
  gSlice v66 fun a_67 l_67 c_67 =>
  cond (decide (x4 < (((l_67 : Nat) : Int)))) (idxK a0 l0 x3 1 fun q68 =>
  ldK h q68 fun v69 =>
  gSlice v69 fun a_70 l_70 c_70 =>
  HQC gnomonref01_mark.id #[.int .i64 x3, .int .i64 x4] h fun v71 =>
  gInt .u64 v71 fun x_72 =>
  idxK a_70 l_70 x4 1 fun q73 =>
  stK h q73 (.int .u64 x_72) fun h74 =>
  letK (IntKind.i64.wrap (x4 + 1)) fun n75 =>
  N63 a0 l0 c0 x3 n75 h74) (D61.t R N59 a0 l0 c0 x3 h)
def D64.g (R : Rt) (N59 : Option Addr → Nat → Nat → Int → Hp → Prop) (N63 : Option Addr → Nat → Nat → Int → Int → Hp → Prop) (fr : Fr) (h : Hp) : Prop := gSlice (fr 0) fun a0 l0 c0 => gInt .i64 (fr 3) fun x3 => gInt .i64 (fr 4) fun x4 => D64.t R N59 N63 a0 l0 c0 x3 x4 h
theorem D64.ok (R : Rt) (N59 : Option Addr → Nat → Nat → Int → Hp → Prop) (N63 : Option Addr → Nat → Nat → Int → Int → Hp → Prop) (fr : Fr) (h : Hp) (g : D64.g R N59 N63 fr h) : den prog E (cAt C [true, false, true, false, false, true, false, false, true, false, false]) (Ex.then (L63.g N63) (Ex.inBlock 2 (Ex.inBlock 1 (Ex.then (D61.g R N59) (Ex.then (L59.g N59) (Ex.inBlock 0 (Ex.then (D2.g R) (retQ E [.tmp 2] R)))))))) fr h := by
  obtain ⟨a0, l0, c0, e0, g⟩ := gSlice_elim g
  obtain ⟨x3, e3, g⟩ := gInt_elim g
  obtain ⟨x4, e4, g⟩ := gInt_elim g
  exact den_enter [(0, .slice a0 l0 c0), (3, .int .i64 x3), (4, .int .i64 x4)] ⟨e0, e3, e4, trivial⟩ (by kernel_rfl) g
def L63.t (R : Rt) (N59 : Option Addr → Nat → Nat → Int → Hp → Prop) : Nat → Option Addr → Nat → Nat → Int → Int → Hp → Prop
  | 0 => fun _ _ _ _ _ _ => False
  | n + 1 => fun a0 l0 c0 x3 x4 h => D64.t R N59 (L63.t R N59 n) a0 l0 c0 x3 x4 h
theorem L63.ok (R : Rt) (N59 : Option Addr → Nat → Nat → Int → Hp → Prop) (fr : Fr) (h : Hp) (g : L63.g (fun a0 l0 c0 x3 x4 h => ∃ n, L63.t R N59 n a0 l0 c0 x3 x4 h) fr h) : den prog E (cAt C [true, false, true, false, false, true, false, false, true, false]) (Ex.inBlock 2 (Ex.inBlock 1 (Ex.then (D61.g R N59) (Ex.then (L59.g N59) (Ex.inBlock 0 (Ex.then (D2.g R) (retQ E [.tmp 2] R))))))) fr h := by
  obtain ⟨a0, l0, c0, e0, g⟩ := gSlice_elim g
  obtain ⟨x3, e3, g⟩ := gInt_elim g
  obtain ⟨x4, e4, g⟩ := gInt_elim g
  obtain ⟨n, g⟩ := g
  refine loop_ok (fun n => L63.g (L63.t R N59 n)) (b := (cAt C [true, false, true, false, false, true, false, false, true, false, false])) (by kernel_rfl) (fun fr h g => ?_) (fun n => D64.ok R N59 (L63.t R N59 n)) n fr h (gSlice_intro e0 (gInt_intro e3 (gInt_intro e4 (g))))
  obtain ⟨a0, l0, c0, e0, g⟩ := gSlice_elim g
  obtain ⟨x3, e3, g⟩ := gInt_elim g
  obtain ⟨x4, e4, g⟩ := gInt_elim g
  exact g
theorem B65.ok (R : Rt) (N59 : Option Addr → Nat → Nat → Int → Hp → Prop) (fr : Fr) (h : Hp) (g : L63.g (fun a0 l0 c0 x3 x4 h => ∃ n, L63.t R N59 n a0 l0 c0 x3 x4 h) fr h) : den prog E (cAt C [true, false, true, false, false, true, false, false, true]) (Ex.inBlock 1 (Ex.then (D61.g R N59) (Ex.then (L59.g N59) (Ex.inBlock 0 (Ex.then (D2.g R) (retQ E [.tmp 2] R)))))) fr h :=
  den_block (by kernel_rfl) (L63.ok R N59 fr h g)
def D62.t (R : Rt) (N59 : Option Addr → Nat → Nat → Int → Hp → Prop) (a0 : Option Addr) (l0 : Nat) (c0 : Nat) (x3 : Int) (h : Hp) : Prop :=
  (∃ n, L63.t R N59 n a0 l0 c0 x3 0 h)
def D62.g (R : Rt) (N59 : Option Addr → Nat → Nat → Int → Hp → Prop) (fr : Fr) (h : Hp) : Prop := gSlice (fr 0) fun a0 l0 c0 => gInt .i64 (fr 3) fun x3 => D62.t R N59 a0 l0 c0 x3 h
theorem D62.ok (R : Rt) (N59 : Option Addr → Nat → Nat → Int → Hp → Prop) (fr : Fr) (h : Hp) (g : D62.g R N59 fr h) : den prog E (cAt C [true, false, true, false, false, true, false, false]) (Ex.inBlock 1 (Ex.then (D61.g R N59) (Ex.then (L59.g N59) (Ex.inBlock 0 (Ex.then (D2.g R) (retQ E [.tmp 2] R)))))) fr h := by
  obtain ⟨a0, l0, c0, e0, g⟩ := gSlice_elim g
  obtain ⟨x3, e3, g⟩ := gInt_elim g
  exact den_cut 1 (r := (cAt C [true, false, true, false, false, true, false, false, true])) (by kernel_rfl) (B65.ok R N59) (den_enter [(0, .slice a0 l0 c0), (3, .int .i64 x3)] ⟨e0, e3, trivial⟩ (by kernel_rfl) g)
theorem B66.ok (R : Rt) (N59 : Option Addr → Nat → Nat → Int → Hp → Prop) (fr : Fr) (h : Hp) (g : D62.g R N59 fr h) : den prog E (cAt C [true, false, true, false, false, true, false]) (Ex.then (D61.g R N59) (Ex.then (L59.g N59) (Ex.inBlock 0 (Ex.then (D2.g R) (retQ E [.tmp 2] R))))) fr h :=
  den_block (by kernel_rfl) (D62.ok R N59 fr h g)
theorem W67.ok (R : Rt) (N59 : Option Addr → Nat → Nat → Int → Hp → Prop) (fr : Fr) (h : Hp) (g : D62.g R N59 fr h) : den prog E (cAt C [true, false, true, false, false, true]) (Ex.then (L59.g N59) (Ex.inBlock 0 (Ex.then (D2.g R) (retQ E [.tmp 2] R)))) fr h :=
  den_then (by kernel_rfl) (D61.ok R N59) (B66.ok R N59 fr h g)
def D60.t (R : Rt) (N59 : Option Addr → Nat → Nat → Int → Hp → Prop) (a0 : Option Addr) (l0 : Nat) (c0 : Nat) (x3 : Int) (h : Hp) : Prop :=
  cond (decide (x3 < (((l0 : Nat) : Int)))) (D62.t R N59 a0 l0 c0 x3 h) (D2.t R a0 l0 c0 h)
def D60.g (R : Rt) (N59 : Option Addr → Nat → Nat → Int → Hp → Prop) (fr : Fr) (h : Hp) : Prop := gSlice (fr 0) fun a0 l0 c0 => gInt .i64 (fr 3) fun x3 => D60.t R N59 a0 l0 c0 x3 h
theorem D60.ok (R : Rt) (N59 : Option Addr → Nat → Nat → Int → Hp → Prop) (fr : Fr) (h : Hp) (g : D60.g R N59 fr h) : den prog E (cAt C [true, false, true, false, false]) (Ex.then (L59.g N59) (Ex.inBlock 0 (Ex.then (D2.g R) (retQ E [.tmp 2] R)))) fr h := by
  obtain ⟨a0, l0, c0, e0, g⟩ := gSlice_elim g
  obtain ⟨x3, e3, g⟩ := gInt_elim g
  exact den_cut 1 (r := (cAt C [true, false, true, false, false, true])) (by kernel_rfl) (W67.ok R N59) (den_enter [(0, .slice a0 l0 c0), (3, .int .i64 x3)] ⟨e0, e3, trivial⟩ (by kernel_rfl) g)
def L59.t (R : Rt) : Nat → Option Addr → Nat → Nat → Int → Hp → Prop
  | 0 => fun _ _ _ _ _ => False
  | n + 1 => fun a0 l0 c0 x3 h => D60.t R (L59.t R n) a0 l0 c0 x3 h
theorem L59.ok (R : Rt) (fr : Fr) (h : Hp) (g : L59.g (fun a0 l0 c0 x3 h => ∃ n, L59.t R n a0 l0 c0 x3 h) fr h) : den prog E (cAt C [true, false, true, false]) (Ex.inBlock 0 (Ex.then (D2.g R) (retQ E [.tmp 2] R))) fr h := by
  obtain ⟨a0, l0, c0, e0, g⟩ := gSlice_elim g
  obtain ⟨x3, e3, g⟩ := gInt_elim g
  obtain ⟨n, g⟩ := g
  refine loop_ok (fun n => L59.g (L59.t R n)) (b := (cAt C [true, false, true, false, false])) (by kernel_rfl) (fun fr h g => ?_) (fun n => D60.ok R (L59.t R n)) n fr h (gSlice_intro e0 (gInt_intro e3 (g)))
  obtain ⟨a0, l0, c0, e0, g⟩ := gSlice_elim g
  obtain ⟨x3, e3, g⟩ := gInt_elim g
  exact g
theorem B68.ok (R : Rt) (fr : Fr) (h : Hp) (g : L59.g (fun a0 l0 c0 x3 h => ∃ n, L59.t R n a0 l0 c0 x3 h) fr h) : den prog E (cAt C [true, false, true]) (Ex.then (D2.g R) (retQ E [.tmp 2] R)) fr h :=
  den_block (by kernel_rfl) (L59.ok R fr h g)
def D58.t (R : Rt) (a0 : Option Addr) (l0 : Nat) (c0 : Nat) (h : Hp) : Prop :=
  (∃ n, L59.t R n a0 l0 c0 0 h)
def D58.g (R : Rt) (fr : Fr) (h : Hp) : Prop := gSlice (fr 0) fun a0 l0 c0 => D58.t R a0 l0 c0 h
theorem D58.ok (R : Rt) (fr : Fr) (h : Hp) (g : D58.g R fr h) : den prog E (cAt C [true, false]) (Ex.then (D2.g R) (retQ E [.tmp 2] R)) fr h := by
  obtain ⟨a0, l0, c0, e0, g⟩ := gSlice_elim g
  exact den_cut 1 (r := (cAt C [true, false, true])) (by kernel_rfl) (B68.ok R) (den_enter [(0, .slice a0 l0 c0)] ⟨e0, trivial⟩ (by kernel_rfl) g)
theorem W69.ok (R : Rt) (fr : Fr) (h : Hp) (g : D58.g R fr h) : den prog E (cAt C [true]) (retQ E [.tmp 2] R) fr h :=
  den_then (by kernel_rfl) (D2.ok R) (D58.ok R fr h g)
def D1.t (R : Rt) (a0 : Option Addr) (l0 : Nat) (c0 : Nat) (h : Hp) : Prop :=
  D58.t R a0 l0 c0 h
def D1.g (R : Rt) (fr : Fr) (h : Hp) : Prop := gSlice (fr 0) fun a0 l0 c0 => D1.t R a0 l0 c0 h
theorem D1.ok (R : Rt) (fr : Fr) (h : Hp) (g : D1.g R fr h) : den prog E C (retQ E [.tmp 2] R) fr h := by
  obtain ⟨a0, l0, c0, e0, g⟩ := gSlice_elim g
  exact den_cut 1 (r := (cAt C [true])) (by kernel_rfl) (W69.ok R) (den_enter [(0, .slice a0 l0 c0)] ⟨e0, trivial⟩ (by kernel_rfl) g)
def t (a0 : Option Addr) (l0 : Nat) (c0 : Nat) (h : Hp) (R : Rt) : Prop := D1.t R a0 l0 c0 h
theorem ok {a0 : Option Addr} {l0 : Nat} {c0 : Nat} {h : Hp} {R : Rt} (g : t a0 l0 c0 h R) : HC id #[.slice a0 l0 c0] h R :=
  calls_of_den' envOk (c := C) (rs := [.tmp 2]) Tryd.func43 (by kernel_rfl) (by kernel_rfl) (by kernel_rfl) (args := [.slice a0 l0 c0]) (by kernel_rfl) (D1.ok R _ h (gSlice_intro rfl (g)))
end gnomonref01_Apart

namespace gnomonlaw01_says
noncomputable def C : Code := bodyOf Tryd.f44
def D1.t (R : Rt) (x0_0 : Int) (a0_1 : Option Addr) (l0_1 : Nat) (c0_1 : Nat) (a0_2 : Option Addr) (l0_2 : Nat) (c0_2 : Nat) (x0_3 : Int) (x0_4 : Int) (a1 : Option Addr) (l1 : Nat) (c1 : Nat) (a2 : Option Addr) (l2 : Nat) (c2 : Nat) (h : Hp) : Prop :=
  boxK h 43 [.int .i64 x0_0, .slice a0_1 l0_1 c0_1, .slice a0_2 l0_2 c0_2, .int .i64 x0_3, .int .u64 x0_4] fun q1 h2 =>
  ldK h2 (q1.add 0) fun v3 =>
  gInt .i64 v3 fun x_4 =>
  cond (x_4 == 1) (HC nat_Form.id #[.slice a1 l1 c1] h2 fun v5 h6 =>
  gBool v5 fun b_7 =>
  (Pre h2.size h2 h6) ∧ (q1.add 1).block < h2.size ∧ ldK h6 (q1.add 1) fun v8 =>
  gSlice v8 fun a_9 l_9 c_9 =>
  HC gnomonref01_DocForm.id #[.slice a_9 l_9 c_9] h6 fun v10 h11 =>
  gBool v10 fun b_12 =>
  (Pre h2.size h6 h11) ∧ R (.bool (b_7 == b_12)) h11) (cond (x_4 == 4) (HC nat_Bits.id #[.slice a1 l1 c1] h2 fun v13 h14 =>
  gInt .i64 v13 fun x_15 =>
  (Pre h2.size h2 h14) ∧ (q1.add 1).block < h2.size ∧ ldK h14 (q1.add 1) fun v16 =>
  gSlice v16 fun a_17 l_17 c_17 =>
  HC gnomonref01_DocBits.id #[.slice a_17 l_17 c_17] h14 fun v18 h19 =>
  gInt .i64 v18 fun x_20 =>
  (Pre h2.size h14 h19) ∧ R (.bool (x_15 == x_20)) h19) (cond (x_4 == 5) (HC nat_Trail.id #[.slice a1 l1 c1] h2 fun v21 h22 =>
  gInt .i64 v21 fun x_23 =>
  (Pre h2.size h2 h22) ∧ (q1.add 1).block < h2.size ∧ ldK h22 (q1.add 1) fun v24 =>
  gSlice v24 fun a_25 l_25 c_25 =>
  HC gnomonref01_DocTrail.id #[.slice a_25 l_25 c_25] h22 fun v26 h27 =>
  gInt .i64 v26 fun x_28 =>
  (Pre h2.size h22 h27) ∧ R (.bool (x_23 == x_28)) h27) (cond (x_4 == 6) ((q1.add 3).block < h2.size ∧ ldK h2 (q1.add 3) fun v29 =>
  gInt .i64 v29 fun x_30 =>
  HC nat_Bit.id #[.slice a1 l1 c1, .int .i64 x_30] h2 fun v31 h32 =>
  gBool v31 fun b_33 =>
  (Pre h2.size h2 h32) ∧ (q1.add 1).block < h2.size ∧ ldK h32 (q1.add 1) fun v34 =>
  gSlice v34 fun a_35 l_35 c_35 =>
  (q1.add 3).block < h2.size ∧ ldK h32 (q1.add 3) fun v36 =>
  gInt .i64 v36 fun x_37 =>
  HC gnomonref01_DocBit.id #[.slice a_35 l_35 c_35, .int .i64 x_37] h32 fun v38 h39 =>
  gBool v38 fun b_40 =>
  (Pre h2.size h32 h39) ∧ R (.bool (b_33 == b_40)) h39) (cond (x_4 == 7) (HC nat_Cmp.id #[.slice a1 l1 c1, .slice a2 l2 c2] h2 fun v41 h42 =>
  gInt .i64 v41 fun x_43 =>
  (Pre h2.size h2 h42) ∧ (q1.add 1).block < h2.size ∧ ldK h42 (q1.add 1) fun v44 =>
  gSlice v44 fun a_45 l_45 c_45 =>
  (q1.add 2).block < h2.size ∧ ldK h42 (q1.add 2) fun v46 =>
  gSlice v46 fun a_47 l_47 c_47 =>
  HC gnomonref01_DocCmp.id #[.slice a_45 l_45 c_45, .slice a_47 l_47 c_47] h42 fun v48 h49 =>
  gInt .i64 v48 fun x_50 =>
  (Pre h2.size h42 h49) ∧ R (.bool (x_43 == x_50)) h49) (R (.bool true) h2)))))
def D1.g (R : Rt) (fr : Fr) (h : Hp) : Prop := gAgg (fr 0) fun z0 => uncons z0 fun w0_0 z0_0 => gInt .i64 w0_0 fun x0_0 => uncons z0_0 fun w0_1 z0_1 => gSlice w0_1 fun a0_1 l0_1 c0_1 => uncons z0_1 fun w0_2 z0_2 => gSlice w0_2 fun a0_2 l0_2 c0_2 => uncons z0_2 fun w0_3 z0_3 => gInt .i64 w0_3 fun x0_3 => uncons z0_3 fun w0_4 z0_4 => gInt .u64 w0_4 fun x0_4 => unnil z0_4 <| gSlice (fr 1) fun a1 l1 c1 => gSlice (fr 2) fun a2 l2 c2 => D1.t R x0_0 a0_1 l0_1 c0_1 a0_2 l0_2 c0_2 x0_3 x0_4 a1 l1 c1 a2 l2 c2 h
theorem D1.ok (R : Rt) (fr : Fr) (h : Hp) (g : D1.g R fr h) : den prog E C (retQ E [.tmp 6] R) fr h := by
  obtain ⟨z0, e0, g0_0⟩ := gAgg_elim' g
  obtain ⟨w0_0, z0_0, rfl, g0_0x⟩ := uncons_elim g0_0
  obtain ⟨x0_0, rfl, g0_1⟩ := gInt_elim g0_0x
  obtain ⟨w0_1, z0_1, rfl, g0_1x⟩ := uncons_elim g0_1
  obtain ⟨a0_1, l0_1, c0_1, rfl, g0_2⟩ := gSlice_elim g0_1x
  obtain ⟨w0_2, z0_2, rfl, g0_2x⟩ := uncons_elim g0_2
  obtain ⟨a0_2, l0_2, c0_2, rfl, g0_3⟩ := gSlice_elim g0_2x
  obtain ⟨w0_3, z0_3, rfl, g0_3x⟩ := uncons_elim g0_3
  obtain ⟨x0_3, rfl, g0_4⟩ := gInt_elim g0_3x
  obtain ⟨w0_4, z0_4, rfl, g0_4x⟩ := uncons_elim g0_4
  obtain ⟨x0_4, rfl, g0_5⟩ := gInt_elim g0_4x
  obtain ⟨rfl, g⟩ := unnil_elim g0_5
  obtain ⟨a1, l1, c1, e1, g⟩ := gSlice_elim g
  obtain ⟨a2, l2, c2, e2, g⟩ := gSlice_elim g
  exact den_enter [(0, .agg #[.int .i64 x0_0, .slice a0_1 l0_1 c0_1, .slice a0_2 l0_2 c0_2, .int .i64 x0_3, .int .u64 x0_4]), (1, .slice a1 l1 c1), (2, .slice a2 l2 c2)] ⟨e0, e1, e2, trivial⟩ (by kernel_rfl) g
def t (x0_0 : Int) (a0_1 : Option Addr) (l0_1 : Nat) (c0_1 : Nat) (a0_2 : Option Addr) (l0_2 : Nat) (c0_2 : Nat) (x0_3 : Int) (x0_4 : Int) (a1 : Option Addr) (l1 : Nat) (c1 : Nat) (a2 : Option Addr) (l2 : Nat) (c2 : Nat) (h : Hp) (R : Rt) : Prop := D1.t R x0_0 a0_1 l0_1 c0_1 a0_2 l0_2 c0_2 x0_3 x0_4 a1 l1 c1 a2 l2 c2 h
theorem ok {x0_0 : Int} {a0_1 : Option Addr} {l0_1 : Nat} {c0_1 : Nat} {a0_2 : Option Addr} {l0_2 : Nat} {c0_2 : Nat} {x0_3 : Int} {x0_4 : Int} {a1 : Option Addr} {l1 : Nat} {c1 : Nat} {a2 : Option Addr} {l2 : Nat} {c2 : Nat} {h : Hp} {R : Rt} (g : t x0_0 a0_1 l0_1 c0_1 a0_2 l0_2 c0_2 x0_3 x0_4 a1 l1 c1 a2 l2 c2 h R) : HC id #[.agg #[.int .i64 x0_0, .slice a0_1 l0_1 c0_1, .slice a0_2 l0_2 c0_2, .int .i64 x0_3, .int .u64 x0_4], .slice a1 l1 c1, .slice a2 l2 c2] h R :=
  calls_of_den' envOk (c := C) (rs := [.tmp 6]) Tryd.func44 (by kernel_rfl) (by kernel_rfl) (by kernel_rfl) (args := [.agg #[.int .i64 x0_0, .slice a0_1 l0_1 c0_1, .slice a0_2 l0_2 c0_2, .int .i64 x0_3, .int .u64 x0_4], .slice a1 l1 c1, .slice a2 l2 c2]) (by kernel_rfl) (D1.ok R _ h (gAgg_intro rfl (uncons_intro (gInt_intro rfl (uncons_intro (gSlice_intro rfl (uncons_intro (gSlice_intro rfl (uncons_intro (gInt_intro rfl (uncons_intro (gInt_intro rfl (unnil_intro (gSlice_intro rfl (gSlice_intro rfl (g))))))))))))))))
end gnomonlaw01_says

namespace gnomonref01_Twin
noncomputable def C : Code := bodyOf Tryd.f45
def D1.t (R : Rt) (a0 : Option Addr) (l0 : Nat) (c0 : Nat) (h : Hp) : Prop :=
  mkK h 27 T27 (((l0 : Nat) : Int)) (((l0 : Nat) : Int)) fun q1 h2 =>
  cpK h2 1 (some q1) ((((l0 : Nat) : Int)).toNat) (.slice a0 l0 c0) fun n3 h3 =>
  R (.slice (some q1) ((((l0 : Nat) : Int)).toNat) ((((l0 : Nat) : Int)).toNat)) h3
def D1.g (R : Rt) (fr : Fr) (h : Hp) : Prop := gSlice (fr 0) fun a0 l0 c0 => D1.t R a0 l0 c0 h
theorem D1.ok (R : Rt) (fr : Fr) (h : Hp) (g : D1.g R fr h) : den prog E C (retQ E [.tmp 2] R) fr h := by
  obtain ⟨a0, l0, c0, e0, g⟩ := gSlice_elim g
  exact den_enter [(0, .slice a0 l0 c0)] ⟨e0, trivial⟩ (by kernel_rfl) g
def t (a0 : Option Addr) (l0 : Nat) (c0 : Nat) (h : Hp) (R : Rt) : Prop := D1.t R a0 l0 c0 h
theorem ok {a0 : Option Addr} {l0 : Nat} {c0 : Nat} {h : Hp} {R : Rt} (g : t a0 l0 c0 h R) : HC id #[.slice a0 l0 c0] h R :=
  calls_of_den' envOk (c := C) (rs := [.tmp 2]) Tryd.func45 (by kernel_rfl) (by kernel_rfl) (by kernel_rfl) (args := [.slice a0 l0 c0]) (by kernel_rfl) (D1.ok R _ h (gSlice_intro rfl (g)))
end gnomonref01_Twin

namespace gnomonlaw01_asks
noncomputable def C : Code := bodyOf Tryd.f46
def D1.t (R : Rt) (x0_0 : Int) (a0_1 : Option Addr) (l0_1 : Nat) (c0_1 : Nat) (a0_2 : Option Addr) (l0_2 : Nat) (c0_2 : Nat) (x0_3 : Int) (x0_4 : Int) (h : Hp) : Prop :=
  boxK h 43 [.int .i64 x0_0, .slice a0_1 l0_1 c0_1, .slice a0_2 l0_2 c0_2, .int .i64 x0_3, .int .u64 x0_4] fun q1 h2 =>
  ldK h2 (q1.add 0) fun v3 =>
  gInt .i64 v3 fun x_4 =>
  cond (x_4 == 1) ((q1.add 1).block < h2.size ∧ ldK h2 (q1.add 1) fun v5 =>
  gSlice v5 fun a_6 l_6 c_6 =>
  HC gnomonref01_Twin.id #[.slice a_6 l_6 c_6] h2 fun v7 h8 =>
  gSlice v7 fun a_9 l_9 c_9 =>
  (Pre h2.size h2 h8) ∧ HC nat_Form.id #[.slice a_9 l_9 c_9] h8 fun v10 h11 =>
  gBool v10 fun b_12 =>
  (Pre h2.size h8 h11) ∧ (q1.add 1).block < h2.size ∧ ldK h11 (q1.add 1) fun v13 =>
  gSlice v13 fun a_14 l_14 c_14 =>
  HC gnomonref01_DocForm.id #[.slice a_14 l_14 c_14] h11 fun v15 h16 =>
  gBool v15 fun b_17 =>
  (Pre h2.size h11 h16) ∧ R (.bool (b_12 == b_17)) h16) (cond (x_4 == 4) ((q1.add 1).block < h2.size ∧ ldK h2 (q1.add 1) fun v18 =>
  gSlice v18 fun a_19 l_19 c_19 =>
  HC gnomonref01_Twin.id #[.slice a_19 l_19 c_19] h2 fun v20 h21 =>
  gSlice v20 fun a_22 l_22 c_22 =>
  (Pre h2.size h2 h21) ∧ HC nat_Bits.id #[.slice a_22 l_22 c_22] h21 fun v23 h24 =>
  gInt .i64 v23 fun x_25 =>
  (Pre h2.size h21 h24) ∧ (q1.add 1).block < h2.size ∧ ldK h24 (q1.add 1) fun v26 =>
  gSlice v26 fun a_27 l_27 c_27 =>
  HC gnomonref01_DocBits.id #[.slice a_27 l_27 c_27] h24 fun v28 h29 =>
  gInt .i64 v28 fun x_30 =>
  (Pre h2.size h24 h29) ∧ R (.bool (x_25 == x_30)) h29) (cond (x_4 == 5) ((q1.add 1).block < h2.size ∧ ldK h2 (q1.add 1) fun v31 =>
  gSlice v31 fun a_32 l_32 c_32 =>
  HC gnomonref01_Twin.id #[.slice a_32 l_32 c_32] h2 fun v33 h34 =>
  gSlice v33 fun a_35 l_35 c_35 =>
  (Pre h2.size h2 h34) ∧ HC nat_Trail.id #[.slice a_35 l_35 c_35] h34 fun v36 h37 =>
  gInt .i64 v36 fun x_38 =>
  (Pre h2.size h34 h37) ∧ (q1.add 1).block < h2.size ∧ ldK h37 (q1.add 1) fun v39 =>
  gSlice v39 fun a_40 l_40 c_40 =>
  HC gnomonref01_DocTrail.id #[.slice a_40 l_40 c_40] h37 fun v41 h42 =>
  gInt .i64 v41 fun x_43 =>
  (Pre h2.size h37 h42) ∧ R (.bool (x_38 == x_43)) h42) (cond (x_4 == 6) ((q1.add 1).block < h2.size ∧ ldK h2 (q1.add 1) fun v44 =>
  gSlice v44 fun a_45 l_45 c_45 =>
  HC gnomonref01_Twin.id #[.slice a_45 l_45 c_45] h2 fun v46 h47 =>
  gSlice v46 fun a_48 l_48 c_48 =>
  (Pre h2.size h2 h47) ∧ (q1.add 3).block < h2.size ∧ ldK h47 (q1.add 3) fun v49 =>
  gInt .i64 v49 fun x_50 =>
  HC nat_Bit.id #[.slice a_48 l_48 c_48, .int .i64 x_50] h47 fun v51 h52 =>
  gBool v51 fun b_53 =>
  (Pre h2.size h47 h52) ∧ (q1.add 1).block < h2.size ∧ ldK h52 (q1.add 1) fun v54 =>
  gSlice v54 fun a_55 l_55 c_55 =>
  (q1.add 3).block < h2.size ∧ ldK h52 (q1.add 3) fun v56 =>
  gInt .i64 v56 fun x_57 =>
  HC gnomonref01_DocBit.id #[.slice a_55 l_55 c_55, .int .i64 x_57] h52 fun v58 h59 =>
  gBool v58 fun b_60 =>
  (Pre h2.size h52 h59) ∧ R (.bool (b_53 == b_60)) h59) ((q1.add 1).block < h2.size ∧ ldK h2 (q1.add 1) fun v61 =>
  gSlice v61 fun a_62 l_62 c_62 =>
  HC gnomonref01_Twin.id #[.slice a_62 l_62 c_62] h2 fun v63 h64 =>
  gSlice v63 fun a_65 l_65 c_65 =>
  (Pre h2.size h2 h64) ∧ (q1.add 2).block < h2.size ∧ ldK h64 (q1.add 2) fun v66 =>
  gSlice v66 fun a_67 l_67 c_67 =>
  HC gnomonref01_Twin.id #[.slice a_67 l_67 c_67] h64 fun v68 h69 =>
  gSlice v68 fun a_70 l_70 c_70 =>
  (Pre h2.size h64 h69) ∧ HC nat_Cmp.id #[.slice a_65 l_65 c_65, .slice a_70 l_70 c_70] h69 fun v71 h72 =>
  gInt .i64 v71 fun x_73 =>
  (Pre h2.size h69 h72) ∧ (q1.add 1).block < h2.size ∧ ldK h72 (q1.add 1) fun v74 =>
  gSlice v74 fun a_75 l_75 c_75 =>
  (q1.add 2).block < h2.size ∧ ldK h72 (q1.add 2) fun v76 =>
  gSlice v76 fun a_77 l_77 c_77 =>
  HC gnomonref01_DocCmp.id #[.slice a_75 l_75 c_75, .slice a_77 l_77 c_77] h72 fun v78 h79 =>
  gInt .i64 v78 fun x_80 =>
  (Pre h2.size h72 h79) ∧ R (.bool (x_73 == x_80)) h79))))
def D1.g (R : Rt) (fr : Fr) (h : Hp) : Prop := gAgg (fr 0) fun z0 => uncons z0 fun w0_0 z0_0 => gInt .i64 w0_0 fun x0_0 => uncons z0_0 fun w0_1 z0_1 => gSlice w0_1 fun a0_1 l0_1 c0_1 => uncons z0_1 fun w0_2 z0_2 => gSlice w0_2 fun a0_2 l0_2 c0_2 => uncons z0_2 fun w0_3 z0_3 => gInt .i64 w0_3 fun x0_3 => uncons z0_3 fun w0_4 z0_4 => gInt .u64 w0_4 fun x0_4 => unnil z0_4 <| D1.t R x0_0 a0_1 l0_1 c0_1 a0_2 l0_2 c0_2 x0_3 x0_4 h
theorem D1.ok (R : Rt) (fr : Fr) (h : Hp) (g : D1.g R fr h) : den prog E C (retQ E [.tmp 2] R) fr h := by
  obtain ⟨z0, e0, g0_0⟩ := gAgg_elim' g
  obtain ⟨w0_0, z0_0, rfl, g0_0x⟩ := uncons_elim g0_0
  obtain ⟨x0_0, rfl, g0_1⟩ := gInt_elim g0_0x
  obtain ⟨w0_1, z0_1, rfl, g0_1x⟩ := uncons_elim g0_1
  obtain ⟨a0_1, l0_1, c0_1, rfl, g0_2⟩ := gSlice_elim g0_1x
  obtain ⟨w0_2, z0_2, rfl, g0_2x⟩ := uncons_elim g0_2
  obtain ⟨a0_2, l0_2, c0_2, rfl, g0_3⟩ := gSlice_elim g0_2x
  obtain ⟨w0_3, z0_3, rfl, g0_3x⟩ := uncons_elim g0_3
  obtain ⟨x0_3, rfl, g0_4⟩ := gInt_elim g0_3x
  obtain ⟨w0_4, z0_4, rfl, g0_4x⟩ := uncons_elim g0_4
  obtain ⟨x0_4, rfl, g0_5⟩ := gInt_elim g0_4x
  obtain ⟨rfl, g⟩ := unnil_elim g0_5
  exact den_enter [(0, .agg #[.int .i64 x0_0, .slice a0_1 l0_1 c0_1, .slice a0_2 l0_2 c0_2, .int .i64 x0_3, .int .u64 x0_4])] ⟨e0, trivial⟩ (by kernel_rfl) g
def t (x0_0 : Int) (a0_1 : Option Addr) (l0_1 : Nat) (c0_1 : Nat) (a0_2 : Option Addr) (l0_2 : Nat) (c0_2 : Nat) (x0_3 : Int) (x0_4 : Int) (h : Hp) (R : Rt) : Prop := D1.t R x0_0 a0_1 l0_1 c0_1 a0_2 l0_2 c0_2 x0_3 x0_4 h
theorem ok {x0_0 : Int} {a0_1 : Option Addr} {l0_1 : Nat} {c0_1 : Nat} {a0_2 : Option Addr} {l0_2 : Nat} {c0_2 : Nat} {x0_3 : Int} {x0_4 : Int} {h : Hp} {R : Rt} (g : t x0_0 a0_1 l0_1 c0_1 a0_2 l0_2 c0_2 x0_3 x0_4 h R) : HC id #[.agg #[.int .i64 x0_0, .slice a0_1 l0_1 c0_1, .slice a0_2 l0_2 c0_2, .int .i64 x0_3, .int .u64 x0_4]] h R :=
  calls_of_den' envOk (c := C) (rs := [.tmp 2]) Tryd.func46 (by kernel_rfl) (by kernel_rfl) (by kernel_rfl) (args := [.agg #[.int .i64 x0_0, .slice a0_1 l0_1 c0_1, .slice a0_2 l0_2 c0_2, .int .i64 x0_3, .int .u64 x0_4]]) (by kernel_rfl) (D1.ok R _ h (gAgg_intro rfl (uncons_intro (gInt_intro rfl (uncons_intro (gSlice_intro rfl (uncons_intro (gSlice_intro rfl (uncons_intro (gInt_intro rfl (uncons_intro (gInt_intro rfl (unnil_intro (g))))))))))))))
end gnomonlaw01_asks

namespace bits_LeadingZeros64
noncomputable def C : Code := bodyOf Tryd.f48
def D1.t (R : Rt) (x0 : Int) (h : Hp) : Prop :=
  HC bits_Len64.id #[.int .u64 x0] h fun v1 h2 =>
  gInt .i64 v1 fun x_3 =>
  letK (IntKind.i64.wrap (64 - x_3)) fun n4 =>
  R (.int .i64 n4) h2
def D1.g (R : Rt) (fr : Fr) (h : Hp) : Prop := gInt .u64 (fr 0) fun x0 => D1.t R x0 h
theorem D1.ok (R : Rt) (fr : Fr) (h : Hp) (g : D1.g R fr h) : den prog E C (retQ E [.tmp 2] R) fr h := by
  obtain ⟨x0, e0, g⟩ := gInt_elim g
  exact den_enter [(0, .int .u64 x0)] ⟨e0, trivial⟩ (by kernel_rfl) g
def t (x0 : Int) (h : Hp) (R : Rt) : Prop := D1.t R x0 h
theorem ok {x0 : Int} {h : Hp} {R : Rt} (g : t x0 h R) : HC id #[.int .u64 x0] h R :=
  calls_of_den' envOk (c := C) (rs := [.tmp 2]) Tryd.func48 (by kernel_rfl) (by kernel_rfl) (by kernel_rfl) (args := [.int .u64 x0]) (by kernel_rfl) (D1.ok R _ h (gInt_intro rfl (g)))
end bits_LeadingZeros64

namespace gnomonref01_DocNorm
noncomputable def C : Code := bodyOf Tryd.f49
def D1.t (R : Rt) (a0 : Option Addr) (l0 : Nat) (c0 : Nat) (h : Hp) : Prop :=
  HC gnomonref01_From.id #[.slice a0 l0 c0] h fun v1 h2 =>
  gSlice v1 fun a_3 l_3 c_3 =>
  HC gnomonref01_Told.id #[.slice a_3 l_3 c_3] h2 fun v4 h5 =>
  gTup v4 fun y6 =>
  uncons y6 fun v7 y7 =>
  gSlice v7 fun a_8 l_8 c_8 =>
  uncons y7 fun v9 y9 =>
  gInt .i64 v9 fun x_10 =>
  unnil y9 <| R (.tuple #[.slice a_8 l_8 c_8, .int .i64 x_10]) h5
def D1.g (R : Rt) (fr : Fr) (h : Hp) : Prop := gSlice (fr 0) fun a0 l0 c0 => D1.t R a0 l0 c0 h
theorem D1.ok (R : Rt) (fr : Fr) (h : Hp) (g : D1.g R fr h) : den prog E C (retQ E [.tmp 2, .tmp 3] R) fr h := by
  obtain ⟨a0, l0, c0, e0, g⟩ := gSlice_elim g
  exact den_enter [(0, .slice a0 l0 c0)] ⟨e0, trivial⟩ (by kernel_rfl) g
def t (a0 : Option Addr) (l0 : Nat) (c0 : Nat) (h : Hp) (R : Rt) : Prop := D1.t R a0 l0 c0 h
theorem ok {a0 : Option Addr} {l0 : Nat} {c0 : Nat} {h : Hp} {R : Rt} (g : t a0 l0 c0 h R) : HC id #[.slice a0 l0 c0] h R :=
  calls_of_den' envOk (c := C) (rs := [.tmp 2, .tmp 3]) Tryd.func49 (by kernel_rfl) (by kernel_rfl) (by kernel_rfl) (args := [.slice a0 l0 c0]) (by kernel_rfl) (D1.ok R _ h (gSlice_intro rfl (g)))
end gnomonref01_DocNorm

namespace gnomonref01_DocWord
noncomputable def C : Code := bodyOf Tryd.f50
def D1.t (R : Rt) (x0 : Int) (h : Hp) : Prop :=
  HC gnomonref01_Word.id #[.int .u64 x0] h fun v1 h2 =>
  gSlice v1 fun a_3 l_3 c_3 =>
  HC gnomonref01_To.id #[.slice a_3 l_3 c_3] h2 fun v4 h5 =>
  gSlice v4 fun a_6 l_6 c_6 =>
  R (.slice a_6 l_6 c_6) h5
def D1.g (R : Rt) (fr : Fr) (h : Hp) : Prop := gInt .u64 (fr 0) fun x0 => D1.t R x0 h
theorem D1.ok (R : Rt) (fr : Fr) (h : Hp) (g : D1.g R fr h) : den prog E C (retQ E [.tmp 2] R) fr h := by
  obtain ⟨x0, e0, g⟩ := gInt_elim g
  exact den_enter [(0, .int .u64 x0)] ⟨e0, trivial⟩ (by kernel_rfl) g
def t (x0 : Int) (h : Hp) (R : Rt) : Prop := D1.t R x0 h
theorem ok {x0 : Int} {h : Hp} {R : Rt} (g : t x0 h R) : HC id #[.int .u64 x0] h R :=
  calls_of_den' envOk (c := C) (rs := [.tmp 2]) Tryd.func50 (by kernel_rfl) (by kernel_rfl) (by kernel_rfl) (args := [.int .u64 x0]) (by kernel_rfl) (D1.ok R _ h (gInt_intro rfl (g)))
end gnomonref01_DocWord

namespace gnomonref01_DocAdd
noncomputable def C : Code := bodyOf Tryd.f51
def D2.t (R : Rt) (a0 : Option Addr) (l0 : Nat) (c0 : Nat) (a1 : Option Addr) (l1 : Nat) (c1 : Nat) (h : Hp) : Prop :=
  HC gnomonref01_From.id #[.slice a0 l0 c0] h fun v7 h8 =>
  gSlice v7 fun a_9 l_9 c_9 =>
  HC gnomonref01_From.id #[.slice a1 l1 c1] h8 fun v10 h11 =>
  gSlice v10 fun a_12 l_12 c_12 =>
  HC gnomonref01_Add.id #[.slice a_9 l_9 c_9, .slice a_12 l_12 c_12] h11 fun v13 h14 =>
  gSlice v13 fun a_15 l_15 c_15 =>
  HC gnomonref01_Told.id #[.slice a_15 l_15 c_15] h14 fun v16 h17 =>
  gTup v16 fun y18 =>
  uncons y18 fun v19 y19 =>
  gSlice v19 fun a_20 l_20 c_20 =>
  uncons y19 fun v21 y21 =>
  gInt .i64 v21 fun x_22 =>
  unnil y21 <| R (.tuple #[.slice a_20 l_20 c_20, .int .i64 x_22]) h17
def D2.g (R : Rt) (fr : Fr) (h : Hp) : Prop := gSlice (fr 0) fun a0 l0 c0 => gSlice (fr 1) fun a1 l1 c1 => D2.t R a0 l0 c0 a1 l1 c1 h
theorem D2.ok (R : Rt) (fr : Fr) (h : Hp) (g : D2.g R fr h) : den prog E (cAt C [true, true]) (retQ E [.tmp 4, .tmp 5] R) fr h := by
  obtain ⟨a0, l0, c0, e0, g⟩ := gSlice_elim g
  obtain ⟨a1, l1, c1, e1, g⟩ := gSlice_elim g
  exact den_enter [(0, .slice a0 l0 c0), (1, .slice a1 l1 c1)] ⟨e0, e1, trivial⟩ (by kernel_rfl) g
def D1.t (R : Rt) (a0 : Option Addr) (l0 : Nat) (c0 : Nat) (a1 : Option Addr) (l1 : Nat) (c1 : Nat) (h : Hp) : Prop :=
  HC gnomonref01_DocForm.id #[.slice a0 l0 c0] h fun v1 h2 =>
  gBool v1 fun b_3 =>
  cond (!b_3) (R (.tuple #[.slice none 0 0, .int .i64 2]) h2) (HC gnomonref01_DocForm.id #[.slice a1 l1 c1] h2 fun v4 h5 =>
  gBool v4 fun b_6 =>
  cond (!b_6) (R (.tuple #[.slice none 0 0, .int .i64 2]) h5) (D2.t R a0 l0 c0 a1 l1 c1 h5))
def D1.g (R : Rt) (fr : Fr) (h : Hp) : Prop := gSlice (fr 0) fun a0 l0 c0 => gSlice (fr 1) fun a1 l1 c1 => D1.t R a0 l0 c0 a1 l1 c1 h
theorem D1.ok (R : Rt) (fr : Fr) (h : Hp) (g : D1.g R fr h) : den prog E C (retQ E [.tmp 4, .tmp 5] R) fr h := by
  obtain ⟨a0, l0, c0, e0, g⟩ := gSlice_elim g
  obtain ⟨a1, l1, c1, e1, g⟩ := gSlice_elim g
  exact den_cut 2 (r := (cAt C [true, true])) (by kernel_rfl) (D2.ok R) (den_enter [(0, .slice a0 l0 c0), (1, .slice a1 l1 c1)] ⟨e0, e1, trivial⟩ (by kernel_rfl) g)
def t (a0 : Option Addr) (l0 : Nat) (c0 : Nat) (a1 : Option Addr) (l1 : Nat) (c1 : Nat) (h : Hp) (R : Rt) : Prop := D1.t R a0 l0 c0 a1 l1 c1 h
theorem ok {a0 : Option Addr} {l0 : Nat} {c0 : Nat} {a1 : Option Addr} {l1 : Nat} {c1 : Nat} {h : Hp} {R : Rt} (g : t a0 l0 c0 a1 l1 c1 h R) : HC id #[.slice a0 l0 c0, .slice a1 l1 c1] h R :=
  calls_of_den' envOk (c := C) (rs := [.tmp 4, .tmp 5]) Tryd.func51 (by kernel_rfl) (by kernel_rfl) (by kernel_rfl) (args := [.slice a0 l0 c0, .slice a1 l1 c1]) (by kernel_rfl) (D1.ok R _ h (gSlice_intro rfl (gSlice_intro rfl (g))))
end gnomonref01_DocAdd

namespace gnomonref01_DocSub
noncomputable def C : Code := bodyOf Tryd.f52
def D2.t (R : Rt) (a0 : Option Addr) (l0 : Nat) (c0 : Nat) (a1 : Option Addr) (l1 : Nat) (c1 : Nat) (h : Hp) : Prop :=
  HC gnomonref01_From.id #[.slice a0 l0 c0] h fun v7 h8 =>
  gSlice v7 fun a_9 l_9 c_9 =>
  HC gnomonref01_From.id #[.slice a1 l1 c1] h8 fun v10 h11 =>
  gSlice v10 fun a_12 l_12 c_12 =>
  HC gnomonref01_Cmp.id #[.slice a_9 l_9 c_9, .slice a_12 l_12 c_12] h11 fun v13 h14 =>
  gInt .i64 v13 fun x_15 =>
  cond (decide (x_15 < 0)) (R (.tuple #[.slice none 0 0, .int .i64 3]) h14) (HC gnomonref01_From.id #[.slice a0 l0 c0] h14 fun v16 h17 =>
  gSlice v16 fun a_18 l_18 c_18 =>
  HC gnomonref01_From.id #[.slice a1 l1 c1] h17 fun v19 h20 =>
  gSlice v19 fun a_21 l_21 c_21 =>
  HC gnomonref01_Sub.id #[.slice a_18 l_18 c_18, .slice a_21 l_21 c_21] h20 fun v22 h23 =>
  gSlice v22 fun a_24 l_24 c_24 =>
  HC gnomonref01_Told.id #[.slice a_24 l_24 c_24] h23 fun v25 h26 =>
  gTup v25 fun y27 =>
  uncons y27 fun v28 y28 =>
  gSlice v28 fun a_29 l_29 c_29 =>
  uncons y28 fun v30 y30 =>
  gInt .i64 v30 fun x_31 =>
  unnil y30 <| R (.tuple #[.slice a_29 l_29 c_29, .int .i64 x_31]) h26)
def D2.g (R : Rt) (fr : Fr) (h : Hp) : Prop := gSlice (fr 0) fun a0 l0 c0 => gSlice (fr 1) fun a1 l1 c1 => D2.t R a0 l0 c0 a1 l1 c1 h
theorem D2.ok (R : Rt) (fr : Fr) (h : Hp) (g : D2.g R fr h) : den prog E (cAt C [true, true]) (retQ E [.tmp 4, .tmp 5] R) fr h := by
  obtain ⟨a0, l0, c0, e0, g⟩ := gSlice_elim g
  obtain ⟨a1, l1, c1, e1, g⟩ := gSlice_elim g
  exact den_enter [(0, .slice a0 l0 c0), (1, .slice a1 l1 c1)] ⟨e0, e1, trivial⟩ (by kernel_rfl) g
def D1.t (R : Rt) (a0 : Option Addr) (l0 : Nat) (c0 : Nat) (a1 : Option Addr) (l1 : Nat) (c1 : Nat) (h : Hp) : Prop :=
  HC gnomonref01_DocForm.id #[.slice a0 l0 c0] h fun v1 h2 =>
  gBool v1 fun b_3 =>
  cond (!b_3) (R (.tuple #[.slice none 0 0, .int .i64 2]) h2) (HC gnomonref01_DocForm.id #[.slice a1 l1 c1] h2 fun v4 h5 =>
  gBool v4 fun b_6 =>
  cond (!b_6) (R (.tuple #[.slice none 0 0, .int .i64 2]) h5) (D2.t R a0 l0 c0 a1 l1 c1 h5))
def D1.g (R : Rt) (fr : Fr) (h : Hp) : Prop := gSlice (fr 0) fun a0 l0 c0 => gSlice (fr 1) fun a1 l1 c1 => D1.t R a0 l0 c0 a1 l1 c1 h
theorem D1.ok (R : Rt) (fr : Fr) (h : Hp) (g : D1.g R fr h) : den prog E C (retQ E [.tmp 4, .tmp 5] R) fr h := by
  obtain ⟨a0, l0, c0, e0, g⟩ := gSlice_elim g
  obtain ⟨a1, l1, c1, e1, g⟩ := gSlice_elim g
  exact den_cut 2 (r := (cAt C [true, true])) (by kernel_rfl) (D2.ok R) (den_enter [(0, .slice a0 l0 c0), (1, .slice a1 l1 c1)] ⟨e0, e1, trivial⟩ (by kernel_rfl) g)
def t (a0 : Option Addr) (l0 : Nat) (c0 : Nat) (a1 : Option Addr) (l1 : Nat) (c1 : Nat) (h : Hp) (R : Rt) : Prop := D1.t R a0 l0 c0 a1 l1 c1 h
theorem ok {a0 : Option Addr} {l0 : Nat} {c0 : Nat} {a1 : Option Addr} {l1 : Nat} {c1 : Nat} {h : Hp} {R : Rt} (g : t a0 l0 c0 a1 l1 c1 h R) : HC id #[.slice a0 l0 c0, .slice a1 l1 c1] h R :=
  calls_of_den' envOk (c := C) (rs := [.tmp 4, .tmp 5]) Tryd.func52 (by kernel_rfl) (by kernel_rfl) (by kernel_rfl) (args := [.slice a0 l0 c0, .slice a1 l1 c1]) (by kernel_rfl) (D1.ok R _ h (gSlice_intro rfl (gSlice_intro rfl (g))))
end gnomonref01_DocSub

namespace gnomonref01_DocShl
noncomputable def C : Code := bodyOf Tryd.f53
def D1.t (R : Rt) (a0 : Option Addr) (l0 : Nat) (c0 : Nat) (x1 : Int) (h : Hp) : Prop :=
  cond (decide (x1 < 0)) (R (.tuple #[.slice none 0 0, .int .i64 1]) h) (HC gnomonref01_DocForm.id #[.slice a0 l0 c0] h fun v1 h2 =>
  gBool v1 fun b_3 =>
  cond (!b_3) (R (.tuple #[.slice none 0 0, .int .i64 2]) h2) (cond ((((l0 : Nat) : Int)) == 0) (R (.tuple #[.slice none 0 0, .int .i64 0]) h2) (cond (decide (x1 > 524288)) (R (.tuple #[.slice none 0 0, .int .i64 5]) h2) (HC gnomonref01_From.id #[.slice a0 l0 c0] h2 fun v4 h5 =>
  gSlice v4 fun a_6 l_6 c_6 =>
  HC gnomonref01_Shl.id #[.slice a_6 l_6 c_6, .int .i64 x1] h5 fun v7 h8 =>
  gSlice v7 fun a_9 l_9 c_9 =>
  HC gnomonref01_Told.id #[.slice a_9 l_9 c_9] h8 fun v10 h11 =>
  gTup v10 fun y12 =>
  uncons y12 fun v13 y13 =>
  gSlice v13 fun a_14 l_14 c_14 =>
  uncons y13 fun v15 y15 =>
  gInt .i64 v15 fun x_16 =>
  unnil y15 <| R (.tuple #[.slice a_14 l_14 c_14, .int .i64 x_16]) h11))))
def D1.g (R : Rt) (fr : Fr) (h : Hp) : Prop := gSlice (fr 0) fun a0 l0 c0 => gInt .i64 (fr 1) fun x1 => D1.t R a0 l0 c0 x1 h
theorem D1.ok (R : Rt) (fr : Fr) (h : Hp) (g : D1.g R fr h) : den prog E C (retQ E [.tmp 4, .tmp 5] R) fr h := by
  obtain ⟨a0, l0, c0, e0, g⟩ := gSlice_elim g
  obtain ⟨x1, e1, g⟩ := gInt_elim g
  exact den_enter [(0, .slice a0 l0 c0), (1, .int .i64 x1)] ⟨e0, e1, trivial⟩ (by kernel_rfl) g
def t (a0 : Option Addr) (l0 : Nat) (c0 : Nat) (x1 : Int) (h : Hp) (R : Rt) : Prop := D1.t R a0 l0 c0 x1 h
theorem ok {a0 : Option Addr} {l0 : Nat} {c0 : Nat} {x1 : Int} {h : Hp} {R : Rt} (g : t a0 l0 c0 x1 h R) : HC id #[.slice a0 l0 c0, .int .i64 x1] h R :=
  calls_of_den' envOk (c := C) (rs := [.tmp 4, .tmp 5]) Tryd.func53 (by kernel_rfl) (by kernel_rfl) (by kernel_rfl) (args := [.slice a0 l0 c0, .int .i64 x1]) (by kernel_rfl) (D1.ok R _ h (gSlice_intro rfl (gInt_intro rfl (g))))
end gnomonref01_DocShl

namespace gnomonref01_DocShr
noncomputable def C : Code := bodyOf Tryd.f54
def D1.t (R : Rt) (a0 : Option Addr) (l0 : Nat) (c0 : Nat) (x1 : Int) (h : Hp) : Prop :=
  cond (decide (x1 < 0)) (R (.tuple #[.slice none 0 0, .int .i64 1]) h) (HC gnomonref01_DocForm.id #[.slice a0 l0 c0] h fun v1 h2 =>
  gBool v1 fun b_3 =>
  cond (!b_3) (R (.tuple #[.slice none 0 0, .int .i64 2]) h2) (HC gnomonref01_From.id #[.slice a0 l0 c0] h2 fun v4 h5 =>
  gSlice v4 fun a_6 l_6 c_6 =>
  HC gnomonref01_Shr.id #[.slice a_6 l_6 c_6, .int .i64 x1] h5 fun v7 h8 =>
  gSlice v7 fun a_9 l_9 c_9 =>
  HC gnomonref01_Told.id #[.slice a_9 l_9 c_9] h8 fun v10 h11 =>
  gTup v10 fun y12 =>
  uncons y12 fun v13 y13 =>
  gSlice v13 fun a_14 l_14 c_14 =>
  uncons y13 fun v15 y15 =>
  gInt .i64 v15 fun x_16 =>
  unnil y15 <| R (.tuple #[.slice a_14 l_14 c_14, .int .i64 x_16]) h11))
def D1.g (R : Rt) (fr : Fr) (h : Hp) : Prop := gSlice (fr 0) fun a0 l0 c0 => gInt .i64 (fr 1) fun x1 => D1.t R a0 l0 c0 x1 h
theorem D1.ok (R : Rt) (fr : Fr) (h : Hp) (g : D1.g R fr h) : den prog E C (retQ E [.tmp 4, .tmp 5] R) fr h := by
  obtain ⟨a0, l0, c0, e0, g⟩ := gSlice_elim g
  obtain ⟨x1, e1, g⟩ := gInt_elim g
  exact den_enter [(0, .slice a0 l0 c0), (1, .int .i64 x1)] ⟨e0, e1, trivial⟩ (by kernel_rfl) g
def t (a0 : Option Addr) (l0 : Nat) (c0 : Nat) (x1 : Int) (h : Hp) (R : Rt) : Prop := D1.t R a0 l0 c0 x1 h
theorem ok {a0 : Option Addr} {l0 : Nat} {c0 : Nat} {x1 : Int} {h : Hp} {R : Rt} (g : t a0 l0 c0 x1 h R) : HC id #[.slice a0 l0 c0, .int .i64 x1] h R :=
  calls_of_den' envOk (c := C) (rs := [.tmp 4, .tmp 5]) Tryd.func54 (by kernel_rfl) (by kernel_rfl) (by kernel_rfl) (args := [.slice a0 l0 c0, .int .i64 x1]) (by kernel_rfl) (D1.ok R _ h (gSlice_intro rfl (gInt_intro rfl (g))))
end gnomonref01_DocShr

namespace gnomonref01_DocLow
noncomputable def C : Code := bodyOf Tryd.f55
def D1.t (R : Rt) (a0 : Option Addr) (l0 : Nat) (c0 : Nat) (x1 : Int) (h : Hp) : Prop :=
  cond (decide (x1 < 0)) (R (.tuple #[.slice none 0 0, .int .i64 1]) h) (HC gnomonref01_DocForm.id #[.slice a0 l0 c0] h fun v1 h2 =>
  gBool v1 fun b_3 =>
  cond (!b_3) (R (.tuple #[.slice none 0 0, .int .i64 2]) h2) (HC gnomonref01_From.id #[.slice a0 l0 c0] h2 fun v4 h5 =>
  gSlice v4 fun a_6 l_6 c_6 =>
  HC gnomonref01_Low.id #[.slice a_6 l_6 c_6, .int .i64 x1] h5 fun v7 h8 =>
  gSlice v7 fun a_9 l_9 c_9 =>
  HC gnomonref01_Told.id #[.slice a_9 l_9 c_9] h8 fun v10 h11 =>
  gTup v10 fun y12 =>
  uncons y12 fun v13 y13 =>
  gSlice v13 fun a_14 l_14 c_14 =>
  uncons y13 fun v15 y15 =>
  gInt .i64 v15 fun x_16 =>
  unnil y15 <| R (.tuple #[.slice a_14 l_14 c_14, .int .i64 x_16]) h11))
def D1.g (R : Rt) (fr : Fr) (h : Hp) : Prop := gSlice (fr 0) fun a0 l0 c0 => gInt .i64 (fr 1) fun x1 => D1.t R a0 l0 c0 x1 h
theorem D1.ok (R : Rt) (fr : Fr) (h : Hp) (g : D1.g R fr h) : den prog E C (retQ E [.tmp 4, .tmp 5] R) fr h := by
  obtain ⟨a0, l0, c0, e0, g⟩ := gSlice_elim g
  obtain ⟨x1, e1, g⟩ := gInt_elim g
  exact den_enter [(0, .slice a0 l0 c0), (1, .int .i64 x1)] ⟨e0, e1, trivial⟩ (by kernel_rfl) g
def t (a0 : Option Addr) (l0 : Nat) (c0 : Nat) (x1 : Int) (h : Hp) (R : Rt) : Prop := D1.t R a0 l0 c0 x1 h
theorem ok {a0 : Option Addr} {l0 : Nat} {c0 : Nat} {x1 : Int} {h : Hp} {R : Rt} (g : t a0 l0 c0 x1 h R) : HC id #[.slice a0 l0 c0, .int .i64 x1] h R :=
  calls_of_den' envOk (c := C) (rs := [.tmp 4, .tmp 5]) Tryd.func55 (by kernel_rfl) (by kernel_rfl) (by kernel_rfl) (args := [.slice a0 l0 c0, .int .i64 x1]) (by kernel_rfl) (D1.ok R _ h (gSlice_intro rfl (gInt_intro rfl (g))))
end gnomonref01_DocLow

namespace gnomonref01_DocMulWord
noncomputable def C : Code := bodyOf Tryd.f56
def D1.t (R : Rt) (a0 : Option Addr) (l0 : Nat) (c0 : Nat) (x1 : Int) (h : Hp) : Prop :=
  HC gnomonref01_DocForm.id #[.slice a0 l0 c0] h fun v1 h2 =>
  gBool v1 fun b_3 =>
  cond (!b_3) (R (.tuple #[.slice none 0 0, .int .i64 2]) h2) (HC gnomonref01_From.id #[.slice a0 l0 c0] h2 fun v4 h5 =>
  gSlice v4 fun a_6 l_6 c_6 =>
  HC gnomonref01_Word.id #[.int .u64 x1] h5 fun v7 h8 =>
  gSlice v7 fun a_9 l_9 c_9 =>
  HC gnomonref01_Mul.id #[.slice a_6 l_6 c_6, .slice a_9 l_9 c_9] h8 fun v10 h11 =>
  gSlice v10 fun a_12 l_12 c_12 =>
  HC gnomonref01_Told.id #[.slice a_12 l_12 c_12] h11 fun v13 h14 =>
  gTup v13 fun y15 =>
  uncons y15 fun v16 y16 =>
  gSlice v16 fun a_17 l_17 c_17 =>
  uncons y16 fun v18 y18 =>
  gInt .i64 v18 fun x_19 =>
  unnil y18 <| R (.tuple #[.slice a_17 l_17 c_17, .int .i64 x_19]) h14)
def D1.g (R : Rt) (fr : Fr) (h : Hp) : Prop := gSlice (fr 0) fun a0 l0 c0 => gInt .u64 (fr 1) fun x1 => D1.t R a0 l0 c0 x1 h
theorem D1.ok (R : Rt) (fr : Fr) (h : Hp) (g : D1.g R fr h) : den prog E C (retQ E [.tmp 4, .tmp 5] R) fr h := by
  obtain ⟨a0, l0, c0, e0, g⟩ := gSlice_elim g
  obtain ⟨x1, e1, g⟩ := gInt_elim g
  exact den_enter [(0, .slice a0 l0 c0), (1, .int .u64 x1)] ⟨e0, e1, trivial⟩ (by kernel_rfl) g
def t (a0 : Option Addr) (l0 : Nat) (c0 : Nat) (x1 : Int) (h : Hp) (R : Rt) : Prop := D1.t R a0 l0 c0 x1 h
theorem ok {a0 : Option Addr} {l0 : Nat} {c0 : Nat} {x1 : Int} {h : Hp} {R : Rt} (g : t a0 l0 c0 x1 h R) : HC id #[.slice a0 l0 c0, .int .u64 x1] h R :=
  calls_of_den' envOk (c := C) (rs := [.tmp 4, .tmp 5]) Tryd.func56 (by kernel_rfl) (by kernel_rfl) (by kernel_rfl) (args := [.slice a0 l0 c0, .int .u64 x1]) (by kernel_rfl) (D1.ok R _ h (gSlice_intro rfl (gInt_intro rfl (g))))
end gnomonref01_DocMulWord

namespace gnomonref01_DocDivWord
noncomputable def C : Code := bodyOf Tryd.f57
def D1.t (R : Rt) (a0 : Option Addr) (l0 : Nat) (c0 : Nat) (x1 : Int) (h : Hp) : Prop :=
  HC gnomonref01_DocForm.id #[.slice a0 l0 c0] h fun v1 h2 =>
  gBool v1 fun b_3 =>
  cond (!b_3) (R (.tuple #[.slice none 0 0, .int .u64 0, .int .i64 2]) h2) (cond (x1 == 0) (R (.tuple #[.slice none 0 0, .int .u64 0, .int .i64 4]) h2) (HC gnomonref01_From.id #[.slice a0 l0 c0] h2 fun v4 h5 =>
  gSlice v4 fun a_6 l_6 c_6 =>
  HC gnomonref01_Word.id #[.int .u64 x1] h5 fun v7 h8 =>
  gSlice v7 fun a_9 l_9 c_9 =>
  HC gnomonref01_DivMod.id #[.slice a_6 l_6 c_6, .slice a_9 l_9 c_9] h8 fun v10 h11 =>
  gTup v10 fun y12 =>
  uncons y12 fun v13 y13 =>
  gSlice v13 fun a_14 l_14 c_14 =>
  uncons y13 fun v15 y15 =>
  gSlice v15 fun a_16 l_16 c_16 =>
  unnil y15 <| HC gnomonref01_Fits.id #[.slice a_16 l_16 c_16] h11 fun v17 h18 =>
  gTup v17 fun y19 =>
  uncons y19 fun v20 y20 =>
  gInt .u64 v20 fun x_21 =>
  uncons y20 fun v22 y22 =>
  gBool v22 fun b_23 =>
  unnil y22 <| HC gnomonref01_To.id #[.slice a_14 l_14 c_14] h18 fun v24 h25 =>
  gSlice v24 fun a_26 l_26 c_26 =>
  R (.tuple #[.slice a_26 l_26 c_26, .int .u64 x_21, .int .i64 0]) h25))
def D1.g (R : Rt) (fr : Fr) (h : Hp) : Prop := gSlice (fr 0) fun a0 l0 c0 => gInt .u64 (fr 1) fun x1 => D1.t R a0 l0 c0 x1 h
theorem D1.ok (R : Rt) (fr : Fr) (h : Hp) (g : D1.g R fr h) : den prog E C (retQ E [.tmp 4, .tmp 5, .tmp 6] R) fr h := by
  obtain ⟨a0, l0, c0, e0, g⟩ := gSlice_elim g
  obtain ⟨x1, e1, g⟩ := gInt_elim g
  exact den_enter [(0, .slice a0 l0 c0), (1, .int .u64 x1)] ⟨e0, e1, trivial⟩ (by kernel_rfl) g
def t (a0 : Option Addr) (l0 : Nat) (c0 : Nat) (x1 : Int) (h : Hp) (R : Rt) : Prop := D1.t R a0 l0 c0 x1 h
theorem ok {a0 : Option Addr} {l0 : Nat} {c0 : Nat} {x1 : Int} {h : Hp} {R : Rt} (g : t a0 l0 c0 x1 h R) : HC id #[.slice a0 l0 c0, .int .u64 x1] h R :=
  calls_of_den' envOk (c := C) (rs := [.tmp 4, .tmp 5, .tmp 6]) Tryd.func57 (by kernel_rfl) (by kernel_rfl) (by kernel_rfl) (args := [.slice a0 l0 c0, .int .u64 x1]) (by kernel_rfl) (D1.ok R _ h (gSlice_intro rfl (gInt_intro rfl (g))))
end gnomonref01_DocDivWord

namespace gnomonref01_mark
noncomputable def C : Code := bodyOf Tryd.f58
def D1.t (R : Rt) (x0 : Int) (x1 : Int) (h : Hp) : Prop :=
  letK (IntKind.i64.wrap (x0 + 1)) fun n1 =>
  letK (IntKind.u64.wrap n1) fun n2 =>
  0 ≤ (24 : Int) ∧ letK (shlI .u64 n2 24) fun n3 =>
  letK (IntKind.u64.wrap (11944390636716687360 + n3)) fun n4 =>
  letK (IntKind.u64.wrap x1) fun n5 =>
  letK (IntKind.u64.wrap (n4 + n5)) fun n6 =>
  R (.int .u64 n6) h
def D1.g (R : Rt) (fr : Fr) (h : Hp) : Prop := gInt .i64 (fr 0) fun x0 => gInt .i64 (fr 1) fun x1 => D1.t R x0 x1 h
theorem D1.ok (R : Rt) (fr : Fr) (h : Hp) (g : D1.g R fr h) : den prog E C (retQ E [.tmp 4] R) fr h := by
  obtain ⟨x0, e0, g⟩ := gInt_elim g
  obtain ⟨x1, e1, g⟩ := gInt_elim g
  exact den_enter [(0, .int .i64 x0), (1, .int .i64 x1)] ⟨e0, e1, trivial⟩ (by kernel_rfl) g
def t (x0 : Int) (x1 : Int) (h : Hp) (R : Rt) : Prop := D1.t R x0 x1 h
theorem ok {x0 : Int} {x1 : Int} {h : Hp} {R : Rt} (g : t x0 x1 h R) : HC id #[.int .i64 x0, .int .i64 x1] h R :=
  calls_of_den' envOk (c := C) (rs := [.tmp 4]) Tryd.func58 (by kernel_rfl) (by kernel_rfl) (by kernel_rfl) (args := [.int .i64 x0, .int .i64 x1]) (by kernel_rfl) (D1.ok R _ h (gInt_intro rfl (gInt_intro rfl (g))))
end gnomonref01_mark

namespace gnomonref01_DocForm
noncomputable def C : Code := bodyOf Tryd.f59
def D1.t (R : Rt) (a0 : Option Addr) (l0 : Nat) (c0 : Nat) (h : Hp) : Prop :=
  cond (decide ((((l0 : Nat) : Int)) ≤ 8192)) (cond ((((l0 : Nat) : Int)) == 0) (R (.bool true) h) (letK (IntKind.i64.wrap ((((l0 : Nat) : Int)) - 1)) fun n1 =>
  idxK a0 l0 n1 1 fun q2 =>
  ldK h q2 fun v3 =>
  gInt .u64 v3 fun x_4 =>
  R (.bool (x_4 != 0)) h)) (R (.bool false) h)
def D1.g (R : Rt) (fr : Fr) (h : Hp) : Prop := gSlice (fr 0) fun a0 l0 c0 => D1.t R a0 l0 c0 h
theorem D1.ok (R : Rt) (fr : Fr) (h : Hp) (g : D1.g R fr h) : den prog E C (retQ E [.tmp 2] R) fr h := by
  obtain ⟨a0, l0, c0, e0, g⟩ := gSlice_elim g
  exact den_enter [(0, .slice a0 l0 c0)] ⟨e0, trivial⟩ (by kernel_rfl) g
def t (a0 : Option Addr) (l0 : Nat) (c0 : Nat) (h : Hp) (R : Rt) : Prop := D1.t R a0 l0 c0 h
theorem ok {a0 : Option Addr} {l0 : Nat} {c0 : Nat} {h : Hp} {R : Rt} (g : t a0 l0 c0 h R) : HC id #[.slice a0 l0 c0] h R :=
  calls_of_den' envOk (c := C) (rs := [.tmp 2]) Tryd.func59 (by kernel_rfl) (by kernel_rfl) (by kernel_rfl) (args := [.slice a0 l0 c0]) (by kernel_rfl) (D1.ok R _ h (gSlice_intro rfl (g)))
end gnomonref01_DocForm

namespace gnomonref01_DocBits
noncomputable def C : Code := bodyOf Tryd.f60
def D1.t (R : Rt) (a0 : Option Addr) (l0 : Nat) (c0 : Nat) (h : Hp) : Prop :=
  HC gnomonref01_From.id #[.slice a0 l0 c0] h fun v1 h2 =>
  gSlice v1 fun a_3 l_3 c_3 =>
  HC gnomonref01_Bits.id #[.slice a_3 l_3 c_3] h2 fun v4 h5 =>
  gInt .i64 v4 fun x_6 =>
  R (.int .i64 x_6) h5
def D1.g (R : Rt) (fr : Fr) (h : Hp) : Prop := gSlice (fr 0) fun a0 l0 c0 => D1.t R a0 l0 c0 h
theorem D1.ok (R : Rt) (fr : Fr) (h : Hp) (g : D1.g R fr h) : den prog E C (retQ E [.tmp 2] R) fr h := by
  obtain ⟨a0, l0, c0, e0, g⟩ := gSlice_elim g
  exact den_enter [(0, .slice a0 l0 c0)] ⟨e0, trivial⟩ (by kernel_rfl) g
def t (a0 : Option Addr) (l0 : Nat) (c0 : Nat) (h : Hp) (R : Rt) : Prop := D1.t R a0 l0 c0 h
theorem ok {a0 : Option Addr} {l0 : Nat} {c0 : Nat} {h : Hp} {R : Rt} (g : t a0 l0 c0 h R) : HC id #[.slice a0 l0 c0] h R :=
  calls_of_den' envOk (c := C) (rs := [.tmp 2]) Tryd.func60 (by kernel_rfl) (by kernel_rfl) (by kernel_rfl) (args := [.slice a0 l0 c0]) (by kernel_rfl) (D1.ok R _ h (gSlice_intro rfl (g)))
end gnomonref01_DocBits

namespace gnomonref01_DocTrail
noncomputable def C : Code := bodyOf Tryd.f61
def D1.t (R : Rt) (a0 : Option Addr) (l0 : Nat) (c0 : Nat) (h : Hp) : Prop :=
  HC gnomonref01_From.id #[.slice a0 l0 c0] h fun v1 h2 =>
  gSlice v1 fun a_3 l_3 c_3 =>
  HC gnomonref01_Zeros.id #[.slice a_3 l_3 c_3] h2 fun v4 h5 =>
  gInt .i64 v4 fun x_6 =>
  R (.int .i64 x_6) h5
def D1.g (R : Rt) (fr : Fr) (h : Hp) : Prop := gSlice (fr 0) fun a0 l0 c0 => D1.t R a0 l0 c0 h
theorem D1.ok (R : Rt) (fr : Fr) (h : Hp) (g : D1.g R fr h) : den prog E C (retQ E [.tmp 2] R) fr h := by
  obtain ⟨a0, l0, c0, e0, g⟩ := gSlice_elim g
  exact den_enter [(0, .slice a0 l0 c0)] ⟨e0, trivial⟩ (by kernel_rfl) g
def t (a0 : Option Addr) (l0 : Nat) (c0 : Nat) (h : Hp) (R : Rt) : Prop := D1.t R a0 l0 c0 h
theorem ok {a0 : Option Addr} {l0 : Nat} {c0 : Nat} {h : Hp} {R : Rt} (g : t a0 l0 c0 h R) : HC id #[.slice a0 l0 c0] h R :=
  calls_of_den' envOk (c := C) (rs := [.tmp 2]) Tryd.func61 (by kernel_rfl) (by kernel_rfl) (by kernel_rfl) (args := [.slice a0 l0 c0]) (by kernel_rfl) (D1.ok R _ h (gSlice_intro rfl (g)))
end gnomonref01_DocTrail

namespace gnomonref01_DocBit
noncomputable def C : Code := bodyOf Tryd.f62
def D1.t (R : Rt) (a0 : Option Addr) (l0 : Nat) (c0 : Nat) (x1 : Int) (h : Hp) : Prop :=
  HC gnomonref01_From.id #[.slice a0 l0 c0] h fun v1 h2 =>
  gSlice v1 fun a_3 l_3 c_3 =>
  HC gnomonref01_Bit.id #[.slice a_3 l_3 c_3, .int .i64 x1] h2 fun v4 h5 =>
  gInt .i64 v4 fun x_6 =>
  R (.bool (x_6 == 1)) h5
def D1.g (R : Rt) (fr : Fr) (h : Hp) : Prop := gSlice (fr 0) fun a0 l0 c0 => gInt .i64 (fr 1) fun x1 => D1.t R a0 l0 c0 x1 h
theorem D1.ok (R : Rt) (fr : Fr) (h : Hp) (g : D1.g R fr h) : den prog E C (retQ E [.tmp 4] R) fr h := by
  obtain ⟨a0, l0, c0, e0, g⟩ := gSlice_elim g
  obtain ⟨x1, e1, g⟩ := gInt_elim g
  exact den_enter [(0, .slice a0 l0 c0), (1, .int .i64 x1)] ⟨e0, e1, trivial⟩ (by kernel_rfl) g
def t (a0 : Option Addr) (l0 : Nat) (c0 : Nat) (x1 : Int) (h : Hp) (R : Rt) : Prop := D1.t R a0 l0 c0 x1 h
theorem ok {a0 : Option Addr} {l0 : Nat} {c0 : Nat} {x1 : Int} {h : Hp} {R : Rt} (g : t a0 l0 c0 x1 h R) : HC id #[.slice a0 l0 c0, .int .i64 x1] h R :=
  calls_of_den' envOk (c := C) (rs := [.tmp 4]) Tryd.func62 (by kernel_rfl) (by kernel_rfl) (by kernel_rfl) (args := [.slice a0 l0 c0, .int .i64 x1]) (by kernel_rfl) (D1.ok R _ h (gSlice_intro rfl (gInt_intro rfl (g))))
end gnomonref01_DocBit

namespace gnomonref01_DocCmp
noncomputable def C : Code := bodyOf Tryd.f63
def D1.t (R : Rt) (a0 : Option Addr) (l0 : Nat) (c0 : Nat) (a1 : Option Addr) (l1 : Nat) (c1 : Nat) (h : Hp) : Prop :=
  HC gnomonref01_From.id #[.slice a0 l0 c0] h fun v1 h2 =>
  gSlice v1 fun a_3 l_3 c_3 =>
  HC gnomonref01_From.id #[.slice a1 l1 c1] h2 fun v4 h5 =>
  gSlice v4 fun a_6 l_6 c_6 =>
  HC gnomonref01_Cmp.id #[.slice a_3 l_3 c_3, .slice a_6 l_6 c_6] h5 fun v7 h8 =>
  gInt .i64 v7 fun x_9 =>
  R (.int .i64 x_9) h8
def D1.g (R : Rt) (fr : Fr) (h : Hp) : Prop := gSlice (fr 0) fun a0 l0 c0 => gSlice (fr 1) fun a1 l1 c1 => D1.t R a0 l0 c0 a1 l1 c1 h
theorem D1.ok (R : Rt) (fr : Fr) (h : Hp) (g : D1.g R fr h) : den prog E C (retQ E [.tmp 4] R) fr h := by
  obtain ⟨a0, l0, c0, e0, g⟩ := gSlice_elim g
  obtain ⟨a1, l1, c1, e1, g⟩ := gSlice_elim g
  exact den_enter [(0, .slice a0 l0 c0), (1, .slice a1 l1 c1)] ⟨e0, e1, trivial⟩ (by kernel_rfl) g
def t (a0 : Option Addr) (l0 : Nat) (c0 : Nat) (a1 : Option Addr) (l1 : Nat) (c1 : Nat) (h : Hp) (R : Rt) : Prop := D1.t R a0 l0 c0 a1 l1 c1 h
theorem ok {a0 : Option Addr} {l0 : Nat} {c0 : Nat} {a1 : Option Addr} {l1 : Nat} {c1 : Nat} {h : Hp} {R : Rt} (g : t a0 l0 c0 a1 l1 c1 h R) : HC id #[.slice a0 l0 c0, .slice a1 l1 c1] h R :=
  calls_of_den' envOk (c := C) (rs := [.tmp 4]) Tryd.func63 (by kernel_rfl) (by kernel_rfl) (by kernel_rfl) (args := [.slice a0 l0 c0, .slice a1 l1 c1]) (by kernel_rfl) (D1.ok R _ h (gSlice_intro rfl (gSlice_intro rfl (g))))
end gnomonref01_DocCmp

namespace gnomonref01_Told
noncomputable def C : Code := bodyOf Tryd.f64
def D1.t (R : Rt) (a0 : Option Addr) (l0 : Nat) (c0 : Nat) (h : Hp) : Prop :=
  cond (decide ((((l0 : Nat) : Int)) > 16384)) (R (.tuple #[.slice none 0 0, .int .i64 5]) h) (HC gnomonref01_To.id #[.slice a0 l0 c0] h fun v1 h2 =>
  gSlice v1 fun a_3 l_3 c_3 =>
  R (.tuple #[.slice a_3 l_3 c_3, .int .i64 0]) h2)
def D1.g (R : Rt) (fr : Fr) (h : Hp) : Prop := gSlice (fr 0) fun a0 l0 c0 => D1.t R a0 l0 c0 h
theorem D1.ok (R : Rt) (fr : Fr) (h : Hp) (g : D1.g R fr h) : den prog E C (retQ E [.tmp 2, .tmp 3] R) fr h := by
  obtain ⟨a0, l0, c0, e0, g⟩ := gSlice_elim g
  exact den_enter [(0, .slice a0 l0 c0)] ⟨e0, trivial⟩ (by kernel_rfl) g
def t (a0 : Option Addr) (l0 : Nat) (c0 : Nat) (h : Hp) (R : Rt) : Prop := D1.t R a0 l0 c0 h
theorem ok {a0 : Option Addr} {l0 : Nat} {c0 : Nat} {h : Hp} {R : Rt} (g : t a0 l0 c0 h R) : HC id #[.slice a0 l0 c0] h R :=
  calls_of_den' envOk (c := C) (rs := [.tmp 2, .tmp 3]) Tryd.func64 (by kernel_rfl) (by kernel_rfl) (by kernel_rfl) (args := [.slice a0 l0 c0]) (by kernel_rfl) (D1.ok R _ h (gSlice_intro rfl (g)))
end gnomonref01_Told

namespace gnomonref01_From
noncomputable def C : Code := bodyOf Tryd.f65
def D2.t (R : Rt) (a3 : Option Addr) (l3 : Nat) (c3 : Nat) (h : Hp) : Prop :=
  HC gnomonref01_Norm.id #[.slice a3 l3 c3] h fun v4 h5 =>
  gSlice v4 fun a_6 l_6 c_6 =>
  R (.slice a_6 l_6 c_6) h5
def D2.g (R : Rt) (fr : Fr) (h : Hp) : Prop := gSlice (fr 3) fun a3 l3 c3 => D2.t R a3 l3 c3 h
theorem D2.ok (R : Rt) (fr : Fr) (h : Hp) (g : D2.g R fr h) : den prog E (cAt C [true, true, true]) (retQ E [.tmp 2] R) fr h := by
  obtain ⟨a3, l3, c3, e3, g⟩ := gSlice_elim g
  exact den_enter [(3, .slice a3 l3 c3)] ⟨e3, trivial⟩ (by kernel_rfl) g
def L4.g (N : Option Addr → Nat → Nat → Option Addr → Nat → Nat → Int → Hp → Prop) (fr : Fr) (h : Hp) : Prop := gSlice (fr 0) fun a0 l0 c0 => gSlice (fr 3) fun a3 l3 c3 => gInt .i64 (fr 4) fun x4 => N a0 l0 c0 a3 l3 c3 x4 h
def D5.t (R : Rt) (N4 : Option Addr → Nat → Nat → Option Addr → Nat → Nat → Int → Hp → Prop) (a0 : Option Addr) (l0 : Nat) (c0 : Nat) (a3 : Option Addr) (l3 : Nat) (c3 : Nat) (x4 : Int) (h : Hp) : Prop :=
  cond (decide (x4 < (((l0 : Nat) : Int)))) (idxK a0 l0 x4 1 fun q7 =>
  ldK h q7 fun v8 =>
  gInt .u64 v8 fun x_9 =>
  letK (andI .u64 x_9 4294967295) fun n10 =>
  letK (IntKind.u32.wrap n10) fun n11 =>
  idxK a0 l0 x4 1 fun q12 =>
  ldK h q12 fun v13 =>
  gInt .u64 v13 fun x_14 =>
  0 ≤ (32 : Int) ∧ letK (shrI .u64 x_14 32) fun n15 =>
  letK (IntKind.u32.wrap n15) fun n16 =>
  boxK h 87 [.int .u32 n11, .int .u32 n16] fun q17 h18 =>
  apK h18 87 T87 a3 l3 c3 (.slice (some q17) 2 2) fun a_19 l_19 c_19 h19 =>
  letK (IntKind.i64.wrap (x4 + 1)) fun n20 =>
  N4 a0 l0 c0 a_19 l_19 c_19 n20 h19) (D2.t R a3 l3 c3 h)
def D5.g (R : Rt) (N4 : Option Addr → Nat → Nat → Option Addr → Nat → Nat → Int → Hp → Prop) (fr : Fr) (h : Hp) : Prop := gSlice (fr 0) fun a0 l0 c0 => gSlice (fr 3) fun a3 l3 c3 => gInt .i64 (fr 4) fun x4 => D5.t R N4 a0 l0 c0 a3 l3 c3 x4 h
theorem D5.ok (R : Rt) (N4 : Option Addr → Nat → Nat → Option Addr → Nat → Nat → Int → Hp → Prop) (fr : Fr) (h : Hp) (g : D5.g R N4 fr h) : den prog E (cAt C [true, true, false, true, false, false]) (Ex.then (L4.g N4) (Ex.inBlock 0 (Ex.then (D2.g R) (retQ E [.tmp 2] R)))) fr h := by
  obtain ⟨a0, l0, c0, e0, g⟩ := gSlice_elim g
  obtain ⟨a3, l3, c3, e3, g⟩ := gSlice_elim g
  obtain ⟨x4, e4, g⟩ := gInt_elim g
  exact den_enter [(0, .slice a0 l0 c0), (3, .slice a3 l3 c3), (4, .int .i64 x4)] ⟨e0, e3, e4, trivial⟩ (by kernel_rfl) g
def L4.t (R : Rt) : Nat → Option Addr → Nat → Nat → Option Addr → Nat → Nat → Int → Hp → Prop
  | 0 => fun _ _ _ _ _ _ _ _ => False
  | n + 1 => fun a0 l0 c0 a3 l3 c3 x4 h => D5.t R (L4.t R n) a0 l0 c0 a3 l3 c3 x4 h
theorem L4.ok (R : Rt) (fr : Fr) (h : Hp) (g : L4.g (fun a0 l0 c0 a3 l3 c3 x4 h => ∃ n, L4.t R n a0 l0 c0 a3 l3 c3 x4 h) fr h) : den prog E (cAt C [true, true, false, true, false]) (Ex.inBlock 0 (Ex.then (D2.g R) (retQ E [.tmp 2] R))) fr h := by
  obtain ⟨a0, l0, c0, e0, g⟩ := gSlice_elim g
  obtain ⟨a3, l3, c3, e3, g⟩ := gSlice_elim g
  obtain ⟨x4, e4, g⟩ := gInt_elim g
  obtain ⟨n, g⟩ := g
  refine loop_ok (fun n => L4.g (L4.t R n)) (b := (cAt C [true, true, false, true, false, false])) (by kernel_rfl) (fun fr h g => ?_) (fun n => D5.ok R (L4.t R n)) n fr h (gSlice_intro e0 (gSlice_intro e3 (gInt_intro e4 (g))))
  obtain ⟨a0, l0, c0, e0, g⟩ := gSlice_elim g
  obtain ⟨a3, l3, c3, e3, g⟩ := gSlice_elim g
  obtain ⟨x4, e4, g⟩ := gInt_elim g
  exact g
theorem B6.ok (R : Rt) (fr : Fr) (h : Hp) (g : L4.g (fun a0 l0 c0 a3 l3 c3 x4 h => ∃ n, L4.t R n a0 l0 c0 a3 l3 c3 x4 h) fr h) : den prog E (cAt C [true, true, false, true]) (Ex.then (D2.g R) (retQ E [.tmp 2] R)) fr h :=
  den_block (by kernel_rfl) (L4.ok R fr h g)
def D3.t (R : Rt) (a0 : Option Addr) (l0 : Nat) (c0 : Nat) (a3 : Option Addr) (l3 : Nat) (c3 : Nat) (h : Hp) : Prop :=
  (∃ n, L4.t R n a0 l0 c0 a3 l3 c3 0 h)
def D3.g (R : Rt) (fr : Fr) (h : Hp) : Prop := gSlice (fr 0) fun a0 l0 c0 => gSlice (fr 3) fun a3 l3 c3 => D3.t R a0 l0 c0 a3 l3 c3 h
theorem D3.ok (R : Rt) (fr : Fr) (h : Hp) (g : D3.g R fr h) : den prog E (cAt C [true, true, false]) (Ex.then (D2.g R) (retQ E [.tmp 2] R)) fr h := by
  obtain ⟨a0, l0, c0, e0, g⟩ := gSlice_elim g
  obtain ⟨a3, l3, c3, e3, g⟩ := gSlice_elim g
  exact den_cut 1 (r := (cAt C [true, true, false, true])) (by kernel_rfl) (B6.ok R) (den_enter [(0, .slice a0 l0 c0), (3, .slice a3 l3 c3)] ⟨e0, e3, trivial⟩ (by kernel_rfl) g)
theorem W7.ok (R : Rt) (fr : Fr) (h : Hp) (g : D3.g R fr h) : den prog E (cAt C [true, true]) (retQ E [.tmp 2] R) fr h :=
  den_then (by kernel_rfl) (D2.ok R) (D3.ok R fr h g)
def D1.t (R : Rt) (a0 : Option Addr) (l0 : Nat) (c0 : Nat) (h : Hp) : Prop :=
  letK (IntKind.i64.wrap (2 * (((l0 : Nat) : Int)))) fun n1 =>
  mkK h 87 T87 0 n1 fun q2 h3 =>
  D3.t R a0 l0 c0 (some q2) ((0 : Int).toNat) n1.toNat h3
def D1.g (R : Rt) (fr : Fr) (h : Hp) : Prop := gSlice (fr 0) fun a0 l0 c0 => D1.t R a0 l0 c0 h
theorem D1.ok (R : Rt) (fr : Fr) (h : Hp) (g : D1.g R fr h) : den prog E C (retQ E [.tmp 2] R) fr h := by
  obtain ⟨a0, l0, c0, e0, g⟩ := gSlice_elim g
  exact den_cut 2 (r := (cAt C [true, true])) (by kernel_rfl) (W7.ok R) (den_enter [(0, .slice a0 l0 c0)] ⟨e0, trivial⟩ (by kernel_rfl) g)
def t (a0 : Option Addr) (l0 : Nat) (c0 : Nat) (h : Hp) (R : Rt) : Prop := D1.t R a0 l0 c0 h
theorem ok {a0 : Option Addr} {l0 : Nat} {c0 : Nat} {h : Hp} {R : Rt} (g : t a0 l0 c0 h R) : HC id #[.slice a0 l0 c0] h R :=
  calls_of_den' envOk (c := C) (rs := [.tmp 2]) Tryd.func65 (by kernel_rfl) (by kernel_rfl) (by kernel_rfl) (args := [.slice a0 l0 c0]) (by kernel_rfl) (D1.ok R _ h (gSlice_intro rfl (g)))
end gnomonref01_From

namespace gnomonref01_To
noncomputable def C : Code := bodyOf Tryd.f66
def D2.t (R : Rt) (a4 : Option Addr) (l4 : Nat) (c4 : Nat) (h : Hp) : Prop :=
  R (.slice a4 l4 c4) h
def D2.g (R : Rt) (fr : Fr) (h : Hp) : Prop := gSlice (fr 4) fun a4 l4 c4 => D2.t R a4 l4 c4 h
theorem D2.ok (R : Rt) (fr : Fr) (h : Hp) (g : D2.g R fr h) : den prog E (cAt C [true, true, true, true]) (retQ E [.tmp 2] R) fr h := by
  obtain ⟨a4, l4, c4, e4, g⟩ := gSlice_elim g
  exact den_enter [(4, .slice a4 l4 c4)] ⟨e4, trivial⟩ (by kernel_rfl) g
def L4.g (N : Option Addr → Nat → Nat → Option Addr → Nat → Nat → Int → Hp → Prop) (fr : Fr) (h : Hp) : Prop := gSlice (fr 3) fun a3 l3 c3 => gSlice (fr 4) fun a4 l4 c4 => gInt .i64 (fr 5) fun x5 => N a3 l3 c3 a4 l4 c4 x5 h
def D5.t (R : Rt) (N4 : Option Addr → Nat → Nat → Option Addr → Nat → Nat → Int → Hp → Prop) (a3 : Option Addr) (l3 : Nat) (c3 : Nat) (a4 : Option Addr) (l4 : Nat) (c4 : Nat) (x5 : Int) (h : Hp) : Prop :=
  cond (decide (x5 < (((l3 : Nat) : Int)))) (idxK a3 l3 x5 1 fun q8 =>
  ldK h q8 fun v9 =>
  gInt .u32 v9 fun x_10 =>
  letK (IntKind.u64.wrap x_10) fun n11 =>
  letK (IntKind.i64.wrap (x5 + 1)) fun n12 =>
  cond (decide (n12 < (((l3 : Nat) : Int)))) (letK (IntKind.i64.wrap (x5 + 1)) fun n13 =>
  idxK a3 l3 n13 1 fun q14 =>
  ldK h q14 fun v15 =>
  gInt .u32 v15 fun x_16 =>
  letK (IntKind.u64.wrap x_16) fun n17 =>
  0 ≤ (32 : Int) ∧ letK (shlI .u64 n17 32) fun n18 =>
  letK (IntKind.u64.wrap (n11 + n18)) fun n19 =>
  boxK h 27 [.int .u64 n19] fun q20 h21 =>
  apK h21 27 T27 a4 l4 c4 (.slice (some q20) 1 1) fun a_22 l_22 c_22 h22 =>
  letK (IntKind.i64.wrap (x5 + 2)) fun n23 =>
  N4 a3 l3 c3 a_22 l_22 c_22 n23 h22) (boxK h 27 [.int .u64 n11] fun q24 h25 =>
  apK h25 27 T27 a4 l4 c4 (.slice (some q24) 1 1) fun a_26 l_26 c_26 h26 =>
  letK (IntKind.i64.wrap (x5 + 2)) fun n27 =>
  N4 a3 l3 c3 a_26 l_26 c_26 n27 h26)) (D2.t R a4 l4 c4 h)
def D5.g (R : Rt) (N4 : Option Addr → Nat → Nat → Option Addr → Nat → Nat → Int → Hp → Prop) (fr : Fr) (h : Hp) : Prop := gSlice (fr 3) fun a3 l3 c3 => gSlice (fr 4) fun a4 l4 c4 => gInt .i64 (fr 5) fun x5 => D5.t R N4 a3 l3 c3 a4 l4 c4 x5 h
theorem D5.ok (R : Rt) (N4 : Option Addr → Nat → Nat → Option Addr → Nat → Nat → Int → Hp → Prop) (fr : Fr) (h : Hp) (g : D5.g R N4 fr h) : den prog E (cAt C [true, true, true, false, true, false, false]) (Ex.then (L4.g N4) (Ex.inBlock 0 (Ex.then (D2.g R) (retQ E [.tmp 2] R)))) fr h := by
  obtain ⟨a3, l3, c3, e3, g⟩ := gSlice_elim g
  obtain ⟨a4, l4, c4, e4, g⟩ := gSlice_elim g
  obtain ⟨x5, e5, g⟩ := gInt_elim g
  exact den_enter [(3, .slice a3 l3 c3), (4, .slice a4 l4 c4), (5, .int .i64 x5)] ⟨e3, e4, e5, trivial⟩ (by kernel_rfl) g
def L4.t (R : Rt) : Nat → Option Addr → Nat → Nat → Option Addr → Nat → Nat → Int → Hp → Prop
  | 0 => fun _ _ _ _ _ _ _ _ => False
  | n + 1 => fun a3 l3 c3 a4 l4 c4 x5 h => D5.t R (L4.t R n) a3 l3 c3 a4 l4 c4 x5 h
theorem L4.ok (R : Rt) (fr : Fr) (h : Hp) (g : L4.g (fun a3 l3 c3 a4 l4 c4 x5 h => ∃ n, L4.t R n a3 l3 c3 a4 l4 c4 x5 h) fr h) : den prog E (cAt C [true, true, true, false, true, false]) (Ex.inBlock 0 (Ex.then (D2.g R) (retQ E [.tmp 2] R))) fr h := by
  obtain ⟨a3, l3, c3, e3, g⟩ := gSlice_elim g
  obtain ⟨a4, l4, c4, e4, g⟩ := gSlice_elim g
  obtain ⟨x5, e5, g⟩ := gInt_elim g
  obtain ⟨n, g⟩ := g
  refine loop_ok (fun n => L4.g (L4.t R n)) (b := (cAt C [true, true, true, false, true, false, false])) (by kernel_rfl) (fun fr h g => ?_) (fun n => D5.ok R (L4.t R n)) n fr h (gSlice_intro e3 (gSlice_intro e4 (gInt_intro e5 (g))))
  obtain ⟨a3, l3, c3, e3, g⟩ := gSlice_elim g
  obtain ⟨a4, l4, c4, e4, g⟩ := gSlice_elim g
  obtain ⟨x5, e5, g⟩ := gInt_elim g
  exact g
theorem B6.ok (R : Rt) (fr : Fr) (h : Hp) (g : L4.g (fun a3 l3 c3 a4 l4 c4 x5 h => ∃ n, L4.t R n a3 l3 c3 a4 l4 c4 x5 h) fr h) : den prog E (cAt C [true, true, true, false, true]) (Ex.then (D2.g R) (retQ E [.tmp 2] R)) fr h :=
  den_block (by kernel_rfl) (L4.ok R fr h g)
def D3.t (R : Rt) (a3 : Option Addr) (l3 : Nat) (c3 : Nat) (a4 : Option Addr) (l4 : Nat) (c4 : Nat) (h : Hp) : Prop :=
  (∃ n, L4.t R n a3 l3 c3 a4 l4 c4 0 h)
def D3.g (R : Rt) (fr : Fr) (h : Hp) : Prop := gSlice (fr 3) fun a3 l3 c3 => gSlice (fr 4) fun a4 l4 c4 => D3.t R a3 l3 c3 a4 l4 c4 h
theorem D3.ok (R : Rt) (fr : Fr) (h : Hp) (g : D3.g R fr h) : den prog E (cAt C [true, true, true, false]) (Ex.then (D2.g R) (retQ E [.tmp 2] R)) fr h := by
  obtain ⟨a3, l3, c3, e3, g⟩ := gSlice_elim g
  obtain ⟨a4, l4, c4, e4, g⟩ := gSlice_elim g
  exact den_cut 1 (r := (cAt C [true, true, true, false, true])) (by kernel_rfl) (B6.ok R) (den_enter [(3, .slice a3 l3 c3), (4, .slice a4 l4 c4)] ⟨e3, e4, trivial⟩ (by kernel_rfl) g)
theorem W7.ok (R : Rt) (fr : Fr) (h : Hp) (g : D3.g R fr h) : den prog E (cAt C [true, true, true]) (retQ E [.tmp 2] R) fr h :=
  den_then (by kernel_rfl) (D2.ok R) (D3.ok R fr h g)
def D1.t (R : Rt) (a0 : Option Addr) (l0 : Nat) (c0 : Nat) (h : Hp) : Prop :=
  HC gnomonref01_Norm.id #[.slice a0 l0 c0] h fun v1 h2 =>
  gSlice v1 fun a_3 l_3 c_3 =>
  (2 : Int) ≠ 0 ∧ letK (IntKind.i64.wrap (Int.tdiv (((l_3 : Nat) : Int)) 2)) fun n4 =>
  letK (IntKind.i64.wrap (n4 + 1)) fun n5 =>
  mkK h2 27 T27 0 n5 fun q6 h7 =>
  D3.t R a_3 l_3 c_3 (some q6) ((0 : Int).toNat) n5.toNat h7
def D1.g (R : Rt) (fr : Fr) (h : Hp) : Prop := gSlice (fr 0) fun a0 l0 c0 => D1.t R a0 l0 c0 h
theorem D1.ok (R : Rt) (fr : Fr) (h : Hp) (g : D1.g R fr h) : den prog E C (retQ E [.tmp 2] R) fr h := by
  obtain ⟨a0, l0, c0, e0, g⟩ := gSlice_elim g
  exact den_cut 3 (r := (cAt C [true, true, true])) (by kernel_rfl) (W7.ok R) (den_enter [(0, .slice a0 l0 c0)] ⟨e0, trivial⟩ (by kernel_rfl) g)
def t (a0 : Option Addr) (l0 : Nat) (c0 : Nat) (h : Hp) (R : Rt) : Prop := D1.t R a0 l0 c0 h
theorem ok {a0 : Option Addr} {l0 : Nat} {c0 : Nat} {h : Hp} {R : Rt} (g : t a0 l0 c0 h R) : HC id #[.slice a0 l0 c0] h R :=
  calls_of_den' envOk (c := C) (rs := [.tmp 2]) Tryd.func66 (by kernel_rfl) (by kernel_rfl) (by kernel_rfl) (args := [.slice a0 l0 c0]) (by kernel_rfl) (D1.ok R _ h (gSlice_intro rfl (g)))
end gnomonref01_To

namespace gnomonref01_Word
noncomputable def C : Code := bodyOf Tryd.f67
def D1.t (R : Rt) (x0 : Int) (h : Hp) : Prop :=
  letK (andI .u64 x0 4294967295) fun n1 =>
  letK (IntKind.u32.wrap n1) fun n2 =>
  0 ≤ (32 : Int) ∧ letK (shrI .u64 x0 32) fun n3 =>
  letK (IntKind.u32.wrap n3) fun n4 =>
  boxK h 87 [.int .u32 n2, .int .u32 n4] fun q5 h6 =>
  HC gnomonref01_Norm.id #[.slice (some q5) 2 2] h6 fun v7 h8 =>
  gSlice v7 fun a_9 l_9 c_9 =>
  R (.slice a_9 l_9 c_9) h8
def D1.g (R : Rt) (fr : Fr) (h : Hp) : Prop := gInt .u64 (fr 0) fun x0 => D1.t R x0 h
theorem D1.ok (R : Rt) (fr : Fr) (h : Hp) (g : D1.g R fr h) : den prog E C (retQ E [.tmp 2] R) fr h := by
  obtain ⟨x0, e0, g⟩ := gInt_elim g
  exact den_enter [(0, .int .u64 x0)] ⟨e0, trivial⟩ (by kernel_rfl) g
def t (x0 : Int) (h : Hp) (R : Rt) : Prop := D1.t R x0 h
theorem ok {x0 : Int} {h : Hp} {R : Rt} (g : t x0 h R) : HC id #[.int .u64 x0] h R :=
  calls_of_den' envOk (c := C) (rs := [.tmp 2]) Tryd.func67 (by kernel_rfl) (by kernel_rfl) (by kernel_rfl) (args := [.int .u64 x0]) (by kernel_rfl) (D1.ok R _ h (gInt_intro rfl (g)))
end gnomonref01_Word

namespace gnomonref01_Add
noncomputable def C : Code := bodyOf Tryd.f68
def D2.t (R : Rt) (a5 : Option Addr) (l5 : Nat) (c5 : Nat) (h : Hp) : Prop :=
  HC gnomonref01_Norm.id #[.slice a5 l5 c5] h fun v4 h5 =>
  gSlice v4 fun a_6 l_6 c_6 =>
  R (.slice a_6 l_6 c_6) h5
def D2.g (R : Rt) (fr : Fr) (h : Hp) : Prop := gSlice (fr 5) fun a5 l5 c5 => D2.t R a5 l5 c5 h
theorem D2.ok (R : Rt) (fr : Fr) (h : Hp) (g : D2.g R fr h) : den prog E (cAt C [true, true, true, true]) (retQ E [.tmp 4] R) fr h := by
  obtain ⟨a5, l5, c5, e5, g⟩ := gSlice_elim g
  exact den_enter [(5, .slice a5 l5 c5)] ⟨e5, trivial⟩ (by kernel_rfl) g
def L4.g (N : Option Addr → Nat → Nat → Option Addr → Nat → Nat → Option Addr → Nat → Nat → Int → Int → Hp → Prop) (fr : Fr) (h : Hp) : Prop := gSlice (fr 0) fun a0 l0 c0 => gSlice (fr 1) fun a1 l1 c1 => gSlice (fr 5) fun a5 l5 c5 => gInt .u64 (fr 6) fun x6 => gInt .i64 (fr 7) fun x7 => N a0 l0 c0 a1 l1 c1 a5 l5 c5 x6 x7 h
def D6.t (R : Rt) (N4 : Option Addr → Nat → Nat → Option Addr → Nat → Nat → Option Addr → Nat → Nat → Int → Int → Hp → Prop) (a0 : Option Addr) (l0 : Nat) (c0 : Nat) (a1 : Option Addr) (l1 : Nat) (c1 : Nat) (a5 : Option Addr) (l5 : Nat) (c5 : Nat) (x6 : Int) (x7 : Int) (h : Hp) : Prop :=
  cond (decide (x7 < (((l0 : Nat) : Int)))) (idxK a0 l0 x7 1 fun q7 =>
  ldK h q7 fun v8 =>
  gInt .u32 v8 fun x_9 =>
  letK (IntKind.u64.wrap x_9) fun n10 =>
  letK (IntKind.u64.wrap (x6 + n10)) fun n11 =>
  cond (decide (x7 < (((l1 : Nat) : Int)))) (idxK a1 l1 x7 1 fun q12 =>
  ldK h q12 fun v13 =>
  gInt .u32 v13 fun x_14 =>
  letK (IntKind.u64.wrap x_14) fun n15 =>
  letK (IntKind.u64.wrap (n11 + n15)) fun n16 =>
  letK (andI .u64 n16 4294967295) fun n17 =>
  letK (IntKind.u32.wrap n17) fun n18 =>
  boxK h 87 [.int .u32 n18] fun q19 h20 =>
  apK h20 87 T87 a5 l5 c5 (.slice (some q19) 1 1) fun a_21 l_21 c_21 h21 =>
  0 ≤ (32 : Int) ∧ letK (shrI .u64 n16 32) fun n22 =>
  letK (IntKind.i64.wrap (x7 + 1)) fun n23 =>
  N4 a0 l0 c0 a1 l1 c1 a_21 l_21 c_21 n22 n23 h21) (letK (andI .u64 n11 4294967295) fun n24 =>
  letK (IntKind.u32.wrap n24) fun n25 =>
  boxK h 87 [.int .u32 n25] fun q26 h27 =>
  apK h27 87 T87 a5 l5 c5 (.slice (some q26) 1 1) fun a_28 l_28 c_28 h28 =>
  0 ≤ (32 : Int) ∧ letK (shrI .u64 n11 32) fun n29 =>
  letK (IntKind.i64.wrap (x7 + 1)) fun n30 =>
  N4 a0 l0 c0 a1 l1 c1 a_28 l_28 c_28 n29 n30 h28)) (cond (decide (x7 < (((l1 : Nat) : Int)))) (idxK a1 l1 x7 1 fun q31 =>
  ldK h q31 fun v32 =>
  gInt .u32 v32 fun x_33 =>
  letK (IntKind.u64.wrap x_33) fun n34 =>
  letK (IntKind.u64.wrap (x6 + n34)) fun n35 =>
  letK (andI .u64 n35 4294967295) fun n36 =>
  letK (IntKind.u32.wrap n36) fun n37 =>
  boxK h 87 [.int .u32 n37] fun q38 h39 =>
  apK h39 87 T87 a5 l5 c5 (.slice (some q38) 1 1) fun a_40 l_40 c_40 h40 =>
  0 ≤ (32 : Int) ∧ letK (shrI .u64 n35 32) fun n41 =>
  letK (IntKind.i64.wrap (x7 + 1)) fun n42 =>
  N4 a0 l0 c0 a1 l1 c1 a_40 l_40 c_40 n41 n42 h40) (letK (andI .u64 x6 4294967295) fun n43 =>
  letK (IntKind.u32.wrap n43) fun n44 =>
  boxK h 87 [.int .u32 n44] fun q45 h46 =>
  apK h46 87 T87 a5 l5 c5 (.slice (some q45) 1 1) fun a_47 l_47 c_47 h47 =>
  0 ≤ (32 : Int) ∧ letK (shrI .u64 x6 32) fun n48 =>
  letK (IntKind.i64.wrap (x7 + 1)) fun n49 =>
  N4 a0 l0 c0 a1 l1 c1 a_47 l_47 c_47 n48 n49 h47))
def D6.g (R : Rt) (N4 : Option Addr → Nat → Nat → Option Addr → Nat → Nat → Option Addr → Nat → Nat → Int → Int → Hp → Prop) (fr : Fr) (h : Hp) : Prop := gSlice (fr 0) fun a0 l0 c0 => gSlice (fr 1) fun a1 l1 c1 => gSlice (fr 5) fun a5 l5 c5 => gInt .u64 (fr 6) fun x6 => gInt .i64 (fr 7) fun x7 => D6.t R N4 a0 l0 c0 a1 l1 c1 a5 l5 c5 x6 x7 h
theorem D6.ok (R : Rt) (N4 : Option Addr → Nat → Nat → Option Addr → Nat → Nat → Option Addr → Nat → Nat → Int → Int → Hp → Prop) (fr : Fr) (h : Hp) (g : D6.g R N4 fr h) : den prog E (cAt C [true, true, true, false, true, false, false, true]) (Ex.then (L4.g N4) (Ex.inBlock 0 (Ex.then (D2.g R) (retQ E [.tmp 4] R)))) fr h := by
  obtain ⟨a0, l0, c0, e0, g⟩ := gSlice_elim g
  obtain ⟨a1, l1, c1, e1, g⟩ := gSlice_elim g
  obtain ⟨a5, l5, c5, e5, g⟩ := gSlice_elim g
  obtain ⟨x6, e6, g⟩ := gInt_elim g
  obtain ⟨x7, e7, g⟩ := gInt_elim g
  exact den_enter [(0, .slice a0 l0 c0), (1, .slice a1 l1 c1), (5, .slice a5 l5 c5), (6, .int .u64 x6), (7, .int .i64 x7)] ⟨e0, e1, e5, e6, e7, trivial⟩ (by kernel_rfl) g
def D5.t (R : Rt) (N4 : Option Addr → Nat → Nat → Option Addr → Nat → Nat → Option Addr → Nat → Nat → Int → Int → Hp → Prop) (a0 : Option Addr) (l0 : Nat) (c0 : Nat) (a1 : Option Addr) (l1 : Nat) (c1 : Nat) (a5 : Option Addr) (l5 : Nat) (c5 : Nat) (x6 : Int) (x7 : Int) (h : Hp) : Prop :=
  cond (decide (x7 < (((l0 : Nat) : Int)))) (D6.t R N4 a0 l0 c0 a1 l1 c1 a5 l5 c5 x6 x7 h) (cond (decide (x7 < (((l1 : Nat) : Int)))) (D6.t R N4 a0 l0 c0 a1 l1 c1 a5 l5 c5 x6 x7 h) (cond (decide (x6 > 0)) (D6.t R N4 a0 l0 c0 a1 l1 c1 a5 l5 c5 x6 x7 h) (D2.t R a5 l5 c5 h)))
def D5.g (R : Rt) (N4 : Option Addr → Nat → Nat → Option Addr → Nat → Nat → Option Addr → Nat → Nat → Int → Int → Hp → Prop) (fr : Fr) (h : Hp) : Prop := gSlice (fr 0) fun a0 l0 c0 => gSlice (fr 1) fun a1 l1 c1 => gSlice (fr 5) fun a5 l5 c5 => gInt .u64 (fr 6) fun x6 => gInt .i64 (fr 7) fun x7 => D5.t R N4 a0 l0 c0 a1 l1 c1 a5 l5 c5 x6 x7 h
theorem D5.ok (R : Rt) (N4 : Option Addr → Nat → Nat → Option Addr → Nat → Nat → Option Addr → Nat → Nat → Int → Int → Hp → Prop) (fr : Fr) (h : Hp) (g : D5.g R N4 fr h) : den prog E (cAt C [true, true, true, false, true, false, false]) (Ex.then (L4.g N4) (Ex.inBlock 0 (Ex.then (D2.g R) (retQ E [.tmp 4] R)))) fr h := by
  obtain ⟨a0, l0, c0, e0, g⟩ := gSlice_elim g
  obtain ⟨a1, l1, c1, e1, g⟩ := gSlice_elim g
  obtain ⟨a5, l5, c5, e5, g⟩ := gSlice_elim g
  obtain ⟨x6, e6, g⟩ := gInt_elim g
  obtain ⟨x7, e7, g⟩ := gInt_elim g
  exact den_cut 1 (r := (cAt C [true, true, true, false, true, false, false, true])) (by kernel_rfl) (D6.ok R N4) (den_enter [(0, .slice a0 l0 c0), (1, .slice a1 l1 c1), (5, .slice a5 l5 c5), (6, .int .u64 x6), (7, .int .i64 x7)] ⟨e0, e1, e5, e6, e7, trivial⟩ (by kernel_rfl) g)
def L4.t (R : Rt) : Nat → Option Addr → Nat → Nat → Option Addr → Nat → Nat → Option Addr → Nat → Nat → Int → Int → Hp → Prop
  | 0 => fun _ _ _ _ _ _ _ _ _ _ _ _ => False
  | n + 1 => fun a0 l0 c0 a1 l1 c1 a5 l5 c5 x6 x7 h => D5.t R (L4.t R n) a0 l0 c0 a1 l1 c1 a5 l5 c5 x6 x7 h
theorem L4.ok (R : Rt) (fr : Fr) (h : Hp) (g : L4.g (fun a0 l0 c0 a1 l1 c1 a5 l5 c5 x6 x7 h => ∃ n, L4.t R n a0 l0 c0 a1 l1 c1 a5 l5 c5 x6 x7 h) fr h) : den prog E (cAt C [true, true, true, false, true, false]) (Ex.inBlock 0 (Ex.then (D2.g R) (retQ E [.tmp 4] R))) fr h := by
  obtain ⟨a0, l0, c0, e0, g⟩ := gSlice_elim g
  obtain ⟨a1, l1, c1, e1, g⟩ := gSlice_elim g
  obtain ⟨a5, l5, c5, e5, g⟩ := gSlice_elim g
  obtain ⟨x6, e6, g⟩ := gInt_elim g
  obtain ⟨x7, e7, g⟩ := gInt_elim g
  obtain ⟨n, g⟩ := g
  refine loop_ok (fun n => L4.g (L4.t R n)) (b := (cAt C [true, true, true, false, true, false, false])) (by kernel_rfl) (fun fr h g => ?_) (fun n => D5.ok R (L4.t R n)) n fr h (gSlice_intro e0 (gSlice_intro e1 (gSlice_intro e5 (gInt_intro e6 (gInt_intro e7 (g))))))
  obtain ⟨a0, l0, c0, e0, g⟩ := gSlice_elim g
  obtain ⟨a1, l1, c1, e1, g⟩ := gSlice_elim g
  obtain ⟨a5, l5, c5, e5, g⟩ := gSlice_elim g
  obtain ⟨x6, e6, g⟩ := gInt_elim g
  obtain ⟨x7, e7, g⟩ := gInt_elim g
  exact g
theorem B7.ok (R : Rt) (fr : Fr) (h : Hp) (g : L4.g (fun a0 l0 c0 a1 l1 c1 a5 l5 c5 x6 x7 h => ∃ n, L4.t R n a0 l0 c0 a1 l1 c1 a5 l5 c5 x6 x7 h) fr h) : den prog E (cAt C [true, true, true, false, true]) (Ex.then (D2.g R) (retQ E [.tmp 4] R)) fr h :=
  den_block (by kernel_rfl) (L4.ok R fr h g)
def D3.t (R : Rt) (a0 : Option Addr) (l0 : Nat) (c0 : Nat) (a1 : Option Addr) (l1 : Nat) (c1 : Nat) (a5 : Option Addr) (l5 : Nat) (c5 : Nat) (x6 : Int) (h : Hp) : Prop :=
  (∃ n, L4.t R n a0 l0 c0 a1 l1 c1 a5 l5 c5 x6 0 h)
def D3.g (R : Rt) (fr : Fr) (h : Hp) : Prop := gSlice (fr 0) fun a0 l0 c0 => gSlice (fr 1) fun a1 l1 c1 => gSlice (fr 5) fun a5 l5 c5 => gInt .u64 (fr 6) fun x6 => D3.t R a0 l0 c0 a1 l1 c1 a5 l5 c5 x6 h
theorem D3.ok (R : Rt) (fr : Fr) (h : Hp) (g : D3.g R fr h) : den prog E (cAt C [true, true, true, false]) (Ex.then (D2.g R) (retQ E [.tmp 4] R)) fr h := by
  obtain ⟨a0, l0, c0, e0, g⟩ := gSlice_elim g
  obtain ⟨a1, l1, c1, e1, g⟩ := gSlice_elim g
  obtain ⟨a5, l5, c5, e5, g⟩ := gSlice_elim g
  obtain ⟨x6, e6, g⟩ := gInt_elim g
  exact den_cut 1 (r := (cAt C [true, true, true, false, true])) (by kernel_rfl) (B7.ok R) (den_enter [(0, .slice a0 l0 c0), (1, .slice a1 l1 c1), (5, .slice a5 l5 c5), (6, .int .u64 x6)] ⟨e0, e1, e5, e6, trivial⟩ (by kernel_rfl) g)
theorem W8.ok (R : Rt) (fr : Fr) (h : Hp) (g : D3.g R fr h) : den prog E (cAt C [true, true, true]) (retQ E [.tmp 4] R) fr h :=
  den_then (by kernel_rfl) (D2.ok R) (D3.ok R fr h g)
def D1.t (R : Rt) (a0 : Option Addr) (l0 : Nat) (c0 : Nat) (a1 : Option Addr) (l1 : Nat) (c1 : Nat) (h : Hp) : Prop :=
  letK (IntKind.i64.wrap ((if (((l1 : Nat) : Int)) > (((l0 : Nat) : Int)) then (((l1 : Nat) : Int)) else (((l0 : Nat) : Int))) + 1)) fun n1 =>
  mkK h 87 T87 0 n1 fun q2 h3 =>
  D3.t R a0 l0 c0 a1 l1 c1 (some q2) ((0 : Int).toNat) n1.toNat 0 h3
def D1.g (R : Rt) (fr : Fr) (h : Hp) : Prop := gSlice (fr 0) fun a0 l0 c0 => gSlice (fr 1) fun a1 l1 c1 => D1.t R a0 l0 c0 a1 l1 c1 h
theorem D1.ok (R : Rt) (fr : Fr) (h : Hp) (g : D1.g R fr h) : den prog E C (retQ E [.tmp 4] R) fr h := by
  obtain ⟨a0, l0, c0, e0, g⟩ := gSlice_elim g
  obtain ⟨a1, l1, c1, e1, g⟩ := gSlice_elim g
  exact den_cut 3 (r := (cAt C [true, true, true])) (by kernel_rfl) (W8.ok R) (den_enter [(0, .slice a0 l0 c0), (1, .slice a1 l1 c1)] ⟨e0, e1, trivial⟩ (by kernel_rfl) g)
def t (a0 : Option Addr) (l0 : Nat) (c0 : Nat) (a1 : Option Addr) (l1 : Nat) (c1 : Nat) (h : Hp) (R : Rt) : Prop := D1.t R a0 l0 c0 a1 l1 c1 h
theorem ok {a0 : Option Addr} {l0 : Nat} {c0 : Nat} {a1 : Option Addr} {l1 : Nat} {c1 : Nat} {h : Hp} {R : Rt} (g : t a0 l0 c0 a1 l1 c1 h R) : HC id #[.slice a0 l0 c0, .slice a1 l1 c1] h R :=
  calls_of_den' envOk (c := C) (rs := [.tmp 4]) Tryd.func68 (by kernel_rfl) (by kernel_rfl) (by kernel_rfl) (args := [.slice a0 l0 c0, .slice a1 l1 c1]) (by kernel_rfl) (D1.ok R _ h (gSlice_intro rfl (gSlice_intro rfl (g))))
end gnomonref01_Add

namespace gnomonref01_Cmp
noncomputable def C : Code := bodyOf Tryd.f69
def D2.t (R : Rt)  (h : Hp) : Prop :=
  R (.int .i64 0) h
def D2.g (R : Rt) (fr : Fr) (h : Hp) : Prop := D2.t R  h
theorem D2.ok (R : Rt) (fr : Fr) (h : Hp) (g : D2.g R fr h) : den prog E (cAt C [true, true, true]) (retQ E [.tmp 4] R) fr h := by
  exact den_enter [] trivial (by kernel_rfl) g
def L4.g (N : Option Addr → Nat → Nat → Option Addr → Nat → Nat → Int → Hp → Prop) (fr : Fr) (h : Hp) : Prop := gSlice (fr 0) fun a0 l0 c0 => gSlice (fr 1) fun a1 l1 c1 => gInt .i64 (fr 5) fun x5 => N a0 l0 c0 a1 l1 c1 x5 h
def D5.t (R : Rt) (N4 : Option Addr → Nat → Nat → Option Addr → Nat → Nat → Int → Hp → Prop) (a0 : Option Addr) (l0 : Nat) (c0 : Nat) (a1 : Option Addr) (l1 : Nat) (c1 : Nat) (x5 : Int) (h : Hp) : Prop :=
  cond (decide (x5 ≥ 0)) (idxK a0 l0 x5 1 fun q2 =>
  ldK h q2 fun v3 =>
  gInt .u32 v3 fun x_4 =>
  idxK a1 l1 x5 1 fun q5 =>
  ldK h q5 fun v6 =>
  gInt .u32 v6 fun x_7 =>
  cond (decide (x_4 < x_7)) (R (.int .i64 (-1)) h) (idxK a0 l0 x5 1 fun q8 =>
  ldK h q8 fun v9 =>
  gInt .u32 v9 fun x_10 =>
  idxK a1 l1 x5 1 fun q11 =>
  ldK h q11 fun v12 =>
  gInt .u32 v12 fun x_13 =>
  cond (decide (x_10 > x_13)) (R (.int .i64 1) h) (letK (IntKind.i64.wrap (x5 - 1)) fun n14 =>
  N4 a0 l0 c0 a1 l1 c1 n14 h))) (D2.t R h)
def D5.g (R : Rt) (N4 : Option Addr → Nat → Nat → Option Addr → Nat → Nat → Int → Hp → Prop) (fr : Fr) (h : Hp) : Prop := gSlice (fr 0) fun a0 l0 c0 => gSlice (fr 1) fun a1 l1 c1 => gInt .i64 (fr 5) fun x5 => D5.t R N4 a0 l0 c0 a1 l1 c1 x5 h
theorem D5.ok (R : Rt) (N4 : Option Addr → Nat → Nat → Option Addr → Nat → Nat → Int → Hp → Prop) (fr : Fr) (h : Hp) (g : D5.g R N4 fr h) : den prog E (cAt C [true, true, false, true, false, false]) (Ex.then (L4.g N4) (Ex.inBlock 0 (Ex.then (D2.g R) (retQ E [.tmp 4] R)))) fr h := by
  obtain ⟨a0, l0, c0, e0, g⟩ := gSlice_elim g
  obtain ⟨a1, l1, c1, e1, g⟩ := gSlice_elim g
  obtain ⟨x5, e5, g⟩ := gInt_elim g
  exact den_enter [(0, .slice a0 l0 c0), (1, .slice a1 l1 c1), (5, .int .i64 x5)] ⟨e0, e1, e5, trivial⟩ (by kernel_rfl) g
def L4.t (R : Rt) : Nat → Option Addr → Nat → Nat → Option Addr → Nat → Nat → Int → Hp → Prop
  | 0 => fun _ _ _ _ _ _ _ _ => False
  | n + 1 => fun a0 l0 c0 a1 l1 c1 x5 h => D5.t R (L4.t R n) a0 l0 c0 a1 l1 c1 x5 h
theorem L4.ok (R : Rt) (fr : Fr) (h : Hp) (g : L4.g (fun a0 l0 c0 a1 l1 c1 x5 h => ∃ n, L4.t R n a0 l0 c0 a1 l1 c1 x5 h) fr h) : den prog E (cAt C [true, true, false, true, false]) (Ex.inBlock 0 (Ex.then (D2.g R) (retQ E [.tmp 4] R))) fr h := by
  obtain ⟨a0, l0, c0, e0, g⟩ := gSlice_elim g
  obtain ⟨a1, l1, c1, e1, g⟩ := gSlice_elim g
  obtain ⟨x5, e5, g⟩ := gInt_elim g
  obtain ⟨n, g⟩ := g
  refine loop_ok (fun n => L4.g (L4.t R n)) (b := (cAt C [true, true, false, true, false, false])) (by kernel_rfl) (fun fr h g => ?_) (fun n => D5.ok R (L4.t R n)) n fr h (gSlice_intro e0 (gSlice_intro e1 (gInt_intro e5 (g))))
  obtain ⟨a0, l0, c0, e0, g⟩ := gSlice_elim g
  obtain ⟨a1, l1, c1, e1, g⟩ := gSlice_elim g
  obtain ⟨x5, e5, g⟩ := gInt_elim g
  exact g
theorem B6.ok (R : Rt) (fr : Fr) (h : Hp) (g : L4.g (fun a0 l0 c0 a1 l1 c1 x5 h => ∃ n, L4.t R n a0 l0 c0 a1 l1 c1 x5 h) fr h) : den prog E (cAt C [true, true, false, true]) (Ex.then (D2.g R) (retQ E [.tmp 4] R)) fr h :=
  den_block (by kernel_rfl) (L4.ok R fr h g)
def D3.t (R : Rt) (a0 : Option Addr) (l0 : Nat) (c0 : Nat) (a1 : Option Addr) (l1 : Nat) (c1 : Nat) (h : Hp) : Prop :=
  letK (IntKind.i64.wrap ((((l0 : Nat) : Int)) - 1)) fun n1 => (∃ n, L4.t R n a0 l0 c0 a1 l1 c1 n1 h)
def D3.g (R : Rt) (fr : Fr) (h : Hp) : Prop := gSlice (fr 0) fun a0 l0 c0 => gSlice (fr 1) fun a1 l1 c1 => D3.t R a0 l0 c0 a1 l1 c1 h
theorem D3.ok (R : Rt) (fr : Fr) (h : Hp) (g : D3.g R fr h) : den prog E (cAt C [true, true, false]) (Ex.then (D2.g R) (retQ E [.tmp 4] R)) fr h := by
  obtain ⟨a0, l0, c0, e0, g⟩ := gSlice_elim g
  obtain ⟨a1, l1, c1, e1, g⟩ := gSlice_elim g
  exact den_cut 1 (r := (cAt C [true, true, false, true])) (by kernel_rfl) (B6.ok R) (den_enter [(0, .slice a0 l0 c0), (1, .slice a1 l1 c1)] ⟨e0, e1, trivial⟩ (by kernel_rfl) g)
theorem W7.ok (R : Rt) (fr : Fr) (h : Hp) (g : D3.g R fr h) : den prog E (cAt C [true, true]) (retQ E [.tmp 4] R) fr h :=
  den_then (by kernel_rfl) (D2.ok R) (D3.ok R fr h g)
def D1.t (R : Rt) (a0 : Option Addr) (l0 : Nat) (c0 : Nat) (a1 : Option Addr) (l1 : Nat) (c1 : Nat) (h : Hp) : Prop :=
  cond ((((l0 : Nat) : Int)) != (((l1 : Nat) : Int))) (cond (decide ((((l0 : Nat) : Int)) < (((l1 : Nat) : Int)))) (R (.int .i64 (-1)) h) (R (.int .i64 1) h)) (D3.t R a0 l0 c0 a1 l1 c1 h)
def D1.g (R : Rt) (fr : Fr) (h : Hp) : Prop := gSlice (fr 0) fun a0 l0 c0 => gSlice (fr 1) fun a1 l1 c1 => D1.t R a0 l0 c0 a1 l1 c1 h
theorem D1.ok (R : Rt) (fr : Fr) (h : Hp) (g : D1.g R fr h) : den prog E C (retQ E [.tmp 4] R) fr h := by
  obtain ⟨a0, l0, c0, e0, g⟩ := gSlice_elim g
  obtain ⟨a1, l1, c1, e1, g⟩ := gSlice_elim g
  exact den_cut 2 (r := (cAt C [true, true])) (by kernel_rfl) (W7.ok R) (den_enter [(0, .slice a0 l0 c0), (1, .slice a1 l1 c1)] ⟨e0, e1, trivial⟩ (by kernel_rfl) g)
def t (a0 : Option Addr) (l0 : Nat) (c0 : Nat) (a1 : Option Addr) (l1 : Nat) (c1 : Nat) (h : Hp) (R : Rt) : Prop := D1.t R a0 l0 c0 a1 l1 c1 h
theorem ok {a0 : Option Addr} {l0 : Nat} {c0 : Nat} {a1 : Option Addr} {l1 : Nat} {c1 : Nat} {h : Hp} {R : Rt} (g : t a0 l0 c0 a1 l1 c1 h R) : HC id #[.slice a0 l0 c0, .slice a1 l1 c1] h R :=
  calls_of_den' envOk (c := C) (rs := [.tmp 4]) Tryd.func69 (by kernel_rfl) (by kernel_rfl) (by kernel_rfl) (args := [.slice a0 l0 c0, .slice a1 l1 c1]) (by kernel_rfl) (D1.ok R _ h (gSlice_intro rfl (gSlice_intro rfl (g))))
end gnomonref01_Cmp

namespace gnomonref01_Sub
noncomputable def C : Code := bodyOf Tryd.f70
def D2.t (R : Rt) (a5 : Option Addr) (l5 : Nat) (c5 : Nat) (h : Hp) : Prop :=
  HC gnomonref01_Norm.id #[.slice a5 l5 c5] h fun v9 h10 =>
  gSlice v9 fun a_11 l_11 c_11 =>
  R (.slice a_11 l_11 c_11) h10
def D2.g (R : Rt) (fr : Fr) (h : Hp) : Prop := gSlice (fr 5) fun a5 l5 c5 => D2.t R a5 l5 c5 h
theorem D2.ok (R : Rt) (fr : Fr) (h : Hp) (g : D2.g R fr h) : den prog E (cAt C [true, true, true, true, true]) (retQ E [.tmp 4] R) fr h := by
  obtain ⟨a5, l5, c5, e5, g⟩ := gSlice_elim g
  exact den_enter [(5, .slice a5 l5 c5)] ⟨e5, trivial⟩ (by kernel_rfl) g
def L4.g (N : Option Addr → Nat → Nat → Option Addr → Nat → Nat → Option Addr → Nat → Nat → Int → Int → Hp → Prop) (fr : Fr) (h : Hp) : Prop := gSlice (fr 0) fun a0 l0 c0 => gSlice (fr 1) fun a1 l1 c1 => gSlice (fr 5) fun a5 l5 c5 => gInt .u64 (fr 6) fun x6 => gInt .i64 (fr 7) fun x7 => N a0 l0 c0 a1 l1 c1 a5 l5 c5 x6 x7 h
def D5.t (R : Rt) (N4 : Option Addr → Nat → Nat → Option Addr → Nat → Nat → Option Addr → Nat → Nat → Int → Int → Hp → Prop) (a0 : Option Addr) (l0 : Nat) (c0 : Nat) (a1 : Option Addr) (l1 : Nat) (c1 : Nat) (a5 : Option Addr) (l5 : Nat) (c5 : Nat) (x6 : Int) (x7 : Int) (h : Hp) : Prop :=
  cond (decide (x7 < (((l0 : Nat) : Int)))) (cond (decide (x7 < (((l1 : Nat) : Int)))) (idxK a1 l1 x7 1 fun q12 =>
  ldK h q12 fun v13 =>
  gInt .u32 v13 fun x_14 =>
  letK (IntKind.u64.wrap x_14) fun n15 =>
  letK (IntKind.u64.wrap (x6 + n15)) fun n16 =>
  idxK a0 l0 x7 1 fun q17 =>
  ldK h q17 fun v18 =>
  gInt .u32 v18 fun x_19 =>
  letK (IntKind.u64.wrap x_19) fun n20 =>
  cond (decide (n20 < n16)) (letK (IntKind.u64.wrap (n20 + 4294967296)) fun n21 =>
  letK (IntKind.u64.wrap (n21 - n16)) fun n22 =>
  letK (IntKind.u32.wrap n22) fun n23 =>
  boxK h 87 [.int .u32 n23] fun q24 h25 =>
  apK h25 87 T87 a5 l5 c5 (.slice (some q24) 1 1) fun a_26 l_26 c_26 h26 =>
  letK (IntKind.i64.wrap (x7 + 1)) fun n27 =>
  N4 a0 l0 c0 a1 l1 c1 a_26 l_26 c_26 1 n27 h26) (letK (IntKind.u64.wrap (n20 - n16)) fun n28 =>
  letK (IntKind.u32.wrap n28) fun n29 =>
  boxK h 87 [.int .u32 n29] fun q30 h31 =>
  apK h31 87 T87 a5 l5 c5 (.slice (some q30) 1 1) fun a_32 l_32 c_32 h32 =>
  letK (IntKind.i64.wrap (x7 + 1)) fun n33 =>
  N4 a0 l0 c0 a1 l1 c1 a_32 l_32 c_32 0 n33 h32)) (idxK a0 l0 x7 1 fun q34 =>
  ldK h q34 fun v35 =>
  gInt .u32 v35 fun x_36 =>
  letK (IntKind.u64.wrap x_36) fun n37 =>
  cond (decide (n37 < x6)) (letK (IntKind.u64.wrap (n37 + 4294967296)) fun n38 =>
  letK (IntKind.u64.wrap (n38 - x6)) fun n39 =>
  letK (IntKind.u32.wrap n39) fun n40 =>
  boxK h 87 [.int .u32 n40] fun q41 h42 =>
  apK h42 87 T87 a5 l5 c5 (.slice (some q41) 1 1) fun a_43 l_43 c_43 h43 =>
  letK (IntKind.i64.wrap (x7 + 1)) fun n44 =>
  N4 a0 l0 c0 a1 l1 c1 a_43 l_43 c_43 1 n44 h43) (letK (IntKind.u64.wrap (n37 - x6)) fun n45 =>
  letK (IntKind.u32.wrap n45) fun n46 =>
  boxK h 87 [.int .u32 n46] fun q47 h48 =>
  apK h48 87 T87 a5 l5 c5 (.slice (some q47) 1 1) fun a_49 l_49 c_49 h49 =>
  letK (IntKind.i64.wrap (x7 + 1)) fun n50 =>
  N4 a0 l0 c0 a1 l1 c1 a_49 l_49 c_49 0 n50 h49))) (D2.t R a5 l5 c5 h)
def D5.g (R : Rt) (N4 : Option Addr → Nat → Nat → Option Addr → Nat → Nat → Option Addr → Nat → Nat → Int → Int → Hp → Prop) (fr : Fr) (h : Hp) : Prop := gSlice (fr 0) fun a0 l0 c0 => gSlice (fr 1) fun a1 l1 c1 => gSlice (fr 5) fun a5 l5 c5 => gInt .u64 (fr 6) fun x6 => gInt .i64 (fr 7) fun x7 => D5.t R N4 a0 l0 c0 a1 l1 c1 a5 l5 c5 x6 x7 h
theorem D5.ok (R : Rt) (N4 : Option Addr → Nat → Nat → Option Addr → Nat → Nat → Option Addr → Nat → Nat → Int → Int → Hp → Prop) (fr : Fr) (h : Hp) (g : D5.g R N4 fr h) : den prog E (cAt C [true, true, true, true, false, true, false, false]) (Ex.then (L4.g N4) (Ex.inBlock 0 (Ex.then (D2.g R) (retQ E [.tmp 4] R)))) fr h := by
  obtain ⟨a0, l0, c0, e0, g⟩ := gSlice_elim g
  obtain ⟨a1, l1, c1, e1, g⟩ := gSlice_elim g
  obtain ⟨a5, l5, c5, e5, g⟩ := gSlice_elim g
  obtain ⟨x6, e6, g⟩ := gInt_elim g
  obtain ⟨x7, e7, g⟩ := gInt_elim g
  exact den_enter [(0, .slice a0 l0 c0), (1, .slice a1 l1 c1), (5, .slice a5 l5 c5), (6, .int .u64 x6), (7, .int .i64 x7)] ⟨e0, e1, e5, e6, e7, trivial⟩ (by kernel_rfl) g
def L4.t (R : Rt) : Nat → Option Addr → Nat → Nat → Option Addr → Nat → Nat → Option Addr → Nat → Nat → Int → Int → Hp → Prop
  | 0 => fun _ _ _ _ _ _ _ _ _ _ _ _ => False
  | n + 1 => fun a0 l0 c0 a1 l1 c1 a5 l5 c5 x6 x7 h => D5.t R (L4.t R n) a0 l0 c0 a1 l1 c1 a5 l5 c5 x6 x7 h
theorem L4.ok (R : Rt) (fr : Fr) (h : Hp) (g : L4.g (fun a0 l0 c0 a1 l1 c1 a5 l5 c5 x6 x7 h => ∃ n, L4.t R n a0 l0 c0 a1 l1 c1 a5 l5 c5 x6 x7 h) fr h) : den prog E (cAt C [true, true, true, true, false, true, false]) (Ex.inBlock 0 (Ex.then (D2.g R) (retQ E [.tmp 4] R))) fr h := by
  obtain ⟨a0, l0, c0, e0, g⟩ := gSlice_elim g
  obtain ⟨a1, l1, c1, e1, g⟩ := gSlice_elim g
  obtain ⟨a5, l5, c5, e5, g⟩ := gSlice_elim g
  obtain ⟨x6, e6, g⟩ := gInt_elim g
  obtain ⟨x7, e7, g⟩ := gInt_elim g
  obtain ⟨n, g⟩ := g
  refine loop_ok (fun n => L4.g (L4.t R n)) (b := (cAt C [true, true, true, true, false, true, false, false])) (by kernel_rfl) (fun fr h g => ?_) (fun n => D5.ok R (L4.t R n)) n fr h (gSlice_intro e0 (gSlice_intro e1 (gSlice_intro e5 (gInt_intro e6 (gInt_intro e7 (g))))))
  obtain ⟨a0, l0, c0, e0, g⟩ := gSlice_elim g
  obtain ⟨a1, l1, c1, e1, g⟩ := gSlice_elim g
  obtain ⟨a5, l5, c5, e5, g⟩ := gSlice_elim g
  obtain ⟨x6, e6, g⟩ := gInt_elim g
  obtain ⟨x7, e7, g⟩ := gInt_elim g
  exact g
theorem B6.ok (R : Rt) (fr : Fr) (h : Hp) (g : L4.g (fun a0 l0 c0 a1 l1 c1 a5 l5 c5 x6 x7 h => ∃ n, L4.t R n a0 l0 c0 a1 l1 c1 a5 l5 c5 x6 x7 h) fr h) : den prog E (cAt C [true, true, true, true, false, true]) (Ex.then (D2.g R) (retQ E [.tmp 4] R)) fr h :=
  den_block (by kernel_rfl) (L4.ok R fr h g)
def D3.t (R : Rt) (a0 : Option Addr) (l0 : Nat) (c0 : Nat) (a1 : Option Addr) (l1 : Nat) (c1 : Nat) (a5 : Option Addr) (l5 : Nat) (c5 : Nat) (x6 : Int) (h : Hp) : Prop :=
  (∃ n, L4.t R n a0 l0 c0 a1 l1 c1 a5 l5 c5 x6 0 h)
def D3.g (R : Rt) (fr : Fr) (h : Hp) : Prop := gSlice (fr 0) fun a0 l0 c0 => gSlice (fr 1) fun a1 l1 c1 => gSlice (fr 5) fun a5 l5 c5 => gInt .u64 (fr 6) fun x6 => D3.t R a0 l0 c0 a1 l1 c1 a5 l5 c5 x6 h
theorem D3.ok (R : Rt) (fr : Fr) (h : Hp) (g : D3.g R fr h) : den prog E (cAt C [true, true, true, true, false]) (Ex.then (D2.g R) (retQ E [.tmp 4] R)) fr h := by
  obtain ⟨a0, l0, c0, e0, g⟩ := gSlice_elim g
  obtain ⟨a1, l1, c1, e1, g⟩ := gSlice_elim g
  obtain ⟨a5, l5, c5, e5, g⟩ := gSlice_elim g
  obtain ⟨x6, e6, g⟩ := gInt_elim g
  exact den_cut 1 (r := (cAt C [true, true, true, true, false, true])) (by kernel_rfl) (B6.ok R) (den_enter [(0, .slice a0 l0 c0), (1, .slice a1 l1 c1), (5, .slice a5 l5 c5), (6, .int .u64 x6)] ⟨e0, e1, e5, e6, trivial⟩ (by kernel_rfl) g)
theorem W7.ok (R : Rt) (fr : Fr) (h : Hp) (g : D3.g R fr h) : den prog E (cAt C [true, true, true, true]) (retQ E [.tmp 4] R) fr h :=
  den_then (by kernel_rfl) (D2.ok R) (D3.ok R fr h g)
def D1.t (R : Rt) (a0 : Option Addr) (l0 : Nat) (c0 : Nat) (a1 : Option Addr) (l1 : Nat) (c1 : Nat) (h : Hp) : Prop :=
  HC gnomonref01_Cmp.id #[.slice a0 l0 c0, .slice a1 l1 c1] h fun v1 h2 =>
  gInt .i64 v1 fun x_3 =>
  cond (decide (x_3 ≤ 0)) (HC gnomonref01_Word.id #[.int .u64 0] h2 fun v4 h5 =>
  gSlice v4 fun a_6 l_6 c_6 =>
  R (.slice a_6 l_6 c_6) h5) (mkK h2 87 T87 0 (((l0 : Nat) : Int)) fun q7 h8 =>
  D3.t R a0 l0 c0 a1 l1 c1 (some q7) ((0 : Int).toNat) ((((l0 : Nat) : Int)).toNat) 0 h8)
def D1.g (R : Rt) (fr : Fr) (h : Hp) : Prop := gSlice (fr 0) fun a0 l0 c0 => gSlice (fr 1) fun a1 l1 c1 => D1.t R a0 l0 c0 a1 l1 c1 h
theorem D1.ok (R : Rt) (fr : Fr) (h : Hp) (g : D1.g R fr h) : den prog E C (retQ E [.tmp 4] R) fr h := by
  obtain ⟨a0, l0, c0, e0, g⟩ := gSlice_elim g
  obtain ⟨a1, l1, c1, e1, g⟩ := gSlice_elim g
  exact den_cut 4 (r := (cAt C [true, true, true, true])) (by kernel_rfl) (W7.ok R) (den_enter [(0, .slice a0 l0 c0), (1, .slice a1 l1 c1)] ⟨e0, e1, trivial⟩ (by kernel_rfl) g)
def t (a0 : Option Addr) (l0 : Nat) (c0 : Nat) (a1 : Option Addr) (l1 : Nat) (c1 : Nat) (h : Hp) (R : Rt) : Prop := D1.t R a0 l0 c0 a1 l1 c1 h
theorem ok {a0 : Option Addr} {l0 : Nat} {c0 : Nat} {a1 : Option Addr} {l1 : Nat} {c1 : Nat} {h : Hp} {R : Rt} (g : t a0 l0 c0 a1 l1 c1 h R) : HC id #[.slice a0 l0 c0, .slice a1 l1 c1] h R :=
  calls_of_den' envOk (c := C) (rs := [.tmp 4]) Tryd.func70 (by kernel_rfl) (by kernel_rfl) (by kernel_rfl) (args := [.slice a0 l0 c0, .slice a1 l1 c1]) (by kernel_rfl) (D1.ok R _ h (gSlice_intro rfl (gSlice_intro rfl (g))))
end gnomonref01_Sub

namespace gnomonref01_Shl
noncomputable def C : Code := bodyOf Tryd.f71
def D2.t (R : Rt) (a0 : Option Addr) (l0 : Nat) (c0 : Nat) (x1 : Int) (h : Hp) : Prop :=
  (32 : Int) ≠ 0 ∧ letK (IntKind.i64.wrap (Int.tdiv x1 32)) fun n7 =>
  (32 : Int) ≠ 0 ∧ letK (IntKind.i64.wrap (Int.tdiv x1 32)) fun n8 =>
  letK (IntKind.i64.wrap (n8 + (((l0 : Nat) : Int)))) fun n9 =>
  letK (IntKind.i64.wrap (n9 + 1)) fun n10 =>
  mkK h 87 T87 n7 n10 fun q11 h12 =>
  (32 : Int) ≠ 0 ∧ letK (Int.tmod x1 32) fun n13 =>
  0 ≤ n13 ∧ letK (shlI .u32 1 n13) fun n14 =>
  HC gnomonref01_MulSmall.id #[.slice a0 l0 c0, .int .u32 n14, .int .u32 0] h12 fun v15 h16 =>
  gSlice v15 fun a_17 l_17 c_17 =>
  apK h16 87 T87 (some q11) n7.toNat n10.toNat (.slice a_17 l_17 c_17) fun a_18 l_18 c_18 h18 =>
  HC gnomonref01_Norm.id #[.slice a_18 l_18 c_18] h18 fun v19 h20 =>
  gSlice v19 fun a_21 l_21 c_21 =>
  R (.slice a_21 l_21 c_21) h20
def D2.g (R : Rt) (fr : Fr) (h : Hp) : Prop := gSlice (fr 0) fun a0 l0 c0 => gInt .i64 (fr 1) fun x1 => D2.t R a0 l0 c0 x1 h
theorem D2.ok (R : Rt) (fr : Fr) (h : Hp) (g : D2.g R fr h) : den prog E (cAt C [true, true]) (retQ E [.tmp 4] R) fr h := by
  obtain ⟨a0, l0, c0, e0, g⟩ := gSlice_elim g
  obtain ⟨x1, e1, g⟩ := gInt_elim g
  exact den_enter [(0, .slice a0 l0 c0), (1, .int .i64 x1)] ⟨e0, e1, trivial⟩ (by kernel_rfl) g
def D1.t (R : Rt) (a0 : Option Addr) (l0 : Nat) (c0 : Nat) (x1 : Int) (h : Hp) : Prop :=
  cond (decide (x1 ≤ 0)) (HC gnomonref01_Norm.id #[.slice a0 l0 c0] h fun v1 h2 =>
  gSlice v1 fun a_3 l_3 c_3 =>
  R (.slice a_3 l_3 c_3) h2) (cond ((((l0 : Nat) : Int)) == 0) (HC gnomonref01_Norm.id #[.slice a0 l0 c0] h fun v4 h5 =>
  gSlice v4 fun a_6 l_6 c_6 =>
  R (.slice a_6 l_6 c_6) h5) (D2.t R a0 l0 c0 x1 h))
def D1.g (R : Rt) (fr : Fr) (h : Hp) : Prop := gSlice (fr 0) fun a0 l0 c0 => gInt .i64 (fr 1) fun x1 => D1.t R a0 l0 c0 x1 h
theorem D1.ok (R : Rt) (fr : Fr) (h : Hp) (g : D1.g R fr h) : den prog E C (retQ E [.tmp 4] R) fr h := by
  obtain ⟨a0, l0, c0, e0, g⟩ := gSlice_elim g
  obtain ⟨x1, e1, g⟩ := gInt_elim g
  exact den_cut 2 (r := (cAt C [true, true])) (by kernel_rfl) (D2.ok R) (den_enter [(0, .slice a0 l0 c0), (1, .int .i64 x1)] ⟨e0, e1, trivial⟩ (by kernel_rfl) g)
def t (a0 : Option Addr) (l0 : Nat) (c0 : Nat) (x1 : Int) (h : Hp) (R : Rt) : Prop := D1.t R a0 l0 c0 x1 h
theorem ok {a0 : Option Addr} {l0 : Nat} {c0 : Nat} {x1 : Int} {h : Hp} {R : Rt} (g : t a0 l0 c0 x1 h R) : HC id #[.slice a0 l0 c0, .int .i64 x1] h R :=
  calls_of_den' envOk (c := C) (rs := [.tmp 4]) Tryd.func71 (by kernel_rfl) (by kernel_rfl) (by kernel_rfl) (args := [.slice a0 l0 c0, .int .i64 x1]) (by kernel_rfl) (D1.ok R _ h (gSlice_intro rfl (gInt_intro rfl (g))))
end gnomonref01_Shl

namespace gnomonref01_Shr
noncomputable def C : Code := bodyOf Tryd.f72
def D1.t (R : Rt) (a0 : Option Addr) (l0 : Nat) (c0 : Nat) (x1 : Int) (h : Hp) : Prop :=
  cond (decide (x1 ≤ 0)) (HC gnomonref01_Norm.id #[.slice a0 l0 c0] h fun v1 h2 =>
  gSlice v1 fun a_3 l_3 c_3 =>
  R (.slice a_3 l_3 c_3) h2) ((32 : Int) ≠ 0 ∧ letK (IntKind.i64.wrap (Int.tdiv x1 32)) fun n4 =>
  cond (decide (n4 ≥ (((l0 : Nat) : Int)))) (HC gnomonref01_Word.id #[.int .u64 0] h fun v5 h6 =>
  gSlice v5 fun a_7 l_7 c_7 =>
  R (.slice a_7 l_7 c_7) h6) ((32 : Int) ≠ 0 ∧ letK (IntKind.i64.wrap (Int.tdiv x1 32)) fun n8 =>
  slK 1 a0 l0 c0 (some (.int .i64 n8)) none none fun a_9 l_9 c_9 =>
  (32 : Int) ≠ 0 ∧ letK (Int.tmod x1 32) fun n10 =>
  0 ≤ n10 ∧ letK (shlI .u32 1 n10) fun n11 =>
  HC gnomonref01_DivSmall.id #[.slice a_9 l_9 c_9, .int .u32 n11] h fun v12 h13 =>
  gTup v12 fun y14 =>
  uncons y14 fun v15 y15 =>
  gSlice v15 fun a_16 l_16 c_16 =>
  uncons y15 fun v17 y17 =>
  gInt .u32 v17 fun x_18 =>
  unnil y17 <| R (.slice a_16 l_16 c_16) h13))
def D1.g (R : Rt) (fr : Fr) (h : Hp) : Prop := gSlice (fr 0) fun a0 l0 c0 => gInt .i64 (fr 1) fun x1 => D1.t R a0 l0 c0 x1 h
theorem D1.ok (R : Rt) (fr : Fr) (h : Hp) (g : D1.g R fr h) : den prog E C (retQ E [.tmp 4] R) fr h := by
  obtain ⟨a0, l0, c0, e0, g⟩ := gSlice_elim g
  obtain ⟨x1, e1, g⟩ := gInt_elim g
  exact den_enter [(0, .slice a0 l0 c0), (1, .int .i64 x1)] ⟨e0, e1, trivial⟩ (by kernel_rfl) g
def t (a0 : Option Addr) (l0 : Nat) (c0 : Nat) (x1 : Int) (h : Hp) (R : Rt) : Prop := D1.t R a0 l0 c0 x1 h
theorem ok {a0 : Option Addr} {l0 : Nat} {c0 : Nat} {x1 : Int} {h : Hp} {R : Rt} (g : t a0 l0 c0 x1 h R) : HC id #[.slice a0 l0 c0, .int .i64 x1] h R :=
  calls_of_den' envOk (c := C) (rs := [.tmp 4]) Tryd.func72 (by kernel_rfl) (by kernel_rfl) (by kernel_rfl) (args := [.slice a0 l0 c0, .int .i64 x1]) (by kernel_rfl) (D1.ok R _ h (gSlice_intro rfl (gInt_intro rfl (g))))
end gnomonref01_Shr

namespace gnomonref01_Low
noncomputable def C : Code := bodyOf Tryd.f73
def D2.t (R : Rt) (a0 : Option Addr) (l0 : Nat) (c0 : Nat) (x1 : Int) (a5 : Option Addr) (l5 : Nat) (c5 : Nat) (h : Hp) : Prop :=
  (32 : Int) ≠ 0 ∧ letK (IntKind.i64.wrap (Int.tdiv x1 32)) fun n13 =>
  idxK a0 l0 n13 1 fun q14 =>
  ldK h q14 fun v15 =>
  gInt .u32 v15 fun x_16 =>
  (32 : Int) ≠ 0 ∧ letK (Int.tmod x1 32) fun n17 =>
  0 ≤ n17 ∧ letK (shlI .u32 1 n17) fun n18 =>
  n18 ≠ 0 ∧ letK (Int.tmod x_16 n18) fun n19 =>
  boxK h 87 [.int .u32 n19] fun q20 h21 =>
  apK h21 87 T87 a5 l5 c5 (.slice (some q20) 1 1) fun a_22 l_22 c_22 h22 =>
  HC gnomonref01_Norm.id #[.slice a_22 l_22 c_22] h22 fun v23 h24 =>
  gSlice v23 fun a_25 l_25 c_25 =>
  R (.slice a_25 l_25 c_25) h24
def D2.g (R : Rt) (fr : Fr) (h : Hp) : Prop := gSlice (fr 0) fun a0 l0 c0 => gInt .i64 (fr 1) fun x1 => gSlice (fr 5) fun a5 l5 c5 => D2.t R a0 l0 c0 x1 a5 l5 c5 h
theorem D2.ok (R : Rt) (fr : Fr) (h : Hp) (g : D2.g R fr h) : den prog E (cAt C [true, true, true, true, true]) (retQ E [.tmp 4] R) fr h := by
  obtain ⟨a0, l0, c0, e0, g⟩ := gSlice_elim g
  obtain ⟨x1, e1, g⟩ := gInt_elim g
  obtain ⟨a5, l5, c5, e5, g⟩ := gSlice_elim g
  exact den_enter [(0, .slice a0 l0 c0), (1, .int .i64 x1), (5, .slice a5 l5 c5)] ⟨e0, e1, e5, trivial⟩ (by kernel_rfl) g
def L3.g (N : Option Addr → Nat → Nat → Int → Option Addr → Nat → Nat → Hp → Prop) (fr : Fr) (h : Hp) : Prop := gSlice (fr 0) fun a0 l0 c0 => gInt .i64 (fr 1) fun x1 => gSlice (fr 5) fun a5 l5 c5 => N a0 l0 c0 x1 a5 l5 c5 h
def D4.t (R : Rt) (N3 : Option Addr → Nat → Nat → Int → Option Addr → Nat → Nat → Hp → Prop) (a0 : Option Addr) (l0 : Nat) (c0 : Nat) (x1 : Int) (a5 : Option Addr) (l5 : Nat) (c5 : Nat) (h : Hp) : Prop :=
  (32 : Int) ≠ 0 ∧ letK (IntKind.i64.wrap (Int.tdiv x1 32)) fun n26 =>
  cond (decide ((((l5 : Nat) : Int)) < n26)) (boxK h 87 [.int .u32 0] fun q27 h28 =>
  apK h28 87 T87 a5 l5 c5 (.slice (some q27) 1 1) fun a_29 l_29 c_29 h29 =>
  N3 a0 l0 c0 x1 a_29 l_29 c_29 h29) (D2.t R a0 l0 c0 x1 a5 l5 c5 h)
def D4.g (R : Rt) (N3 : Option Addr → Nat → Nat → Int → Option Addr → Nat → Nat → Hp → Prop) (fr : Fr) (h : Hp) : Prop := gSlice (fr 0) fun a0 l0 c0 => gInt .i64 (fr 1) fun x1 => gSlice (fr 5) fun a5 l5 c5 => D4.t R N3 a0 l0 c0 x1 a5 l5 c5 h
theorem D4.ok (R : Rt) (N3 : Option Addr → Nat → Nat → Int → Option Addr → Nat → Nat → Hp → Prop) (fr : Fr) (h : Hp) (g : D4.g R N3 fr h) : den prog E (cAt C [true, true, true, true, false, false, false]) (Ex.then (L3.g N3) (Ex.inBlock 0 (Ex.then (D2.g R) (retQ E [.tmp 4] R)))) fr h := by
  obtain ⟨a0, l0, c0, e0, g⟩ := gSlice_elim g
  obtain ⟨x1, e1, g⟩ := gInt_elim g
  obtain ⟨a5, l5, c5, e5, g⟩ := gSlice_elim g
  exact den_enter [(0, .slice a0 l0 c0), (1, .int .i64 x1), (5, .slice a5 l5 c5)] ⟨e0, e1, e5, trivial⟩ (by kernel_rfl) g
def L3.t (R : Rt) : Nat → Option Addr → Nat → Nat → Int → Option Addr → Nat → Nat → Hp → Prop
  | 0 => fun _ _ _ _ _ _ _ _ => False
  | n + 1 => fun a0 l0 c0 x1 a5 l5 c5 h => D4.t R (L3.t R n) a0 l0 c0 x1 a5 l5 c5 h
theorem L3.ok (R : Rt) (fr : Fr) (h : Hp) (g : L3.g (fun a0 l0 c0 x1 a5 l5 c5 h => ∃ n, L3.t R n a0 l0 c0 x1 a5 l5 c5 h) fr h) : den prog E (cAt C [true, true, true, true, false, false]) (Ex.inBlock 0 (Ex.then (D2.g R) (retQ E [.tmp 4] R))) fr h := by
  obtain ⟨a0, l0, c0, e0, g⟩ := gSlice_elim g
  obtain ⟨x1, e1, g⟩ := gInt_elim g
  obtain ⟨a5, l5, c5, e5, g⟩ := gSlice_elim g
  obtain ⟨n, g⟩ := g
  refine loop_ok (fun n => L3.g (L3.t R n)) (b := (cAt C [true, true, true, true, false, false, false])) (by kernel_rfl) (fun fr h g => ?_) (fun n => D4.ok R (L3.t R n)) n fr h (gSlice_intro e0 (gInt_intro e1 (gSlice_intro e5 (g))))
  obtain ⟨a0, l0, c0, e0, g⟩ := gSlice_elim g
  obtain ⟨x1, e1, g⟩ := gInt_elim g
  obtain ⟨a5, l5, c5, e5, g⟩ := gSlice_elim g
  exact g
theorem B5.ok (R : Rt) (fr : Fr) (h : Hp) (g : L3.g (fun a0 l0 c0 x1 a5 l5 c5 h => ∃ n, L3.t R n a0 l0 c0 x1 a5 l5 c5 h) fr h) : den prog E (cAt C [true, true, true, true, false]) (Ex.then (D2.g R) (retQ E [.tmp 4] R)) fr h :=
  den_block (by kernel_rfl) (L3.ok R fr h g)
theorem W6.ok (R : Rt) (fr : Fr) (h : Hp) (g : L3.g (fun a0 l0 c0 x1 a5 l5 c5 h => ∃ n, L3.t R n a0 l0 c0 x1 a5 l5 c5 h) fr h) : den prog E (cAt C [true, true, true, true]) (retQ E [.tmp 4] R) fr h :=
  den_then (by kernel_rfl) (D2.ok R) (B5.ok R fr h g)
def D1.t (R : Rt) (a0 : Option Addr) (l0 : Nat) (c0 : Nat) (x1 : Int) (h : Hp) : Prop :=
  cond (decide (x1 ≤ 0)) (HC gnomonref01_Word.id #[.int .u64 0] h fun v1 h2 =>
  gSlice v1 fun a_3 l_3 c_3 =>
  R (.slice a_3 l_3 c_3) h2) ((32 : Int) ≠ 0 ∧ letK (IntKind.i64.wrap (Int.tdiv x1 32)) fun n4 =>
  cond (decide (n4 ≥ (((l0 : Nat) : Int)))) (HC gnomonref01_Norm.id #[.slice a0 l0 c0] h fun v5 h6 =>
  gSlice v5 fun a_7 l_7 c_7 =>
  R (.slice a_7 l_7 c_7) h6) ((32 : Int) ≠ 0 ∧ letK (IntKind.i64.wrap (Int.tdiv x1 32)) fun n8 =>
  slK 1 a0 l0 c0 none (some (.int .i64 n8)) none fun a_9 l_9 c_9 =>
  HC gnomonref01_Norm.id #[.slice a_9 l_9 c_9] h fun v10 h11 =>
  gSlice v10 fun a_12 l_12 c_12 =>
  (∃ n, L3.t R n a0 l0 c0 x1 a_12 l_12 c_12 h11)))
def D1.g (R : Rt) (fr : Fr) (h : Hp) : Prop := gSlice (fr 0) fun a0 l0 c0 => gInt .i64 (fr 1) fun x1 => D1.t R a0 l0 c0 x1 h
theorem D1.ok (R : Rt) (fr : Fr) (h : Hp) (g : D1.g R fr h) : den prog E C (retQ E [.tmp 4] R) fr h := by
  obtain ⟨a0, l0, c0, e0, g⟩ := gSlice_elim g
  obtain ⟨x1, e1, g⟩ := gInt_elim g
  exact den_cut 4 (r := (cAt C [true, true, true, true])) (by kernel_rfl) (W6.ok R) (den_enter [(0, .slice a0 l0 c0), (1, .int .i64 x1)] ⟨e0, e1, trivial⟩ (by kernel_rfl) g)
def t (a0 : Option Addr) (l0 : Nat) (c0 : Nat) (x1 : Int) (h : Hp) (R : Rt) : Prop := D1.t R a0 l0 c0 x1 h
theorem ok {a0 : Option Addr} {l0 : Nat} {c0 : Nat} {x1 : Int} {h : Hp} {R : Rt} (g : t a0 l0 c0 x1 h R) : HC id #[.slice a0 l0 c0, .int .i64 x1] h R :=
  calls_of_den' envOk (c := C) (rs := [.tmp 4]) Tryd.func73 (by kernel_rfl) (by kernel_rfl) (by kernel_rfl) (args := [.slice a0 l0 c0, .int .i64 x1]) (by kernel_rfl) (D1.ok R _ h (gSlice_intro rfl (gInt_intro rfl (g))))
end gnomonref01_Low

namespace gnomonref01_Mul
noncomputable def C : Code := bodyOf Tryd.f74
def D2.t (R : Rt) (a5 : Option Addr) (l5 : Nat) (c5 : Nat) (h : Hp) : Prop :=
  HC gnomonref01_Norm.id #[.slice a5 l5 c5] h fun v4 h5 =>
  gSlice v4 fun a_6 l_6 c_6 =>
  R (.slice a_6 l_6 c_6) h5
def D2.g (R : Rt) (fr : Fr) (h : Hp) : Prop := gSlice (fr 5) fun a5 l5 c5 => D2.t R a5 l5 c5 h
theorem D2.ok (R : Rt) (fr : Fr) (h : Hp) (g : D2.g R fr h) : den prog E (cAt C [true, true, true]) (retQ E [.tmp 4] R) fr h := by
  obtain ⟨a5, l5, c5, e5, g⟩ := gSlice_elim g
  exact den_enter [(5, .slice a5 l5 c5)] ⟨e5, trivial⟩ (by kernel_rfl) g
def L4.g (N : Option Addr → Nat → Nat → Option Addr → Nat → Nat → Option Addr → Nat → Nat → Int → Hp → Prop) (fr : Fr) (h : Hp) : Prop := gSlice (fr 0) fun a0 l0 c0 => gSlice (fr 1) fun a1 l1 c1 => gSlice (fr 5) fun a5 l5 c5 => gInt .i64 (fr 6) fun x6 => N a0 l0 c0 a1 l1 c1 a5 l5 c5 x6 h
def D6.t (R : Rt) (N4 : Option Addr → Nat → Nat → Option Addr → Nat → Nat → Option Addr → Nat → Nat → Int → Hp → Prop) (a0 : Option Addr) (l0 : Nat) (c0 : Nat) (a1 : Option Addr) (l1 : Nat) (c1 : Nat) (a5 : Option Addr) (l5 : Nat) (c5 : Nat) (x6 : Int) (h : Hp) : Prop :=
  letK (IntKind.i64.wrap (x6 + 1)) fun n7 => N4 a0 l0 c0 a1 l1 c1 a5 l5 c5 n7 h
def D6.g (R : Rt) (N4 : Option Addr → Nat → Nat → Option Addr → Nat → Nat → Option Addr → Nat → Nat → Int → Hp → Prop) (fr : Fr) (h : Hp) : Prop := gSlice (fr 0) fun a0 l0 c0 => gSlice (fr 1) fun a1 l1 c1 => gSlice (fr 5) fun a5 l5 c5 => gInt .i64 (fr 6) fun x6 => D6.t R N4 a0 l0 c0 a1 l1 c1 a5 l5 c5 x6 h
theorem D6.ok (R : Rt) (N4 : Option Addr → Nat → Nat → Option Addr → Nat → Nat → Option Addr → Nat → Nat → Int → Hp → Prop) (fr : Fr) (h : Hp) (g : D6.g R N4 fr h) : den prog E (cAt C [true, true, false, true, false, false, true, true]) (Ex.then (L4.g N4) (Ex.inBlock 0 (Ex.then (D2.g R) (retQ E [.tmp 4] R)))) fr h := by
  obtain ⟨a0, l0, c0, e0, g⟩ := gSlice_elim g
  obtain ⟨a1, l1, c1, e1, g⟩ := gSlice_elim g
  obtain ⟨a5, l5, c5, e5, g⟩ := gSlice_elim g
  obtain ⟨x6, e6, g⟩ := gInt_elim g
  exact den_enter [(0, .slice a0 l0 c0), (1, .slice a1 l1 c1), (5, .slice a5 l5 c5), (6, .int .i64 x6)] ⟨e0, e1, e5, e6, trivial⟩ (by kernel_rfl) g
def D8.t (R : Rt) (N4 : Option Addr → Nat → Nat → Option Addr → Nat → Nat → Option Addr → Nat → Nat → Int → Hp → Prop) (a0 : Option Addr) (l0 : Nat) (c0 : Nat) (a1 : Option Addr) (l1 : Nat) (c1 : Nat) (a5 : Option Addr) (l5 : Nat) (c5 : Nat) (x6 : Int) (x7 : Int) (h : Hp) : Prop :=
  letK (IntKind.i64.wrap (x6 + (((l1 : Nat) : Int)))) fun n12 =>
  letK (IntKind.u32.wrap x7) fun n13 =>
  idxK a5 l5 n12 1 fun q14 =>
  stK h q14 (.int .u32 n13) fun h15 =>
  D6.t R N4 a0 l0 c0 a1 l1 c1 a5 l5 c5 x6 h15
def D8.g (R : Rt) (N4 : Option Addr → Nat → Nat → Option Addr → Nat → Nat → Option Addr → Nat → Nat → Int → Hp → Prop) (fr : Fr) (h : Hp) : Prop := gSlice (fr 0) fun a0 l0 c0 => gSlice (fr 1) fun a1 l1 c1 => gSlice (fr 5) fun a5 l5 c5 => gInt .i64 (fr 6) fun x6 => gInt .u64 (fr 7) fun x7 => D8.t R N4 a0 l0 c0 a1 l1 c1 a5 l5 c5 x6 x7 h
theorem D8.ok (R : Rt) (N4 : Option Addr → Nat → Nat → Option Addr → Nat → Nat → Option Addr → Nat → Nat → Int → Hp → Prop) (fr : Fr) (h : Hp) (g : D8.g R N4 fr h) : den prog E (cAt C [true, true, false, true, false, false, true, false, false, true, true, true]) (Ex.inBlock 1 (Ex.then (D6.g R N4) (Ex.then (L4.g N4) (Ex.inBlock 0 (Ex.then (D2.g R) (retQ E [.tmp 4] R)))))) fr h := by
  obtain ⟨a0, l0, c0, e0, g⟩ := gSlice_elim g
  obtain ⟨a1, l1, c1, e1, g⟩ := gSlice_elim g
  obtain ⟨a5, l5, c5, e5, g⟩ := gSlice_elim g
  obtain ⟨x6, e6, g⟩ := gInt_elim g
  obtain ⟨x7, e7, g⟩ := gInt_elim g
  exact den_enter [(0, .slice a0 l0 c0), (1, .slice a1 l1 c1), (5, .slice a5 l5 c5), (6, .int .i64 x6), (7, .int .u64 x7)] ⟨e0, e1, e5, e6, e7, trivial⟩ (by kernel_rfl) g
def L10.g (N : Option Addr → Nat → Nat → Option Addr → Nat → Nat → Option Addr → Nat → Nat → Int → Int → Int → Int → Hp → Prop) (fr : Fr) (h : Hp) : Prop := gSlice (fr 0) fun a0 l0 c0 => gSlice (fr 1) fun a1 l1 c1 => gSlice (fr 5) fun a5 l5 c5 => gInt .i64 (fr 6) fun x6 => gInt .u64 (fr 7) fun x7 => gInt .u64 (fr 8) fun x8 => gInt .i64 (fr 9) fun x9 => N a0 l0 c0 a1 l1 c1 a5 l5 c5 x6 x7 x8 x9 h
def D11.t (R : Rt) (N4 : Option Addr → Nat → Nat → Option Addr → Nat → Nat → Option Addr → Nat → Nat → Int → Hp → Prop) (N10 : Option Addr → Nat → Nat → Option Addr → Nat → Nat → Option Addr → Nat → Nat → Int → Int → Int → Int → Hp → Prop) (a0 : Option Addr) (l0 : Nat) (c0 : Nat) (a1 : Option Addr) (l1 : Nat) (c1 : Nat) (a5 : Option Addr) (l5 : Nat) (c5 : Nat) (x6 : Int) (x7 : Int) (x8 : Int) (x9 : Int) (h : Hp) : Prop :=
  cond (decide (x9 < (((l1 : Nat) : Int)))) (letK (IntKind.i64.wrap (x6 + x9)) fun n16 =>
  idxK a5 l5 n16 1 fun q17 =>
  ldK h q17 fun v18 =>
  gInt .u32 v18 fun x_19 =>
  letK (IntKind.u64.wrap x_19) fun n20 =>
  idxK a1 l1 x9 1 fun q21 =>
  ldK h q21 fun v22 =>
  gInt .u32 v22 fun x_23 =>
  letK (IntKind.u64.wrap x_23) fun n24 =>
  letK (IntKind.u64.wrap (x8 * n24)) fun n25 =>
  letK (IntKind.u64.wrap (n20 + n25)) fun n26 =>
  letK (IntKind.u64.wrap (x7 + n26)) fun n27 =>
  letK (IntKind.i64.wrap (x6 + x9)) fun n28 =>
  letK (andI .u64 n27 4294967295) fun n29 =>
  letK (IntKind.u32.wrap n29) fun n30 =>
  idxK a5 l5 n28 1 fun q31 =>
  stK h q31 (.int .u32 n30) fun h32 =>
  0 ≤ (32 : Int) ∧ letK (shrI .u64 n27 32) fun n33 =>
  letK (IntKind.i64.wrap (x9 + 1)) fun n34 =>
  N10 a0 l0 c0 a1 l1 c1 a5 l5 c5 x6 n33 x8 n34 h32) (D8.t R N4 a0 l0 c0 a1 l1 c1 a5 l5 c5 x6 x7 h)
def D11.g (R : Rt) (N4 : Option Addr → Nat → Nat → Option Addr → Nat → Nat → Option Addr → Nat → Nat → Int → Hp → Prop) (N10 : Option Addr → Nat → Nat → Option Addr → Nat → Nat → Option Addr → Nat → Nat → Int → Int → Int → Int → Hp → Prop) (fr : Fr) (h : Hp) : Prop := gSlice (fr 0) fun a0 l0 c0 => gSlice (fr 1) fun a1 l1 c1 => gSlice (fr 5) fun a5 l5 c5 => gInt .i64 (fr 6) fun x6 => gInt .u64 (fr 7) fun x7 => gInt .u64 (fr 8) fun x8 => gInt .i64 (fr 9) fun x9 => D11.t R N4 N10 a0 l0 c0 a1 l1 c1 a5 l5 c5 x6 x7 x8 x9 h
theorem D11.ok (R : Rt) (N4 : Option Addr → Nat → Nat → Option Addr → Nat → Nat → Option Addr → Nat → Nat → Int → Hp → Prop) (N10 : Option Addr → Nat → Nat → Option Addr → Nat → Nat → Option Addr → Nat → Nat → Int → Int → Int → Int → Hp → Prop) (fr : Fr) (h : Hp) (g : D11.g R N4 N10 fr h) : den prog E (cAt C [true, true, false, true, false, false, true, false, false, true, true, false, true, false, false]) (Ex.then (L10.g N10) (Ex.inBlock 2 (Ex.then (D8.g R N4) (Ex.inBlock 1 (Ex.then (D6.g R N4) (Ex.then (L4.g N4) (Ex.inBlock 0 (Ex.then (D2.g R) (retQ E [.tmp 4] R))))))))) fr h := by
  obtain ⟨a0, l0, c0, e0, g⟩ := gSlice_elim g
  obtain ⟨a1, l1, c1, e1, g⟩ := gSlice_elim g
  obtain ⟨a5, l5, c5, e5, g⟩ := gSlice_elim g
  obtain ⟨x6, e6, g⟩ := gInt_elim g
  obtain ⟨x7, e7, g⟩ := gInt_elim g
  obtain ⟨x8, e8, g⟩ := gInt_elim g
  obtain ⟨x9, e9, g⟩ := gInt_elim g
  exact den_enter [(0, .slice a0 l0 c0), (1, .slice a1 l1 c1), (5, .slice a5 l5 c5), (6, .int .i64 x6), (7, .int .u64 x7), (8, .int .u64 x8), (9, .int .i64 x9)] ⟨e0, e1, e5, e6, e7, e8, e9, trivial⟩ (by kernel_rfl) g
def L10.t (R : Rt) (N4 : Option Addr → Nat → Nat → Option Addr → Nat → Nat → Option Addr → Nat → Nat → Int → Hp → Prop) : Nat → Option Addr → Nat → Nat → Option Addr → Nat → Nat → Option Addr → Nat → Nat → Int → Int → Int → Int → Hp → Prop
  | 0 => fun _ _ _ _ _ _ _ _ _ _ _ _ _ _ => False
  | n + 1 => fun a0 l0 c0 a1 l1 c1 a5 l5 c5 x6 x7 x8 x9 h => D11.t R N4 (L10.t R N4 n) a0 l0 c0 a1 l1 c1 a5 l5 c5 x6 x7 x8 x9 h
theorem L10.ok (R : Rt) (N4 : Option Addr → Nat → Nat → Option Addr → Nat → Nat → Option Addr → Nat → Nat → Int → Hp → Prop) (fr : Fr) (h : Hp) (g : L10.g (fun a0 l0 c0 a1 l1 c1 a5 l5 c5 x6 x7 x8 x9 h => ∃ n, L10.t R N4 n a0 l0 c0 a1 l1 c1 a5 l5 c5 x6 x7 x8 x9 h) fr h) : den prog E (cAt C [true, true, false, true, false, false, true, false, false, true, true, false, true, false]) (Ex.inBlock 2 (Ex.then (D8.g R N4) (Ex.inBlock 1 (Ex.then (D6.g R N4) (Ex.then (L4.g N4) (Ex.inBlock 0 (Ex.then (D2.g R) (retQ E [.tmp 4] R)))))))) fr h := by
  obtain ⟨a0, l0, c0, e0, g⟩ := gSlice_elim g
  obtain ⟨a1, l1, c1, e1, g⟩ := gSlice_elim g
  obtain ⟨a5, l5, c5, e5, g⟩ := gSlice_elim g
  obtain ⟨x6, e6, g⟩ := gInt_elim g
  obtain ⟨x7, e7, g⟩ := gInt_elim g
  obtain ⟨x8, e8, g⟩ := gInt_elim g
  obtain ⟨x9, e9, g⟩ := gInt_elim g
  obtain ⟨n, g⟩ := g
  refine loop_ok (fun n => L10.g (L10.t R N4 n)) (b := (cAt C [true, true, false, true, false, false, true, false, false, true, true, false, true, false, false])) (by kernel_rfl) (fun fr h g => ?_) (fun n => D11.ok R N4 (L10.t R N4 n)) n fr h (gSlice_intro e0 (gSlice_intro e1 (gSlice_intro e5 (gInt_intro e6 (gInt_intro e7 (gInt_intro e8 (gInt_intro e9 (g))))))))
  obtain ⟨a0, l0, c0, e0, g⟩ := gSlice_elim g
  obtain ⟨a1, l1, c1, e1, g⟩ := gSlice_elim g
  obtain ⟨a5, l5, c5, e5, g⟩ := gSlice_elim g
  obtain ⟨x6, e6, g⟩ := gInt_elim g
  obtain ⟨x7, e7, g⟩ := gInt_elim g
  obtain ⟨x8, e8, g⟩ := gInt_elim g
  obtain ⟨x9, e9, g⟩ := gInt_elim g
  exact g
theorem B12.ok (R : Rt) (N4 : Option Addr → Nat → Nat → Option Addr → Nat → Nat → Option Addr → Nat → Nat → Int → Hp → Prop) (fr : Fr) (h : Hp) (g : L10.g (fun a0 l0 c0 a1 l1 c1 a5 l5 c5 x6 x7 x8 x9 h => ∃ n, L10.t R N4 n a0 l0 c0 a1 l1 c1 a5 l5 c5 x6 x7 x8 x9 h) fr h) : den prog E (cAt C [true, true, false, true, false, false, true, false, false, true, true, false, true]) (Ex.then (D8.g R N4) (Ex.inBlock 1 (Ex.then (D6.g R N4) (Ex.then (L4.g N4) (Ex.inBlock 0 (Ex.then (D2.g R) (retQ E [.tmp 4] R))))))) fr h :=
  den_block (by kernel_rfl) (L10.ok R N4 fr h g)
def D9.t (R : Rt) (N4 : Option Addr → Nat → Nat → Option Addr → Nat → Nat → Option Addr → Nat → Nat → Int → Hp → Prop) (a0 : Option Addr) (l0 : Nat) (c0 : Nat) (a1 : Option Addr) (l1 : Nat) (c1 : Nat) (a5 : Option Addr) (l5 : Nat) (c5 : Nat) (x6 : Int) (x7 : Int) (x8 : Int) (h : Hp) : Prop :=
  (∃ n, L10.t R N4 n a0 l0 c0 a1 l1 c1 a5 l5 c5 x6 x7 x8 0 h)
def D9.g (R : Rt) (N4 : Option Addr → Nat → Nat → Option Addr → Nat → Nat → Option Addr → Nat → Nat → Int → Hp → Prop) (fr : Fr) (h : Hp) : Prop := gSlice (fr 0) fun a0 l0 c0 => gSlice (fr 1) fun a1 l1 c1 => gSlice (fr 5) fun a5 l5 c5 => gInt .i64 (fr 6) fun x6 => gInt .u64 (fr 7) fun x7 => gInt .u64 (fr 8) fun x8 => D9.t R N4 a0 l0 c0 a1 l1 c1 a5 l5 c5 x6 x7 x8 h
theorem D9.ok (R : Rt) (N4 : Option Addr → Nat → Nat → Option Addr → Nat → Nat → Option Addr → Nat → Nat → Int → Hp → Prop) (fr : Fr) (h : Hp) (g : D9.g R N4 fr h) : den prog E (cAt C [true, true, false, true, false, false, true, false, false, true, true, false]) (Ex.then (D8.g R N4) (Ex.inBlock 1 (Ex.then (D6.g R N4) (Ex.then (L4.g N4) (Ex.inBlock 0 (Ex.then (D2.g R) (retQ E [.tmp 4] R))))))) fr h := by
  obtain ⟨a0, l0, c0, e0, g⟩ := gSlice_elim g
  obtain ⟨a1, l1, c1, e1, g⟩ := gSlice_elim g
  obtain ⟨a5, l5, c5, e5, g⟩ := gSlice_elim g
  obtain ⟨x6, e6, g⟩ := gInt_elim g
  obtain ⟨x7, e7, g⟩ := gInt_elim g
  obtain ⟨x8, e8, g⟩ := gInt_elim g
  exact den_cut 1 (r := (cAt C [true, true, false, true, false, false, true, false, false, true, true, false, true])) (by kernel_rfl) (B12.ok R N4) (den_enter [(0, .slice a0 l0 c0), (1, .slice a1 l1 c1), (5, .slice a5 l5 c5), (6, .int .i64 x6), (7, .int .u64 x7), (8, .int .u64 x8)] ⟨e0, e1, e5, e6, e7, e8, trivial⟩ (by kernel_rfl) g)
theorem W13.ok (R : Rt) (N4 : Option Addr → Nat → Nat → Option Addr → Nat → Nat → Option Addr → Nat → Nat → Int → Hp → Prop) (fr : Fr) (h : Hp) (g : D9.g R N4 fr h) : den prog E (cAt C [true, true, false, true, false, false, true, false, false, true, true]) (Ex.inBlock 1 (Ex.then (D6.g R N4) (Ex.then (L4.g N4) (Ex.inBlock 0 (Ex.then (D2.g R) (retQ E [.tmp 4] R)))))) fr h :=
  den_then (by kernel_rfl) (D8.ok R N4) (D9.ok R N4 fr h g)
def D7.t (R : Rt) (N4 : Option Addr → Nat → Nat → Option Addr → Nat → Nat → Option Addr → Nat → Nat → Int → Hp → Prop) (a0 : Option Addr) (l0 : Nat) (c0 : Nat) (a1 : Option Addr) (l1 : Nat) (c1 : Nat) (a5 : Option Addr) (l5 : Nat) (c5 : Nat) (x6 : Int) (h : Hp) : Prop :=
  idxK a0 l0 x6 1 fun q8 =>
  ldK h q8 fun v9 =>
  gInt .u32 v9 fun x_10 =>
  letK (IntKind.u64.wrap x_10) fun n11 =>
  D9.t R N4 a0 l0 c0 a1 l1 c1 a5 l5 c5 x6 0 n11 h
def D7.g (R : Rt) (N4 : Option Addr → Nat → Nat → Option Addr → Nat → Nat → Option Addr → Nat → Nat → Int → Hp → Prop) (fr : Fr) (h : Hp) : Prop := gSlice (fr 0) fun a0 l0 c0 => gSlice (fr 1) fun a1 l1 c1 => gSlice (fr 5) fun a5 l5 c5 => gInt .i64 (fr 6) fun x6 => D7.t R N4 a0 l0 c0 a1 l1 c1 a5 l5 c5 x6 h
theorem D7.ok (R : Rt) (N4 : Option Addr → Nat → Nat → Option Addr → Nat → Nat → Option Addr → Nat → Nat → Int → Hp → Prop) (fr : Fr) (h : Hp) (g : D7.g R N4 fr h) : den prog E (cAt C [true, true, false, true, false, false, true, false, false]) (Ex.inBlock 1 (Ex.then (D6.g R N4) (Ex.then (L4.g N4) (Ex.inBlock 0 (Ex.then (D2.g R) (retQ E [.tmp 4] R)))))) fr h := by
  obtain ⟨a0, l0, c0, e0, g⟩ := gSlice_elim g
  obtain ⟨a1, l1, c1, e1, g⟩ := gSlice_elim g
  obtain ⟨a5, l5, c5, e5, g⟩ := gSlice_elim g
  obtain ⟨x6, e6, g⟩ := gInt_elim g
  exact den_cut 2 (r := (cAt C [true, true, false, true, false, false, true, false, false, true, true])) (by kernel_rfl) (W13.ok R N4) (den_enter [(0, .slice a0 l0 c0), (1, .slice a1 l1 c1), (5, .slice a5 l5 c5), (6, .int .i64 x6)] ⟨e0, e1, e5, e6, trivial⟩ (by kernel_rfl) g)
theorem B14.ok (R : Rt) (N4 : Option Addr → Nat → Nat → Option Addr → Nat → Nat → Option Addr → Nat → Nat → Int → Hp → Prop) (fr : Fr) (h : Hp) (g : D7.g R N4 fr h) : den prog E (cAt C [true, true, false, true, false, false, true, false]) (Ex.then (D6.g R N4) (Ex.then (L4.g N4) (Ex.inBlock 0 (Ex.then (D2.g R) (retQ E [.tmp 4] R))))) fr h :=
  den_block (by kernel_rfl) (D7.ok R N4 fr h g)
theorem W15.ok (R : Rt) (N4 : Option Addr → Nat → Nat → Option Addr → Nat → Nat → Option Addr → Nat → Nat → Int → Hp → Prop) (fr : Fr) (h : Hp) (g : D7.g R N4 fr h) : den prog E (cAt C [true, true, false, true, false, false, true]) (Ex.then (L4.g N4) (Ex.inBlock 0 (Ex.then (D2.g R) (retQ E [.tmp 4] R)))) fr h :=
  den_then (by kernel_rfl) (D6.ok R N4) (B14.ok R N4 fr h g)
def D5.t (R : Rt) (N4 : Option Addr → Nat → Nat → Option Addr → Nat → Nat → Option Addr → Nat → Nat → Int → Hp → Prop) (a0 : Option Addr) (l0 : Nat) (c0 : Nat) (a1 : Option Addr) (l1 : Nat) (c1 : Nat) (a5 : Option Addr) (l5 : Nat) (c5 : Nat) (x6 : Int) (h : Hp) : Prop :=
  cond (decide (x6 < (((l0 : Nat) : Int)))) (D7.t R N4 a0 l0 c0 a1 l1 c1 a5 l5 c5 x6 h) (D2.t R a5 l5 c5 h)
def D5.g (R : Rt) (N4 : Option Addr → Nat → Nat → Option Addr → Nat → Nat → Option Addr → Nat → Nat → Int → Hp → Prop) (fr : Fr) (h : Hp) : Prop := gSlice (fr 0) fun a0 l0 c0 => gSlice (fr 1) fun a1 l1 c1 => gSlice (fr 5) fun a5 l5 c5 => gInt .i64 (fr 6) fun x6 => D5.t R N4 a0 l0 c0 a1 l1 c1 a5 l5 c5 x6 h
theorem D5.ok (R : Rt) (N4 : Option Addr → Nat → Nat → Option Addr → Nat → Nat → Option Addr → Nat → Nat → Int → Hp → Prop) (fr : Fr) (h : Hp) (g : D5.g R N4 fr h) : den prog E (cAt C [true, true, false, true, false, false]) (Ex.then (L4.g N4) (Ex.inBlock 0 (Ex.then (D2.g R) (retQ E [.tmp 4] R)))) fr h := by
  obtain ⟨a0, l0, c0, e0, g⟩ := gSlice_elim g
  obtain ⟨a1, l1, c1, e1, g⟩ := gSlice_elim g
  obtain ⟨a5, l5, c5, e5, g⟩ := gSlice_elim g
  obtain ⟨x6, e6, g⟩ := gInt_elim g
  exact den_cut 1 (r := (cAt C [true, true, false, true, false, false, true])) (by kernel_rfl) (W15.ok R N4) (den_enter [(0, .slice a0 l0 c0), (1, .slice a1 l1 c1), (5, .slice a5 l5 c5), (6, .int .i64 x6)] ⟨e0, e1, e5, e6, trivial⟩ (by kernel_rfl) g)
def L4.t (R : Rt) : Nat → Option Addr → Nat → Nat → Option Addr → Nat → Nat → Option Addr → Nat → Nat → Int → Hp → Prop
  | 0 => fun _ _ _ _ _ _ _ _ _ _ _ => False
  | n + 1 => fun a0 l0 c0 a1 l1 c1 a5 l5 c5 x6 h => D5.t R (L4.t R n) a0 l0 c0 a1 l1 c1 a5 l5 c5 x6 h
theorem L4.ok (R : Rt) (fr : Fr) (h : Hp) (g : L4.g (fun a0 l0 c0 a1 l1 c1 a5 l5 c5 x6 h => ∃ n, L4.t R n a0 l0 c0 a1 l1 c1 a5 l5 c5 x6 h) fr h) : den prog E (cAt C [true, true, false, true, false]) (Ex.inBlock 0 (Ex.then (D2.g R) (retQ E [.tmp 4] R))) fr h := by
  obtain ⟨a0, l0, c0, e0, g⟩ := gSlice_elim g
  obtain ⟨a1, l1, c1, e1, g⟩ := gSlice_elim g
  obtain ⟨a5, l5, c5, e5, g⟩ := gSlice_elim g
  obtain ⟨x6, e6, g⟩ := gInt_elim g
  obtain ⟨n, g⟩ := g
  refine loop_ok (fun n => L4.g (L4.t R n)) (b := (cAt C [true, true, false, true, false, false])) (by kernel_rfl) (fun fr h g => ?_) (fun n => D5.ok R (L4.t R n)) n fr h (gSlice_intro e0 (gSlice_intro e1 (gSlice_intro e5 (gInt_intro e6 (g)))))
  obtain ⟨a0, l0, c0, e0, g⟩ := gSlice_elim g
  obtain ⟨a1, l1, c1, e1, g⟩ := gSlice_elim g
  obtain ⟨a5, l5, c5, e5, g⟩ := gSlice_elim g
  obtain ⟨x6, e6, g⟩ := gInt_elim g
  exact g
theorem B16.ok (R : Rt) (fr : Fr) (h : Hp) (g : L4.g (fun a0 l0 c0 a1 l1 c1 a5 l5 c5 x6 h => ∃ n, L4.t R n a0 l0 c0 a1 l1 c1 a5 l5 c5 x6 h) fr h) : den prog E (cAt C [true, true, false, true]) (Ex.then (D2.g R) (retQ E [.tmp 4] R)) fr h :=
  den_block (by kernel_rfl) (L4.ok R fr h g)
def D3.t (R : Rt) (a0 : Option Addr) (l0 : Nat) (c0 : Nat) (a1 : Option Addr) (l1 : Nat) (c1 : Nat) (a5 : Option Addr) (l5 : Nat) (c5 : Nat) (h : Hp) : Prop :=
  (∃ n, L4.t R n a0 l0 c0 a1 l1 c1 a5 l5 c5 0 h)
def D3.g (R : Rt) (fr : Fr) (h : Hp) : Prop := gSlice (fr 0) fun a0 l0 c0 => gSlice (fr 1) fun a1 l1 c1 => gSlice (fr 5) fun a5 l5 c5 => D3.t R a0 l0 c0 a1 l1 c1 a5 l5 c5 h
theorem D3.ok (R : Rt) (fr : Fr) (h : Hp) (g : D3.g R fr h) : den prog E (cAt C [true, true, false]) (Ex.then (D2.g R) (retQ E [.tmp 4] R)) fr h := by
  obtain ⟨a0, l0, c0, e0, g⟩ := gSlice_elim g
  obtain ⟨a1, l1, c1, e1, g⟩ := gSlice_elim g
  obtain ⟨a5, l5, c5, e5, g⟩ := gSlice_elim g
  exact den_cut 1 (r := (cAt C [true, true, false, true])) (by kernel_rfl) (B16.ok R) (den_enter [(0, .slice a0 l0 c0), (1, .slice a1 l1 c1), (5, .slice a5 l5 c5)] ⟨e0, e1, e5, trivial⟩ (by kernel_rfl) g)
theorem W17.ok (R : Rt) (fr : Fr) (h : Hp) (g : D3.g R fr h) : den prog E (cAt C [true, true]) (retQ E [.tmp 4] R) fr h :=
  den_then (by kernel_rfl) (D2.ok R) (D3.ok R fr h g)
def D1.t (R : Rt) (a0 : Option Addr) (l0 : Nat) (c0 : Nat) (a1 : Option Addr) (l1 : Nat) (c1 : Nat) (h : Hp) : Prop :=
  letK (IntKind.i64.wrap ((((l0 : Nat) : Int)) + (((l1 : Nat) : Int)))) fun n1 =>
  mkK h 87 T87 n1 n1 fun q2 h3 =>
  D3.t R a0 l0 c0 a1 l1 c1 (some q2) n1.toNat n1.toNat h3
def D1.g (R : Rt) (fr : Fr) (h : Hp) : Prop := gSlice (fr 0) fun a0 l0 c0 => gSlice (fr 1) fun a1 l1 c1 => D1.t R a0 l0 c0 a1 l1 c1 h
theorem D1.ok (R : Rt) (fr : Fr) (h : Hp) (g : D1.g R fr h) : den prog E C (retQ E [.tmp 4] R) fr h := by
  obtain ⟨a0, l0, c0, e0, g⟩ := gSlice_elim g
  obtain ⟨a1, l1, c1, e1, g⟩ := gSlice_elim g
  exact den_cut 2 (r := (cAt C [true, true])) (by kernel_rfl) (W17.ok R) (den_enter [(0, .slice a0 l0 c0), (1, .slice a1 l1 c1)] ⟨e0, e1, trivial⟩ (by kernel_rfl) g)
def t (a0 : Option Addr) (l0 : Nat) (c0 : Nat) (a1 : Option Addr) (l1 : Nat) (c1 : Nat) (h : Hp) (R : Rt) : Prop := D1.t R a0 l0 c0 a1 l1 c1 h
theorem ok {a0 : Option Addr} {l0 : Nat} {c0 : Nat} {a1 : Option Addr} {l1 : Nat} {c1 : Nat} {h : Hp} {R : Rt} (g : t a0 l0 c0 a1 l1 c1 h R) : HC id #[.slice a0 l0 c0, .slice a1 l1 c1] h R :=
  calls_of_den' envOk (c := C) (rs := [.tmp 4]) Tryd.func74 (by kernel_rfl) (by kernel_rfl) (by kernel_rfl) (args := [.slice a0 l0 c0, .slice a1 l1 c1]) (by kernel_rfl) (D1.ok R _ h (gSlice_intro rfl (gSlice_intro rfl (g))))
end gnomonref01_Mul

namespace gnomonref01_DivMod
noncomputable def C : Code := bodyOf Tryd.f75
def D3.t (R : Rt) (x8 : Int) (a10 : Option Addr) (l10 : Nat) (c10 : Nat) (x11 : Int) (a12 : Option Addr) (l12 : Nat) (c12 : Nat) (h : Hp) : Prop :=
  HC gnomonref01_Norm.id #[.slice a12 l12 c12] h fun v45 h46 =>
  gSlice v45 fun a_47 l_47 c_47 =>
  slK 1 a10 l10 c10 none (some (.int .i64 x11)) none fun a_48 l_48 c_48 =>
  HC gnomonref01_Norm.id #[.slice a_48 l_48 c_48] h46 fun v49 h50 =>
  gSlice v49 fun a_51 l_51 c_51 =>
  HC gnomonref01_Shr.id #[.slice a_51 l_51 c_51, .int .i64 x8] h50 fun v52 h53 =>
  gSlice v52 fun a_54 l_54 c_54 =>
  R (.tuple #[.slice a_47 l_47 c_47, .slice a_54 l_54 c_54]) h53
def D3.g (R : Rt) (fr : Fr) (h : Hp) : Prop := gInt .i64 (fr 8) fun x8 => gSlice (fr 10) fun a10 l10 c10 => gInt .i64 (fr 11) fun x11 => gSlice (fr 12) fun a12 l12 c12 => D3.t R x8 a10 l10 c10 x11 a12 l12 c12 h
theorem D3.ok (R : Rt) (fr : Fr) (h : Hp) (g : D3.g R fr h) : den prog E (cAt C [true, true, true, true, true, true, true, true, true, true, true]) (retQ E [.tmp 4, .tmp 5] R) fr h := by
  obtain ⟨x8, e8, g⟩ := gInt_elim g
  obtain ⟨a10, l10, c10, e10, g⟩ := gSlice_elim g
  obtain ⟨x11, e11, g⟩ := gInt_elim g
  obtain ⟨a12, l12, c12, e12, g⟩ := gSlice_elim g
  exact den_enter [(8, .int .i64 x8), (10, .slice a10 l10 c10), (11, .int .i64 x11), (12, .slice a12 l12 c12)] ⟨e8, e10, e11, e12, trivial⟩ (by kernel_rfl) g
def L5.g (N : Int → Option Addr → Nat → Nat → Option Addr → Nat → Nat → Int → Option Addr → Nat → Nat → Int → Hp → Prop) (fr : Fr) (h : Hp) : Prop := gInt .i64 (fr 8) fun x8 => gSlice (fr 9) fun a9 l9 c9 => gSlice (fr 10) fun a10 l10 c10 => gInt .i64 (fr 11) fun x11 => gSlice (fr 12) fun a12 l12 c12 => gInt .i64 (fr 13) fun x13 => N x8 a9 l9 c9 a10 l10 c10 x11 a12 l12 c12 x13 h
def D6.t (R : Rt) (N5 : Int → Option Addr → Nat → Nat → Option Addr → Nat → Nat → Int → Option Addr → Nat → Nat → Int → Hp → Prop) (x8 : Int) (a9 : Option Addr) (l9 : Nat) (c9 : Nat) (a10 : Option Addr) (l10 : Nat) (c10 : Nat) (x11 : Int) (a12 : Option Addr) (l12 : Nat) (c12 : Nat) (x13 : Int) (h : Hp) : Prop :=
  cond (decide (x13 ≥ 0)) (letK (IntKind.i64.wrap (x13 + x11)) fun n57 =>
  letK (IntKind.i64.wrap (n57 + 1)) fun n58 =>
  slK 1 a10 l10 c10 (some (.int .i64 x13)) (some (.int .i64 n58)) none fun a_59 l_59 c_59 =>
  HC gnomonref01_digit.id #[.slice a_59 l_59 c_59, .slice a9 l9 c9] h fun v60 h61 =>
  gInt .u32 v60 fun x_62 =>
  idxK a12 l12 x13 1 fun q63 =>
  stK h61 q63 (.int .u32 x_62) fun h64 =>
  letK (IntKind.i64.wrap (x13 - 1)) fun n65 =>
  N5 x8 a9 l9 c9 a10 l10 c10 x11 a12 l12 c12 n65 h64) (D3.t R x8 a10 l10 c10 x11 a12 l12 c12 h)
def D6.g (R : Rt) (N5 : Int → Option Addr → Nat → Nat → Option Addr → Nat → Nat → Int → Option Addr → Nat → Nat → Int → Hp → Prop) (fr : Fr) (h : Hp) : Prop := gInt .i64 (fr 8) fun x8 => gSlice (fr 9) fun a9 l9 c9 => gSlice (fr 10) fun a10 l10 c10 => gInt .i64 (fr 11) fun x11 => gSlice (fr 12) fun a12 l12 c12 => gInt .i64 (fr 13) fun x13 => D6.t R N5 x8 a9 l9 c9 a10 l10 c10 x11 a12 l12 c12 x13 h
theorem D6.ok (R : Rt) (N5 : Int → Option Addr → Nat → Nat → Option Addr → Nat → Nat → Int → Option Addr → Nat → Nat → Int → Hp → Prop) (fr : Fr) (h : Hp) (g : D6.g R N5 fr h) : den prog E (cAt C [true, true, true, true, true, true, true, true, true, true, false, true, false, false]) (Ex.then (L5.g N5) (Ex.inBlock 2 (Ex.then (D3.g R) (retQ E [.tmp 4, .tmp 5] R)))) fr h := by
  obtain ⟨x8, e8, g⟩ := gInt_elim g
  obtain ⟨a9, l9, c9, e9, g⟩ := gSlice_elim g
  obtain ⟨a10, l10, c10, e10, g⟩ := gSlice_elim g
  obtain ⟨x11, e11, g⟩ := gInt_elim g
  obtain ⟨a12, l12, c12, e12, g⟩ := gSlice_elim g
  obtain ⟨x13, e13, g⟩ := gInt_elim g
  exact den_enter [(8, .int .i64 x8), (9, .slice a9 l9 c9), (10, .slice a10 l10 c10), (11, .int .i64 x11), (12, .slice a12 l12 c12), (13, .int .i64 x13)] ⟨e8, e9, e10, e11, e12, e13, trivial⟩ (by kernel_rfl) g
def L5.t (R : Rt) : Nat → Int → Option Addr → Nat → Nat → Option Addr → Nat → Nat → Int → Option Addr → Nat → Nat → Int → Hp → Prop
  | 0 => fun _ _ _ _ _ _ _ _ _ _ _ _ _ => False
  | n + 1 => fun x8 a9 l9 c9 a10 l10 c10 x11 a12 l12 c12 x13 h => D6.t R (L5.t R n) x8 a9 l9 c9 a10 l10 c10 x11 a12 l12 c12 x13 h
theorem L5.ok (R : Rt) (fr : Fr) (h : Hp) (g : L5.g (fun x8 a9 l9 c9 a10 l10 c10 x11 a12 l12 c12 x13 h => ∃ n, L5.t R n x8 a9 l9 c9 a10 l10 c10 x11 a12 l12 c12 x13 h) fr h) : den prog E (cAt C [true, true, true, true, true, true, true, true, true, true, false, true, false]) (Ex.inBlock 2 (Ex.then (D3.g R) (retQ E [.tmp 4, .tmp 5] R))) fr h := by
  obtain ⟨x8, e8, g⟩ := gInt_elim g
  obtain ⟨a9, l9, c9, e9, g⟩ := gSlice_elim g
  obtain ⟨a10, l10, c10, e10, g⟩ := gSlice_elim g
  obtain ⟨x11, e11, g⟩ := gInt_elim g
  obtain ⟨a12, l12, c12, e12, g⟩ := gSlice_elim g
  obtain ⟨x13, e13, g⟩ := gInt_elim g
  obtain ⟨n, g⟩ := g
  refine loop_ok (fun n => L5.g (L5.t R n)) (b := (cAt C [true, true, true, true, true, true, true, true, true, true, false, true, false, false])) (by kernel_rfl) (fun fr h g => ?_) (fun n => D6.ok R (L5.t R n)) n fr h (gInt_intro e8 (gSlice_intro e9 (gSlice_intro e10 (gInt_intro e11 (gSlice_intro e12 (gInt_intro e13 (g)))))))
  obtain ⟨x8, e8, g⟩ := gInt_elim g
  obtain ⟨a9, l9, c9, e9, g⟩ := gSlice_elim g
  obtain ⟨a10, l10, c10, e10, g⟩ := gSlice_elim g
  obtain ⟨x11, e11, g⟩ := gInt_elim g
  obtain ⟨a12, l12, c12, e12, g⟩ := gSlice_elim g
  obtain ⟨x13, e13, g⟩ := gInt_elim g
  exact g
theorem B7.ok (R : Rt) (fr : Fr) (h : Hp) (g : L5.g (fun x8 a9 l9 c9 a10 l10 c10 x11 a12 l12 c12 x13 h => ∃ n, L5.t R n x8 a9 l9 c9 a10 l10 c10 x11 a12 l12 c12 x13 h) fr h) : den prog E (cAt C [true, true, true, true, true, true, true, true, true, true, false, true]) (Ex.then (D3.g R) (retQ E [.tmp 4, .tmp 5] R)) fr h :=
  den_block (by kernel_rfl) (L5.ok R fr h g)
def D4.t (R : Rt) (x8 : Int) (a9 : Option Addr) (l9 : Nat) (c9 : Nat) (a10 : Option Addr) (l10 : Nat) (c10 : Nat) (x11 : Int) (a12 : Option Addr) (l12 : Nat) (c12 : Nat) (h : Hp) : Prop :=
  letK (IntKind.i64.wrap ((((l10 : Nat) : Int)) - x11)) fun n55 =>
  letK (IntKind.i64.wrap (n55 - 1)) fun n56 =>
  (∃ n, L5.t R n x8 a9 l9 c9 a10 l10 c10 x11 a12 l12 c12 n56 h)
def D4.g (R : Rt) (fr : Fr) (h : Hp) : Prop := gInt .i64 (fr 8) fun x8 => gSlice (fr 9) fun a9 l9 c9 => gSlice (fr 10) fun a10 l10 c10 => gInt .i64 (fr 11) fun x11 => gSlice (fr 12) fun a12 l12 c12 => D4.t R x8 a9 l9 c9 a10 l10 c10 x11 a12 l12 c12 h
theorem D4.ok (R : Rt) (fr : Fr) (h : Hp) (g : D4.g R fr h) : den prog E (cAt C [true, true, true, true, true, true, true, true, true, true, false]) (Ex.then (D3.g R) (retQ E [.tmp 4, .tmp 5] R)) fr h := by
  obtain ⟨x8, e8, g⟩ := gInt_elim g
  obtain ⟨a9, l9, c9, e9, g⟩ := gSlice_elim g
  obtain ⟨a10, l10, c10, e10, g⟩ := gSlice_elim g
  obtain ⟨x11, e11, g⟩ := gInt_elim g
  obtain ⟨a12, l12, c12, e12, g⟩ := gSlice_elim g
  exact den_cut 1 (r := (cAt C [true, true, true, true, true, true, true, true, true, true, false, true])) (by kernel_rfl) (B7.ok R) (den_enter [(8, .int .i64 x8), (9, .slice a9 l9 c9), (10, .slice a10 l10 c10), (11, .int .i64 x11), (12, .slice a12 l12 c12)] ⟨e8, e9, e10, e11, e12, trivial⟩ (by kernel_rfl) g)
theorem W8.ok (R : Rt) (fr : Fr) (h : Hp) (g : D4.g R fr h) : den prog E (cAt C [true, true, true, true, true, true, true, true, true, true]) (retQ E [.tmp 4, .tmp 5] R) fr h :=
  den_then (by kernel_rfl) (D3.ok R) (D4.ok R fr h g)
def D2.t (R : Rt) (x8 : Int) (a9 : Option Addr) (l9 : Nat) (c9 : Nat) (a10 : Option Addr) (l10 : Nat) (c10 : Nat) (h : Hp) : Prop :=
  letK (IntKind.i64.wrap ((((l10 : Nat) : Int)) - (((l9 : Nat) : Int)))) fun n42 =>
  mkK h 87 T87 n42 n42 fun q43 h44 =>
  D4.t R x8 a9 l9 c9 a10 l10 c10 (((l9 : Nat) : Int)) (some q43) n42.toNat n42.toNat h44
def D2.g (R : Rt) (fr : Fr) (h : Hp) : Prop := gInt .i64 (fr 8) fun x8 => gSlice (fr 9) fun a9 l9 c9 => gSlice (fr 10) fun a10 l10 c10 => D2.t R x8 a9 l9 c9 a10 l10 c10 h
theorem D2.ok (R : Rt) (fr : Fr) (h : Hp) (g : D2.g R fr h) : den prog E (cAt C [true, true, true, true, true, true, true, true]) (retQ E [.tmp 4, .tmp 5] R) fr h := by
  obtain ⟨x8, e8, g⟩ := gInt_elim g
  obtain ⟨a9, l9, c9, e9, g⟩ := gSlice_elim g
  obtain ⟨a10, l10, c10, e10, g⟩ := gSlice_elim g
  exact den_cut 2 (r := (cAt C [true, true, true, true, true, true, true, true, true, true])) (by kernel_rfl) (W8.ok R) (den_enter [(8, .int .i64 x8), (9, .slice a9 l9 c9), (10, .slice a10 l10 c10)] ⟨e8, e9, e10, trivial⟩ (by kernel_rfl) g)
def L9.g (N : Option Addr → Nat → Nat → Int → Option Addr → Nat → Nat → Option Addr → Nat → Nat → Hp → Prop) (fr : Fr) (h : Hp) : Prop := gSlice (fr 0) fun a0 l0 c0 => gInt .i64 (fr 8) fun x8 => gSlice (fr 9) fun a9 l9 c9 => gSlice (fr 10) fun a10 l10 c10 => N a0 l0 c0 x8 a9 l9 c9 a10 l10 c10 h
def D10.t (R : Rt) (N9 : Option Addr → Nat → Nat → Int → Option Addr → Nat → Nat → Option Addr → Nat → Nat → Hp → Prop) (a0 : Option Addr) (l0 : Nat) (c0 : Nat) (x8 : Int) (a9 : Option Addr) (l9 : Nat) (c9 : Nat) (a10 : Option Addr) (l10 : Nat) (c10 : Nat) (h : Hp) : Prop :=
  cond (decide ((((l10 : Nat) : Int)) ≤ (((l0 : Nat) : Int)))) (boxK h 87 [.int .u32 0] fun q66 h67 =>
  apK h67 87 T87 a10 l10 c10 (.slice (some q66) 1 1) fun a_68 l_68 c_68 h68 =>
  N9 a0 l0 c0 x8 a9 l9 c9 a_68 l_68 c_68 h68) (D2.t R x8 a9 l9 c9 a10 l10 c10 h)
def D10.g (R : Rt) (N9 : Option Addr → Nat → Nat → Int → Option Addr → Nat → Nat → Option Addr → Nat → Nat → Hp → Prop) (fr : Fr) (h : Hp) : Prop := gSlice (fr 0) fun a0 l0 c0 => gInt .i64 (fr 8) fun x8 => gSlice (fr 9) fun a9 l9 c9 => gSlice (fr 10) fun a10 l10 c10 => D10.t R N9 a0 l0 c0 x8 a9 l9 c9 a10 l10 c10 h
theorem D10.ok (R : Rt) (N9 : Option Addr → Nat → Nat → Int → Option Addr → Nat → Nat → Option Addr → Nat → Nat → Hp → Prop) (fr : Fr) (h : Hp) (g : D10.g R N9 fr h) : den prog E (cAt C [true, true, true, true, true, true, true, false, false, false]) (Ex.then (L9.g N9) (Ex.inBlock 0 (Ex.then (D2.g R) (retQ E [.tmp 4, .tmp 5] R)))) fr h := by
  obtain ⟨a0, l0, c0, e0, g⟩ := gSlice_elim g
  obtain ⟨x8, e8, g⟩ := gInt_elim g
  obtain ⟨a9, l9, c9, e9, g⟩ := gSlice_elim g
  obtain ⟨a10, l10, c10, e10, g⟩ := gSlice_elim g
  exact den_enter [(0, .slice a0 l0 c0), (8, .int .i64 x8), (9, .slice a9 l9 c9), (10, .slice a10 l10 c10)] ⟨e0, e8, e9, e10, trivial⟩ (by kernel_rfl) g
def L9.t (R : Rt) : Nat → Option Addr → Nat → Nat → Int → Option Addr → Nat → Nat → Option Addr → Nat → Nat → Hp → Prop
  | 0 => fun _ _ _ _ _ _ _ _ _ _ _ => False
  | n + 1 => fun a0 l0 c0 x8 a9 l9 c9 a10 l10 c10 h => D10.t R (L9.t R n) a0 l0 c0 x8 a9 l9 c9 a10 l10 c10 h
theorem L9.ok (R : Rt) (fr : Fr) (h : Hp) (g : L9.g (fun a0 l0 c0 x8 a9 l9 c9 a10 l10 c10 h => ∃ n, L9.t R n a0 l0 c0 x8 a9 l9 c9 a10 l10 c10 h) fr h) : den prog E (cAt C [true, true, true, true, true, true, true, false, false]) (Ex.inBlock 0 (Ex.then (D2.g R) (retQ E [.tmp 4, .tmp 5] R))) fr h := by
  obtain ⟨a0, l0, c0, e0, g⟩ := gSlice_elim g
  obtain ⟨x8, e8, g⟩ := gInt_elim g
  obtain ⟨a9, l9, c9, e9, g⟩ := gSlice_elim g
  obtain ⟨a10, l10, c10, e10, g⟩ := gSlice_elim g
  obtain ⟨n, g⟩ := g
  refine loop_ok (fun n => L9.g (L9.t R n)) (b := (cAt C [true, true, true, true, true, true, true, false, false, false])) (by kernel_rfl) (fun fr h g => ?_) (fun n => D10.ok R (L9.t R n)) n fr h (gSlice_intro e0 (gInt_intro e8 (gSlice_intro e9 (gSlice_intro e10 (g)))))
  obtain ⟨a0, l0, c0, e0, g⟩ := gSlice_elim g
  obtain ⟨x8, e8, g⟩ := gInt_elim g
  obtain ⟨a9, l9, c9, e9, g⟩ := gSlice_elim g
  obtain ⟨a10, l10, c10, e10, g⟩ := gSlice_elim g
  exact g
theorem B11.ok (R : Rt) (fr : Fr) (h : Hp) (g : L9.g (fun a0 l0 c0 x8 a9 l9 c9 a10 l10 c10 h => ∃ n, L9.t R n a0 l0 c0 x8 a9 l9 c9 a10 l10 c10 h) fr h) : den prog E (cAt C [true, true, true, true, true, true, true, false]) (Ex.then (D2.g R) (retQ E [.tmp 4, .tmp 5] R)) fr h :=
  den_block (by kernel_rfl) (L9.ok R fr h g)
theorem W12.ok (R : Rt) (fr : Fr) (h : Hp) (g : L9.g (fun a0 l0 c0 x8 a9 l9 c9 a10 l10 c10 h => ∃ n, L9.t R n a0 l0 c0 x8 a9 l9 c9 a10 l10 c10 h) fr h) : den prog E (cAt C [true, true, true, true, true, true, true]) (retQ E [.tmp 4, .tmp 5] R) fr h :=
  den_then (by kernel_rfl) (D2.ok R) (B11.ok R fr h g)
def D1.t (R : Rt) (a0 : Option Addr) (l0 : Nat) (c0 : Nat) (a1 : Option Addr) (l1 : Nat) (c1 : Nat) (h : Hp) : Prop :=
  cond ((((l1 : Nat) : Int)) == 0) (HC gnomonref01_Word.id #[.int .u64 0] h fun v1 h2 =>
  gSlice v1 fun a_3 l_3 c_3 =>
  HC gnomonref01_Word.id #[.int .u64 0] h2 fun v4 h5 =>
  gSlice v4 fun a_6 l_6 c_6 =>
  R (.tuple #[.slice a_3 l_3 c_3, .slice a_6 l_6 c_6]) h5) (HC gnomonref01_Cmp.id #[.slice a0 l0 c0, .slice a1 l1 c1] h fun v7 h8 =>
  gInt .i64 v7 fun x_9 =>
  cond (decide (x_9 < 0)) (HC gnomonref01_Word.id #[.int .u64 0] h8 fun v10 h11 =>
  gSlice v10 fun a_12 l_12 c_12 =>
  HC gnomonref01_Norm.id #[.slice a0 l0 c0] h11 fun v13 h14 =>
  gSlice v13 fun a_15 l_15 c_15 =>
  R (.tuple #[.slice a_12 l_12 c_12, .slice a_15 l_15 c_15]) h14) (cond ((((l1 : Nat) : Int)) == 1) (idxK a1 l1 0 1 fun q16 =>
  ldK h8 q16 fun v17 =>
  gInt .u32 v17 fun x_18 =>
  HC gnomonref01_DivSmall.id #[.slice a0 l0 c0, .int .u32 x_18] h8 fun v19 h20 =>
  gTup v19 fun y21 =>
  uncons y21 fun v22 y22 =>
  gSlice v22 fun a_23 l_23 c_23 =>
  uncons y22 fun v24 y24 =>
  gInt .u32 v24 fun x_25 =>
  unnil y24 <| letK (IntKind.u64.wrap x_25) fun n26 =>
  HC gnomonref01_Word.id #[.int .u64 n26] h20 fun v27 h28 =>
  gSlice v27 fun a_29 l_29 c_29 =>
  R (.tuple #[.slice a_23 l_23 c_23, .slice a_29 l_29 c_29]) h28) (letK (IntKind.i64.wrap ((((l1 : Nat) : Int)) - 1)) fun n30 =>
  slK 1 a1 l1 c1 (some (.int .i64 n30)) none none fun a_31 l_31 c_31 =>
  HC gnomonref01_Bits.id #[.slice a_31 l_31 c_31] h8 fun v32 h33 =>
  gInt .i64 v32 fun x_34 =>
  letK (IntKind.i64.wrap (32 - x_34)) fun n35 =>
  HC gnomonref01_Shl.id #[.slice a1 l1 c1, .int .i64 n35] h33 fun v36 h37 =>
  gSlice v36 fun a_38 l_38 c_38 =>
  HC gnomonref01_Shl.id #[.slice a0 l0 c0, .int .i64 n35] h37 fun v39 h40 =>
  gSlice v39 fun a_41 l_41 c_41 =>
  (∃ n, L9.t R n a0 l0 c0 n35 a_38 l_38 c_38 a_41 l_41 c_41 h40))))
def D1.g (R : Rt) (fr : Fr) (h : Hp) : Prop := gSlice (fr 0) fun a0 l0 c0 => gSlice (fr 1) fun a1 l1 c1 => D1.t R a0 l0 c0 a1 l1 c1 h
theorem D1.ok (R : Rt) (fr : Fr) (h : Hp) (g : D1.g R fr h) : den prog E C (retQ E [.tmp 4, .tmp 5] R) fr h := by
  obtain ⟨a0, l0, c0, e0, g⟩ := gSlice_elim g
  obtain ⟨a1, l1, c1, e1, g⟩ := gSlice_elim g
  exact den_cut 7 (r := (cAt C [true, true, true, true, true, true, true])) (by kernel_rfl) (W12.ok R) (den_enter [(0, .slice a0 l0 c0), (1, .slice a1 l1 c1)] ⟨e0, e1, trivial⟩ (by kernel_rfl) g)
def t (a0 : Option Addr) (l0 : Nat) (c0 : Nat) (a1 : Option Addr) (l1 : Nat) (c1 : Nat) (h : Hp) (R : Rt) : Prop := D1.t R a0 l0 c0 a1 l1 c1 h
theorem ok {a0 : Option Addr} {l0 : Nat} {c0 : Nat} {a1 : Option Addr} {l1 : Nat} {c1 : Nat} {h : Hp} {R : Rt} (g : t a0 l0 c0 a1 l1 c1 h R) : HC id #[.slice a0 l0 c0, .slice a1 l1 c1] h R :=
  calls_of_den' envOk (c := C) (rs := [.tmp 4, .tmp 5]) Tryd.func75 (by kernel_rfl) (by kernel_rfl) (by kernel_rfl) (args := [.slice a0 l0 c0, .slice a1 l1 c1]) (by kernel_rfl) (D1.ok R _ h (gSlice_intro rfl (gSlice_intro rfl (g))))
end gnomonref01_DivMod

namespace gnomonref01_Fits
noncomputable def C : Code := bodyOf Tryd.f76
def D1.t (R : Rt) (a0 : Option Addr) (l0 : Nat) (c0 : Nat) (h : Hp) : Prop :=
  HC gnomonref01_To.id #[.slice a0 l0 c0] h fun v1 h2 =>
  gSlice v1 fun a_3 l_3 c_3 =>
  cond ((((l_3 : Nat) : Int)) == 0) (R (.tuple #[.int .u64 0, .bool true]) h2) (cond ((((l_3 : Nat) : Int)) == 1) (idxK a_3 l_3 0 1 fun q4 =>
  ldK h2 q4 fun v5 =>
  gInt .u64 v5 fun x_6 =>
  R (.tuple #[.int .u64 x_6, .bool true]) h2) (R (.tuple #[.int .u64 0, .bool false]) h2))
def D1.g (R : Rt) (fr : Fr) (h : Hp) : Prop := gSlice (fr 0) fun a0 l0 c0 => D1.t R a0 l0 c0 h
theorem D1.ok (R : Rt) (fr : Fr) (h : Hp) (g : D1.g R fr h) : den prog E C (retQ E [.tmp 2, .tmp 3] R) fr h := by
  obtain ⟨a0, l0, c0, e0, g⟩ := gSlice_elim g
  exact den_enter [(0, .slice a0 l0 c0)] ⟨e0, trivial⟩ (by kernel_rfl) g
def t (a0 : Option Addr) (l0 : Nat) (c0 : Nat) (h : Hp) (R : Rt) : Prop := D1.t R a0 l0 c0 h
theorem ok {a0 : Option Addr} {l0 : Nat} {c0 : Nat} {h : Hp} {R : Rt} (g : t a0 l0 c0 h R) : HC id #[.slice a0 l0 c0] h R :=
  calls_of_den' envOk (c := C) (rs := [.tmp 2, .tmp 3]) Tryd.func76 (by kernel_rfl) (by kernel_rfl) (by kernel_rfl) (args := [.slice a0 l0 c0]) (by kernel_rfl) (D1.ok R _ h (gSlice_intro rfl (g)))
end gnomonref01_Fits

namespace gnomonref01_Bits
noncomputable def C : Code := bodyOf Tryd.f77
def D2.t (R : Rt) (x3 : Int) (h : Hp) : Prop :=
  R (.int .i64 x3) h
def D2.g (R : Rt) (fr : Fr) (h : Hp) : Prop := gInt .i64 (fr 3) fun x3 => D2.t R x3 h
theorem D2.ok (R : Rt) (fr : Fr) (h : Hp) (g : D2.g R fr h) : den prog E (cAt C [true, true, true, true]) (retQ E [.tmp 2] R) fr h := by
  obtain ⟨x3, e3, g⟩ := gInt_elim g
  exact den_enter [(3, .int .i64 x3)] ⟨e3, trivial⟩ (by kernel_rfl) g
def L4.g (N : Int → Int → Hp → Prop) (fr : Fr) (h : Hp) : Prop := gInt .i64 (fr 3) fun x3 => gInt .u32 (fr 4) fun x4 => N x3 x4 h
def D5.t (R : Rt) (N4 : Int → Int → Hp → Prop) (x3 : Int) (x4 : Int) (h : Hp) : Prop :=
  cond (decide (x4 > 0)) (letK (IntKind.i64.wrap (x3 + 1)) fun n7 =>
  (2 : Int) ≠ 0 ∧ letK (IntKind.u32.wrap (Int.tdiv x4 2)) fun n8 =>
  N4 n7 n8 h) (D2.t R x3 h)
def D5.g (R : Rt) (N4 : Int → Int → Hp → Prop) (fr : Fr) (h : Hp) : Prop := gInt .i64 (fr 3) fun x3 => gInt .u32 (fr 4) fun x4 => D5.t R N4 x3 x4 h
theorem D5.ok (R : Rt) (N4 : Int → Int → Hp → Prop) (fr : Fr) (h : Hp) (g : D5.g R N4 fr h) : den prog E (cAt C [true, true, true, false, true, false, false]) (Ex.then (L4.g N4) (Ex.inBlock 0 (Ex.then (D2.g R) (retQ E [.tmp 2] R)))) fr h := by
  obtain ⟨x3, e3, g⟩ := gInt_elim g
  obtain ⟨x4, e4, g⟩ := gInt_elim g
  exact den_enter [(3, .int .i64 x3), (4, .int .u32 x4)] ⟨e3, e4, trivial⟩ (by kernel_rfl) g
def L4.t (R : Rt) : Nat → Int → Int → Hp → Prop
  | 0 => fun _ _ _ => False
  | n + 1 => fun x3 x4 h => D5.t R (L4.t R n) x3 x4 h
theorem L4.ok (R : Rt) (fr : Fr) (h : Hp) (g : L4.g (fun x3 x4 h => ∃ n, L4.t R n x3 x4 h) fr h) : den prog E (cAt C [true, true, true, false, true, false]) (Ex.inBlock 0 (Ex.then (D2.g R) (retQ E [.tmp 2] R))) fr h := by
  obtain ⟨x3, e3, g⟩ := gInt_elim g
  obtain ⟨x4, e4, g⟩ := gInt_elim g
  obtain ⟨n, g⟩ := g
  refine loop_ok (fun n => L4.g (L4.t R n)) (b := (cAt C [true, true, true, false, true, false, false])) (by kernel_rfl) (fun fr h g => ?_) (fun n => D5.ok R (L4.t R n)) n fr h (gInt_intro e3 (gInt_intro e4 (g)))
  obtain ⟨x3, e3, g⟩ := gInt_elim g
  obtain ⟨x4, e4, g⟩ := gInt_elim g
  exact g
theorem B6.ok (R : Rt) (fr : Fr) (h : Hp) (g : L4.g (fun x3 x4 h => ∃ n, L4.t R n x3 x4 h) fr h) : den prog E (cAt C [true, true, true, false, true]) (Ex.then (D2.g R) (retQ E [.tmp 2] R)) fr h :=
  den_block (by kernel_rfl) (L4.ok R fr h g)
def D3.t (R : Rt) (a0 : Option Addr) (l0 : Nat) (c0 : Nat) (x3 : Int) (h : Hp) : Prop :=
  letK (IntKind.i64.wrap ((((l0 : Nat) : Int)) - 1)) fun n3 =>
  idxK a0 l0 n3 1 fun q4 =>
  ldK h q4 fun v5 =>
  gInt .u32 v5 fun x_6 =>
  (∃ n, L4.t R n x3 x_6 h)
def D3.g (R : Rt) (fr : Fr) (h : Hp) : Prop := gSlice (fr 0) fun a0 l0 c0 => gInt .i64 (fr 3) fun x3 => D3.t R a0 l0 c0 x3 h
theorem D3.ok (R : Rt) (fr : Fr) (h : Hp) (g : D3.g R fr h) : den prog E (cAt C [true, true, true, false]) (Ex.then (D2.g R) (retQ E [.tmp 2] R)) fr h := by
  obtain ⟨a0, l0, c0, e0, g⟩ := gSlice_elim g
  obtain ⟨x3, e3, g⟩ := gInt_elim g
  exact den_cut 1 (r := (cAt C [true, true, true, false, true])) (by kernel_rfl) (B6.ok R) (den_enter [(0, .slice a0 l0 c0), (3, .int .i64 x3)] ⟨e0, e3, trivial⟩ (by kernel_rfl) g)
theorem W7.ok (R : Rt) (fr : Fr) (h : Hp) (g : D3.g R fr h) : den prog E (cAt C [true, true, true]) (retQ E [.tmp 2] R) fr h :=
  den_then (by kernel_rfl) (D2.ok R) (D3.ok R fr h g)
def D1.t (R : Rt) (a0 : Option Addr) (l0 : Nat) (c0 : Nat) (h : Hp) : Prop :=
  cond ((((l0 : Nat) : Int)) == 0) (R (.int .i64 0) h) (letK (IntKind.i64.wrap ((((l0 : Nat) : Int)) - 1)) fun n1 =>
  letK (IntKind.i64.wrap (32 * n1)) fun n2 =>
  D3.t R a0 l0 c0 n2 h)
def D1.g (R : Rt) (fr : Fr) (h : Hp) : Prop := gSlice (fr 0) fun a0 l0 c0 => D1.t R a0 l0 c0 h
theorem D1.ok (R : Rt) (fr : Fr) (h : Hp) (g : D1.g R fr h) : den prog E C (retQ E [.tmp 2] R) fr h := by
  obtain ⟨a0, l0, c0, e0, g⟩ := gSlice_elim g
  exact den_cut 3 (r := (cAt C [true, true, true])) (by kernel_rfl) (W7.ok R) (den_enter [(0, .slice a0 l0 c0)] ⟨e0, trivial⟩ (by kernel_rfl) g)
def t (a0 : Option Addr) (l0 : Nat) (c0 : Nat) (h : Hp) (R : Rt) : Prop := D1.t R a0 l0 c0 h
theorem ok {a0 : Option Addr} {l0 : Nat} {c0 : Nat} {h : Hp} {R : Rt} (g : t a0 l0 c0 h R) : HC id #[.slice a0 l0 c0] h R :=
  calls_of_den' envOk (c := C) (rs := [.tmp 2]) Tryd.func77 (by kernel_rfl) (by kernel_rfl) (by kernel_rfl) (args := [.slice a0 l0 c0]) (by kernel_rfl) (D1.ok R _ h (gSlice_intro rfl (g)))
end gnomonref01_Bits

namespace gnomonref01_Zeros
noncomputable def C : Code := bodyOf Tryd.f78
def D2.t (R : Rt) (x3 : Int) (h : Hp) : Prop :=
  R (.int .i64 x3) h
def D2.g (R : Rt) (fr : Fr) (h : Hp) : Prop := gInt .i64 (fr 3) fun x3 => D2.t R x3 h
theorem D2.ok (R : Rt) (fr : Fr) (h : Hp) (g : D2.g R fr h) : den prog E (cAt C [true, true, true, true, true]) (retQ E [.tmp 2] R) fr h := by
  obtain ⟨x3, e3, g⟩ := gInt_elim g
  exact den_enter [(3, .int .i64 x3)] ⟨e3, trivial⟩ (by kernel_rfl) g
def L3.g (N : Option Addr → Nat → Nat → Int → Hp → Prop) (fr : Fr) (h : Hp) : Prop := gSlice (fr 0) fun a0 l0 c0 => gInt .i64 (fr 3) fun x3 => N a0 l0 c0 x3 h
def D4.t (R : Rt) (N3 : Option Addr → Nat → Nat → Int → Hp → Prop) (a0 : Option Addr) (l0 : Nat) (c0 : Nat) (x3 : Int) (h : Hp) : Prop :=
  HC gnomonref01_Bit.id #[.slice a0 l0 c0, .int .i64 x3] h fun v1 h2 =>
  gInt .i64 v1 fun x_3 =>
  cond (x_3 == 0) (letK (IntKind.i64.wrap (x3 + 1)) fun n4 =>
  N3 a0 l0 c0 n4 h2) (D2.t R x3 h2)
def D4.g (R : Rt) (N3 : Option Addr → Nat → Nat → Int → Hp → Prop) (fr : Fr) (h : Hp) : Prop := gSlice (fr 0) fun a0 l0 c0 => gInt .i64 (fr 3) fun x3 => D4.t R N3 a0 l0 c0 x3 h
theorem D4.ok (R : Rt) (N3 : Option Addr → Nat → Nat → Int → Hp → Prop) (fr : Fr) (h : Hp) (g : D4.g R N3 fr h) : den prog E (cAt C [true, true, true, true, false, false, false]) (Ex.then (L3.g N3) (Ex.inBlock 2 (Ex.then (D2.g R) (retQ E [.tmp 2] R)))) fr h := by
  obtain ⟨a0, l0, c0, e0, g⟩ := gSlice_elim g
  obtain ⟨x3, e3, g⟩ := gInt_elim g
  exact den_enter [(0, .slice a0 l0 c0), (3, .int .i64 x3)] ⟨e0, e3, trivial⟩ (by kernel_rfl) g
def L3.t (R : Rt) : Nat → Option Addr → Nat → Nat → Int → Hp → Prop
  | 0 => fun _ _ _ _ _ => False
  | n + 1 => fun a0 l0 c0 x3 h => D4.t R (L3.t R n) a0 l0 c0 x3 h
theorem L3.ok (R : Rt) (fr : Fr) (h : Hp) (g : L3.g (fun a0 l0 c0 x3 h => ∃ n, L3.t R n a0 l0 c0 x3 h) fr h) : den prog E (cAt C [true, true, true, true, false, false]) (Ex.inBlock 2 (Ex.then (D2.g R) (retQ E [.tmp 2] R))) fr h := by
  obtain ⟨a0, l0, c0, e0, g⟩ := gSlice_elim g
  obtain ⟨x3, e3, g⟩ := gInt_elim g
  obtain ⟨n, g⟩ := g
  refine loop_ok (fun n => L3.g (L3.t R n)) (b := (cAt C [true, true, true, true, false, false, false])) (by kernel_rfl) (fun fr h g => ?_) (fun n => D4.ok R (L3.t R n)) n fr h (gSlice_intro e0 (gInt_intro e3 (g)))
  obtain ⟨a0, l0, c0, e0, g⟩ := gSlice_elim g
  obtain ⟨x3, e3, g⟩ := gInt_elim g
  exact g
theorem B5.ok (R : Rt) (fr : Fr) (h : Hp) (g : L3.g (fun a0 l0 c0 x3 h => ∃ n, L3.t R n a0 l0 c0 x3 h) fr h) : den prog E (cAt C [true, true, true, true, false]) (Ex.then (D2.g R) (retQ E [.tmp 2] R)) fr h :=
  den_block (by kernel_rfl) (L3.ok R fr h g)
theorem W6.ok (R : Rt) (fr : Fr) (h : Hp) (g : L3.g (fun a0 l0 c0 x3 h => ∃ n, L3.t R n a0 l0 c0 x3 h) fr h) : den prog E (cAt C [true, true, true, true]) (retQ E [.tmp 2] R) fr h :=
  den_then (by kernel_rfl) (D2.ok R) (B5.ok R fr h g)
def L7.g (N : Option Addr → Nat → Nat → Int → Hp → Prop) (fr : Fr) (h : Hp) : Prop := gSlice (fr 0) fun a0 l0 c0 => gInt .i64 (fr 3) fun x3 => N a0 l0 c0 x3 h
def D8.t (R : Rt) (N7 : Option Addr → Nat → Nat → Int → Hp → Prop) (a0 : Option Addr) (l0 : Nat) (c0 : Nat) (x3 : Int) (h : Hp) : Prop :=
  (32 : Int) ≠ 0 ∧ letK (IntKind.i64.wrap (Int.tdiv x3 32)) fun n5 =>
  cond (decide (n5 < (((l0 : Nat) : Int)))) ((32 : Int) ≠ 0 ∧ letK (IntKind.i64.wrap (Int.tdiv x3 32)) fun n6 =>
  idxK a0 l0 n6 1 fun q7 =>
  ldK h q7 fun v8 =>
  gInt .u32 v8 fun x_9 =>
  cond (x_9 == 0) (letK (IntKind.i64.wrap (x3 + 32)) fun n10 =>
  N7 a0 l0 c0 n10 h) ((∃ n, L3.t R n a0 l0 c0 x3 h))) ((∃ n, L3.t R n a0 l0 c0 x3 h))
def D8.g (R : Rt) (N7 : Option Addr → Nat → Nat → Int → Hp → Prop) (fr : Fr) (h : Hp) : Prop := gSlice (fr 0) fun a0 l0 c0 => gInt .i64 (fr 3) fun x3 => D8.t R N7 a0 l0 c0 x3 h
theorem D8.ok (R : Rt) (N7 : Option Addr → Nat → Nat → Int → Hp → Prop) (fr : Fr) (h : Hp) (g : D8.g R N7 fr h) : den prog E (cAt C [true, true, true, false, false, false]) (Ex.then (L7.g N7) (Ex.inBlock 0 (Ex.then (L3.g (fun a0 l0 c0 x3 h => ∃ n, L3.t R n a0 l0 c0 x3 h)) (retQ E [.tmp 2] R)))) fr h := by
  obtain ⟨a0, l0, c0, e0, g⟩ := gSlice_elim g
  obtain ⟨x3, e3, g⟩ := gInt_elim g
  exact den_enter [(0, .slice a0 l0 c0), (3, .int .i64 x3)] ⟨e0, e3, trivial⟩ (by kernel_rfl) g
def L7.t (R : Rt) : Nat → Option Addr → Nat → Nat → Int → Hp → Prop
  | 0 => fun _ _ _ _ _ => False
  | n + 1 => fun a0 l0 c0 x3 h => D8.t R (L7.t R n) a0 l0 c0 x3 h
theorem L7.ok (R : Rt) (fr : Fr) (h : Hp) (g : L7.g (fun a0 l0 c0 x3 h => ∃ n, L7.t R n a0 l0 c0 x3 h) fr h) : den prog E (cAt C [true, true, true, false, false]) (Ex.inBlock 0 (Ex.then (L3.g (fun a0 l0 c0 x3 h => ∃ n, L3.t R n a0 l0 c0 x3 h)) (retQ E [.tmp 2] R))) fr h := by
  obtain ⟨a0, l0, c0, e0, g⟩ := gSlice_elim g
  obtain ⟨x3, e3, g⟩ := gInt_elim g
  obtain ⟨n, g⟩ := g
  refine loop_ok (fun n => L7.g (L7.t R n)) (b := (cAt C [true, true, true, false, false, false])) (by kernel_rfl) (fun fr h g => ?_) (fun n => D8.ok R (L7.t R n)) n fr h (gSlice_intro e0 (gInt_intro e3 (g)))
  obtain ⟨a0, l0, c0, e0, g⟩ := gSlice_elim g
  obtain ⟨x3, e3, g⟩ := gInt_elim g
  exact g
theorem B9.ok (R : Rt) (fr : Fr) (h : Hp) (g : L7.g (fun a0 l0 c0 x3 h => ∃ n, L7.t R n a0 l0 c0 x3 h) fr h) : den prog E (cAt C [true, true, true, false]) (Ex.then (L3.g (fun a0 l0 c0 x3 h => ∃ n, L3.t R n a0 l0 c0 x3 h)) (retQ E [.tmp 2] R)) fr h :=
  den_block (by kernel_rfl) (L7.ok R fr h g)
theorem W10.ok (R : Rt) (fr : Fr) (h : Hp) (g : L7.g (fun a0 l0 c0 x3 h => ∃ n, L7.t R n a0 l0 c0 x3 h) fr h) : den prog E (cAt C [true, true, true]) (retQ E [.tmp 2] R) fr h :=
  den_then (by kernel_rfl) (W6.ok R) (B9.ok R fr h g)
def D1.t (R : Rt) (a0 : Option Addr) (l0 : Nat) (c0 : Nat) (h : Hp) : Prop :=
  cond ((((l0 : Nat) : Int)) == 0) (R (.int .i64 0) h) ((∃ n, L7.t R n a0 l0 c0 0 h))
def D1.g (R : Rt) (fr : Fr) (h : Hp) : Prop := gSlice (fr 0) fun a0 l0 c0 => D1.t R a0 l0 c0 h
theorem D1.ok (R : Rt) (fr : Fr) (h : Hp) (g : D1.g R fr h) : den prog E C (retQ E [.tmp 2] R) fr h := by
  obtain ⟨a0, l0, c0, e0, g⟩ := gSlice_elim g
  exact den_cut 3 (r := (cAt C [true, true, true])) (by kernel_rfl) (W10.ok R) (den_enter [(0, .slice a0 l0 c0)] ⟨e0, trivial⟩ (by kernel_rfl) g)
def t (a0 : Option Addr) (l0 : Nat) (c0 : Nat) (h : Hp) (R : Rt) : Prop := D1.t R a0 l0 c0 h
theorem ok {a0 : Option Addr} {l0 : Nat} {c0 : Nat} {h : Hp} {R : Rt} (g : t a0 l0 c0 h R) : HC id #[.slice a0 l0 c0] h R :=
  calls_of_den' envOk (c := C) (rs := [.tmp 2]) Tryd.func78 (by kernel_rfl) (by kernel_rfl) (by kernel_rfl) (args := [.slice a0 l0 c0]) (by kernel_rfl) (D1.ok R _ h (gSlice_intro rfl (g)))
end gnomonref01_Zeros

namespace gnomonref01_Bit
noncomputable def C : Code := bodyOf Tryd.f79
def D2.t (R : Rt) (a0 : Option Addr) (l0 : Nat) (c0 : Nat) (x1 : Int) (h : Hp) : Prop :=
  (32 : Int) ≠ 0 ∧ letK (IntKind.i64.wrap (Int.tdiv x1 32)) fun n2 =>
  idxK a0 l0 n2 1 fun q3 =>
  ldK h q3 fun v4 =>
  gInt .u32 v4 fun x_5 =>
  (32 : Int) ≠ 0 ∧ letK (Int.tmod x1 32) fun n6 =>
  0 ≤ n6 ∧ letK (shrI .u32 x_5 n6) fun n7 =>
  letK (andI .u32 n7 1) fun n8 =>
  letK (IntKind.i64.wrap n8) fun n9 =>
  R (.int .i64 n9) h
def D2.g (R : Rt) (fr : Fr) (h : Hp) : Prop := gSlice (fr 0) fun a0 l0 c0 => gInt .i64 (fr 1) fun x1 => D2.t R a0 l0 c0 x1 h
theorem D2.ok (R : Rt) (fr : Fr) (h : Hp) (g : D2.g R fr h) : den prog E (cAt C [true, true]) (retQ E [.tmp 4] R) fr h := by
  obtain ⟨a0, l0, c0, e0, g⟩ := gSlice_elim g
  obtain ⟨x1, e1, g⟩ := gInt_elim g
  exact den_enter [(0, .slice a0 l0 c0), (1, .int .i64 x1)] ⟨e0, e1, trivial⟩ (by kernel_rfl) g
def D1.t (R : Rt) (a0 : Option Addr) (l0 : Nat) (c0 : Nat) (x1 : Int) (h : Hp) : Prop :=
  cond (decide (x1 < 0)) (R (.int .i64 0) h) ((32 : Int) ≠ 0 ∧ letK (IntKind.i64.wrap (Int.tdiv x1 32)) fun n1 =>
  cond (decide (n1 ≥ (((l0 : Nat) : Int)))) (R (.int .i64 0) h) (D2.t R a0 l0 c0 x1 h))
def D1.g (R : Rt) (fr : Fr) (h : Hp) : Prop := gSlice (fr 0) fun a0 l0 c0 => gInt .i64 (fr 1) fun x1 => D1.t R a0 l0 c0 x1 h
theorem D1.ok (R : Rt) (fr : Fr) (h : Hp) (g : D1.g R fr h) : den prog E C (retQ E [.tmp 4] R) fr h := by
  obtain ⟨a0, l0, c0, e0, g⟩ := gSlice_elim g
  obtain ⟨x1, e1, g⟩ := gInt_elim g
  exact den_cut 2 (r := (cAt C [true, true])) (by kernel_rfl) (D2.ok R) (den_enter [(0, .slice a0 l0 c0), (1, .int .i64 x1)] ⟨e0, e1, trivial⟩ (by kernel_rfl) g)
def t (a0 : Option Addr) (l0 : Nat) (c0 : Nat) (x1 : Int) (h : Hp) (R : Rt) : Prop := D1.t R a0 l0 c0 x1 h
theorem ok {a0 : Option Addr} {l0 : Nat} {c0 : Nat} {x1 : Int} {h : Hp} {R : Rt} (g : t a0 l0 c0 x1 h R) : HC id #[.slice a0 l0 c0, .int .i64 x1] h R :=
  calls_of_den' envOk (c := C) (rs := [.tmp 4]) Tryd.func79 (by kernel_rfl) (by kernel_rfl) (by kernel_rfl) (args := [.slice a0 l0 c0, .int .i64 x1]) (by kernel_rfl) (D1.ok R _ h (gSlice_intro rfl (gInt_intro rfl (g))))
end gnomonref01_Bit

namespace gnomonref01_Norm
noncomputable def C : Code := bodyOf Tryd.f80
def D2.t (R : Rt) (a0 : Option Addr) (l0 : Nat) (c0 : Nat) (x3 : Int) (h : Hp) : Prop :=
  mkK h 87 T87 x3 x3 fun q1 h2 =>
  slK 1 a0 l0 c0 none (some (.int .i64 x3)) none fun a_3 l_3 c_3 =>
  cpK h2 1 (some q1) x3.toNat (.slice a_3 l_3 c_3) fun n4 h4 =>
  R (.slice (some q1) x3.toNat x3.toNat) h4
def D2.g (R : Rt) (fr : Fr) (h : Hp) : Prop := gSlice (fr 0) fun a0 l0 c0 => gInt .i64 (fr 3) fun x3 => D2.t R a0 l0 c0 x3 h
theorem D2.ok (R : Rt) (fr : Fr) (h : Hp) (g : D2.g R fr h) : den prog E (cAt C [true, true, true]) (retQ E [.tmp 2] R) fr h := by
  obtain ⟨a0, l0, c0, e0, g⟩ := gSlice_elim g
  obtain ⟨x3, e3, g⟩ := gInt_elim g
  exact den_enter [(0, .slice a0 l0 c0), (3, .int .i64 x3)] ⟨e0, e3, trivial⟩ (by kernel_rfl) g
def L3.g (N : Option Addr → Nat → Nat → Int → Hp → Prop) (fr : Fr) (h : Hp) : Prop := gSlice (fr 0) fun a0 l0 c0 => gInt .i64 (fr 3) fun x3 => N a0 l0 c0 x3 h
def D4.t (R : Rt) (N3 : Option Addr → Nat → Nat → Int → Hp → Prop) (a0 : Option Addr) (l0 : Nat) (c0 : Nat) (x3 : Int) (h : Hp) : Prop :=
  cond (decide (x3 > 0)) (letK (IntKind.i64.wrap (x3 - 1)) fun n5 =>
  idxK a0 l0 n5 1 fun q6 =>
  ldK h q6 fun v7 =>
  gInt .u32 v7 fun x_8 =>
  cond (x_8 == 0) (letK (IntKind.i64.wrap (x3 - 1)) fun n9 =>
  N3 a0 l0 c0 n9 h) (D2.t R a0 l0 c0 x3 h)) (D2.t R a0 l0 c0 x3 h)
def D4.g (R : Rt) (N3 : Option Addr → Nat → Nat → Int → Hp → Prop) (fr : Fr) (h : Hp) : Prop := gSlice (fr 0) fun a0 l0 c0 => gInt .i64 (fr 3) fun x3 => D4.t R N3 a0 l0 c0 x3 h
theorem D4.ok (R : Rt) (N3 : Option Addr → Nat → Nat → Int → Hp → Prop) (fr : Fr) (h : Hp) (g : D4.g R N3 fr h) : den prog E (cAt C [true, true, false, false, false]) (Ex.then (L3.g N3) (Ex.inBlock 0 (Ex.then (D2.g R) (retQ E [.tmp 2] R)))) fr h := by
  obtain ⟨a0, l0, c0, e0, g⟩ := gSlice_elim g
  obtain ⟨x3, e3, g⟩ := gInt_elim g
  exact den_enter [(0, .slice a0 l0 c0), (3, .int .i64 x3)] ⟨e0, e3, trivial⟩ (by kernel_rfl) g
def L3.t (R : Rt) : Nat → Option Addr → Nat → Nat → Int → Hp → Prop
  | 0 => fun _ _ _ _ _ => False
  | n + 1 => fun a0 l0 c0 x3 h => D4.t R (L3.t R n) a0 l0 c0 x3 h
theorem L3.ok (R : Rt) (fr : Fr) (h : Hp) (g : L3.g (fun a0 l0 c0 x3 h => ∃ n, L3.t R n a0 l0 c0 x3 h) fr h) : den prog E (cAt C [true, true, false, false]) (Ex.inBlock 0 (Ex.then (D2.g R) (retQ E [.tmp 2] R))) fr h := by
  obtain ⟨a0, l0, c0, e0, g⟩ := gSlice_elim g
  obtain ⟨x3, e3, g⟩ := gInt_elim g
  obtain ⟨n, g⟩ := g
  refine loop_ok (fun n => L3.g (L3.t R n)) (b := (cAt C [true, true, false, false, false])) (by kernel_rfl) (fun fr h g => ?_) (fun n => D4.ok R (L3.t R n)) n fr h (gSlice_intro e0 (gInt_intro e3 (g)))
  obtain ⟨a0, l0, c0, e0, g⟩ := gSlice_elim g
  obtain ⟨x3, e3, g⟩ := gInt_elim g
  exact g
theorem B5.ok (R : Rt) (fr : Fr) (h : Hp) (g : L3.g (fun a0 l0 c0 x3 h => ∃ n, L3.t R n a0 l0 c0 x3 h) fr h) : den prog E (cAt C [true, true, false]) (Ex.then (D2.g R) (retQ E [.tmp 2] R)) fr h :=
  den_block (by kernel_rfl) (L3.ok R fr h g)
theorem W6.ok (R : Rt) (fr : Fr) (h : Hp) (g : L3.g (fun a0 l0 c0 x3 h => ∃ n, L3.t R n a0 l0 c0 x3 h) fr h) : den prog E (cAt C [true, true]) (retQ E [.tmp 2] R) fr h :=
  den_then (by kernel_rfl) (D2.ok R) (B5.ok R fr h g)
def D1.t (R : Rt) (a0 : Option Addr) (l0 : Nat) (c0 : Nat) (h : Hp) : Prop :=
  (∃ n, L3.t R n a0 l0 c0 (((l0 : Nat) : Int)) h)
def D1.g (R : Rt) (fr : Fr) (h : Hp) : Prop := gSlice (fr 0) fun a0 l0 c0 => D1.t R a0 l0 c0 h
theorem D1.ok (R : Rt) (fr : Fr) (h : Hp) (g : D1.g R fr h) : den prog E C (retQ E [.tmp 2] R) fr h := by
  obtain ⟨a0, l0, c0, e0, g⟩ := gSlice_elim g
  exact den_cut 2 (r := (cAt C [true, true])) (by kernel_rfl) (W6.ok R) (den_enter [(0, .slice a0 l0 c0)] ⟨e0, trivial⟩ (by kernel_rfl) g)
def t (a0 : Option Addr) (l0 : Nat) (c0 : Nat) (h : Hp) (R : Rt) : Prop := D1.t R a0 l0 c0 h
theorem ok {a0 : Option Addr} {l0 : Nat} {c0 : Nat} {h : Hp} {R : Rt} (g : t a0 l0 c0 h R) : HC id #[.slice a0 l0 c0] h R :=
  calls_of_den' envOk (c := C) (rs := [.tmp 2]) Tryd.func80 (by kernel_rfl) (by kernel_rfl) (by kernel_rfl) (args := [.slice a0 l0 c0]) (by kernel_rfl) (D1.ok R _ h (gSlice_intro rfl (g)))
end gnomonref01_Norm

namespace gnomonref01_MulSmall
noncomputable def C : Code := bodyOf Tryd.f81
def D2.t (R : Rt) (a7 : Option Addr) (l7 : Nat) (c7 : Nat) (x8 : Int) (h : Hp) : Prop :=
  letK (IntKind.u32.wrap x8) fun n5 =>
  boxK h 87 [.int .u32 n5] fun q6 h7 =>
  apK h7 87 T87 a7 l7 c7 (.slice (some q6) 1 1) fun a_8 l_8 c_8 h8 =>
  HC gnomonref01_Norm.id #[.slice a_8 l_8 c_8] h8 fun v9 h10 =>
  gSlice v9 fun a_11 l_11 c_11 =>
  R (.slice a_11 l_11 c_11) h10
def D2.g (R : Rt) (fr : Fr) (h : Hp) : Prop := gSlice (fr 7) fun a7 l7 c7 => gInt .u64 (fr 8) fun x8 => D2.t R a7 l7 c7 x8 h
theorem D2.ok (R : Rt) (fr : Fr) (h : Hp) (g : D2.g R fr h) : den prog E (cAt C [true, true, true, true]) (retQ E [.tmp 6] R) fr h := by
  obtain ⟨a7, l7, c7, e7, g⟩ := gSlice_elim g
  obtain ⟨x8, e8, g⟩ := gInt_elim g
  exact den_enter [(7, .slice a7 l7 c7), (8, .int .u64 x8)] ⟨e7, e8, trivial⟩ (by kernel_rfl) g
def L4.g (N : Option Addr → Nat → Nat → Int → Option Addr → Nat → Nat → Int → Int → Hp → Prop) (fr : Fr) (h : Hp) : Prop := gSlice (fr 0) fun a0 l0 c0 => gInt .u32 (fr 1) fun x1 => gSlice (fr 7) fun a7 l7 c7 => gInt .u64 (fr 8) fun x8 => gInt .i64 (fr 9) fun x9 => N a0 l0 c0 x1 a7 l7 c7 x8 x9 h
def D5.t (R : Rt) (N4 : Option Addr → Nat → Nat → Int → Option Addr → Nat → Nat → Int → Int → Hp → Prop) (a0 : Option Addr) (l0 : Nat) (c0 : Nat) (x1 : Int) (a7 : Option Addr) (l7 : Nat) (c7 : Nat) (x8 : Int) (x9 : Int) (h : Hp) : Prop :=
  cond (decide (x9 < (((l0 : Nat) : Int)))) (idxK a0 l0 x9 1 fun q12 =>
  ldK h q12 fun v13 =>
  gInt .u32 v13 fun x_14 =>
  letK (IntKind.u64.wrap x_14) fun n15 =>
  letK (IntKind.u64.wrap x1) fun n16 =>
  letK (IntKind.u64.wrap (n15 * n16)) fun n17 =>
  letK (IntKind.u64.wrap (x8 + n17)) fun n18 =>
  letK (andI .u64 n18 4294967295) fun n19 =>
  letK (IntKind.u32.wrap n19) fun n20 =>
  boxK h 87 [.int .u32 n20] fun q21 h22 =>
  apK h22 87 T87 a7 l7 c7 (.slice (some q21) 1 1) fun a_23 l_23 c_23 h23 =>
  0 ≤ (32 : Int) ∧ letK (shrI .u64 n18 32) fun n24 =>
  letK (IntKind.i64.wrap (x9 + 1)) fun n25 =>
  N4 a0 l0 c0 x1 a_23 l_23 c_23 n24 n25 h23) (D2.t R a7 l7 c7 x8 h)
def D5.g (R : Rt) (N4 : Option Addr → Nat → Nat → Int → Option Addr → Nat → Nat → Int → Int → Hp → Prop) (fr : Fr) (h : Hp) : Prop := gSlice (fr 0) fun a0 l0 c0 => gInt .u32 (fr 1) fun x1 => gSlice (fr 7) fun a7 l7 c7 => gInt .u64 (fr 8) fun x8 => gInt .i64 (fr 9) fun x9 => D5.t R N4 a0 l0 c0 x1 a7 l7 c7 x8 x9 h
theorem D5.ok (R : Rt) (N4 : Option Addr → Nat → Nat → Int → Option Addr → Nat → Nat → Int → Int → Hp → Prop) (fr : Fr) (h : Hp) (g : D5.g R N4 fr h) : den prog E (cAt C [true, true, true, false, true, false, false]) (Ex.then (L4.g N4) (Ex.inBlock 0 (Ex.then (D2.g R) (retQ E [.tmp 6] R)))) fr h := by
  obtain ⟨a0, l0, c0, e0, g⟩ := gSlice_elim g
  obtain ⟨x1, e1, g⟩ := gInt_elim g
  obtain ⟨a7, l7, c7, e7, g⟩ := gSlice_elim g
  obtain ⟨x8, e8, g⟩ := gInt_elim g
  obtain ⟨x9, e9, g⟩ := gInt_elim g
  exact den_enter [(0, .slice a0 l0 c0), (1, .int .u32 x1), (7, .slice a7 l7 c7), (8, .int .u64 x8), (9, .int .i64 x9)] ⟨e0, e1, e7, e8, e9, trivial⟩ (by kernel_rfl) g
def L4.t (R : Rt) : Nat → Option Addr → Nat → Nat → Int → Option Addr → Nat → Nat → Int → Int → Hp → Prop
  | 0 => fun _ _ _ _ _ _ _ _ _ _ => False
  | n + 1 => fun a0 l0 c0 x1 a7 l7 c7 x8 x9 h => D5.t R (L4.t R n) a0 l0 c0 x1 a7 l7 c7 x8 x9 h
theorem L4.ok (R : Rt) (fr : Fr) (h : Hp) (g : L4.g (fun a0 l0 c0 x1 a7 l7 c7 x8 x9 h => ∃ n, L4.t R n a0 l0 c0 x1 a7 l7 c7 x8 x9 h) fr h) : den prog E (cAt C [true, true, true, false, true, false]) (Ex.inBlock 0 (Ex.then (D2.g R) (retQ E [.tmp 6] R))) fr h := by
  obtain ⟨a0, l0, c0, e0, g⟩ := gSlice_elim g
  obtain ⟨x1, e1, g⟩ := gInt_elim g
  obtain ⟨a7, l7, c7, e7, g⟩ := gSlice_elim g
  obtain ⟨x8, e8, g⟩ := gInt_elim g
  obtain ⟨x9, e9, g⟩ := gInt_elim g
  obtain ⟨n, g⟩ := g
  refine loop_ok (fun n => L4.g (L4.t R n)) (b := (cAt C [true, true, true, false, true, false, false])) (by kernel_rfl) (fun fr h g => ?_) (fun n => D5.ok R (L4.t R n)) n fr h (gSlice_intro e0 (gInt_intro e1 (gSlice_intro e7 (gInt_intro e8 (gInt_intro e9 (g))))))
  obtain ⟨a0, l0, c0, e0, g⟩ := gSlice_elim g
  obtain ⟨x1, e1, g⟩ := gInt_elim g
  obtain ⟨a7, l7, c7, e7, g⟩ := gSlice_elim g
  obtain ⟨x8, e8, g⟩ := gInt_elim g
  obtain ⟨x9, e9, g⟩ := gInt_elim g
  exact g
theorem B6.ok (R : Rt) (fr : Fr) (h : Hp) (g : L4.g (fun a0 l0 c0 x1 a7 l7 c7 x8 x9 h => ∃ n, L4.t R n a0 l0 c0 x1 a7 l7 c7 x8 x9 h) fr h) : den prog E (cAt C [true, true, true, false, true]) (Ex.then (D2.g R) (retQ E [.tmp 6] R)) fr h :=
  den_block (by kernel_rfl) (L4.ok R fr h g)
def D3.t (R : Rt) (a0 : Option Addr) (l0 : Nat) (c0 : Nat) (x1 : Int) (a7 : Option Addr) (l7 : Nat) (c7 : Nat) (x8 : Int) (h : Hp) : Prop :=
  (∃ n, L4.t R n a0 l0 c0 x1 a7 l7 c7 x8 0 h)
def D3.g (R : Rt) (fr : Fr) (h : Hp) : Prop := gSlice (fr 0) fun a0 l0 c0 => gInt .u32 (fr 1) fun x1 => gSlice (fr 7) fun a7 l7 c7 => gInt .u64 (fr 8) fun x8 => D3.t R a0 l0 c0 x1 a7 l7 c7 x8 h
theorem D3.ok (R : Rt) (fr : Fr) (h : Hp) (g : D3.g R fr h) : den prog E (cAt C [true, true, true, false]) (Ex.then (D2.g R) (retQ E [.tmp 6] R)) fr h := by
  obtain ⟨a0, l0, c0, e0, g⟩ := gSlice_elim g
  obtain ⟨x1, e1, g⟩ := gInt_elim g
  obtain ⟨a7, l7, c7, e7, g⟩ := gSlice_elim g
  obtain ⟨x8, e8, g⟩ := gInt_elim g
  exact den_cut 1 (r := (cAt C [true, true, true, false, true])) (by kernel_rfl) (B6.ok R) (den_enter [(0, .slice a0 l0 c0), (1, .int .u32 x1), (7, .slice a7 l7 c7), (8, .int .u64 x8)] ⟨e0, e1, e7, e8, trivial⟩ (by kernel_rfl) g)
theorem W7.ok (R : Rt) (fr : Fr) (h : Hp) (g : D3.g R fr h) : den prog E (cAt C [true, true, true]) (retQ E [.tmp 6] R) fr h :=
  den_then (by kernel_rfl) (D2.ok R) (D3.ok R fr h g)
def D1.t (R : Rt) (a0 : Option Addr) (l0 : Nat) (c0 : Nat) (x1 : Int) (x2 : Int) (h : Hp) : Prop :=
  letK (IntKind.i64.wrap ((((l0 : Nat) : Int)) + 1)) fun n1 =>
  mkK h 87 T87 0 n1 fun q2 h3 =>
  letK (IntKind.u64.wrap x2) fun n4 =>
  D3.t R a0 l0 c0 x1 (some q2) ((0 : Int).toNat) n1.toNat n4 h3
def D1.g (R : Rt) (fr : Fr) (h : Hp) : Prop := gSlice (fr 0) fun a0 l0 c0 => gInt .u32 (fr 1) fun x1 => gInt .u32 (fr 2) fun x2 => D1.t R a0 l0 c0 x1 x2 h
theorem D1.ok (R : Rt) (fr : Fr) (h : Hp) (g : D1.g R fr h) : den prog E C (retQ E [.tmp 6] R) fr h := by
  obtain ⟨a0, l0, c0, e0, g⟩ := gSlice_elim g
  obtain ⟨x1, e1, g⟩ := gInt_elim g
  obtain ⟨x2, e2, g⟩ := gInt_elim g
  exact den_cut 3 (r := (cAt C [true, true, true])) (by kernel_rfl) (W7.ok R) (den_enter [(0, .slice a0 l0 c0), (1, .int .u32 x1), (2, .int .u32 x2)] ⟨e0, e1, e2, trivial⟩ (by kernel_rfl) g)
def t (a0 : Option Addr) (l0 : Nat) (c0 : Nat) (x1 : Int) (x2 : Int) (h : Hp) (R : Rt) : Prop := D1.t R a0 l0 c0 x1 x2 h
theorem ok {a0 : Option Addr} {l0 : Nat} {c0 : Nat} {x1 : Int} {x2 : Int} {h : Hp} {R : Rt} (g : t a0 l0 c0 x1 x2 h R) : HC id #[.slice a0 l0 c0, .int .u32 x1, .int .u32 x2] h R :=
  calls_of_den' envOk (c := C) (rs := [.tmp 6]) Tryd.func81 (by kernel_rfl) (by kernel_rfl) (by kernel_rfl) (args := [.slice a0 l0 c0, .int .u32 x1, .int .u32 x2]) (by kernel_rfl) (D1.ok R _ h (gSlice_intro rfl (gInt_intro rfl (gInt_intro rfl (g)))))
end gnomonref01_MulSmall

namespace gnomonref01_DivSmall
noncomputable def C : Code := bodyOf Tryd.f82
def D2.t (R : Rt) (a6 : Option Addr) (l6 : Nat) (c6 : Nat) (x7 : Int) (h : Hp) : Prop :=
  HC gnomonref01_Norm.id #[.slice a6 l6 c6] h fun v6 h7 =>
  gSlice v6 fun a_8 l_8 c_8 =>
  letK (IntKind.u32.wrap x7) fun n9 =>
  R (.tuple #[.slice a_8 l_8 c_8, .int .u32 n9]) h7
def D2.g (R : Rt) (fr : Fr) (h : Hp) : Prop := gSlice (fr 6) fun a6 l6 c6 => gInt .u64 (fr 7) fun x7 => D2.t R a6 l6 c6 x7 h
theorem D2.ok (R : Rt) (fr : Fr) (h : Hp) (g : D2.g R fr h) : den prog E (cAt C [true, true, true, true, true]) (retQ E [.tmp 4, .tmp 5] R) fr h := by
  obtain ⟨a6, l6, c6, e6, g⟩ := gSlice_elim g
  obtain ⟨x7, e7, g⟩ := gInt_elim g
  exact den_enter [(6, .slice a6 l6 c6), (7, .int .u64 x7)] ⟨e6, e7, trivial⟩ (by kernel_rfl) g
def L4.g (N : Option Addr → Nat → Nat → Int → Option Addr → Nat → Nat → Int → Int → Hp → Prop) (fr : Fr) (h : Hp) : Prop := gSlice (fr 0) fun a0 l0 c0 => gInt .u32 (fr 1) fun x1 => gSlice (fr 6) fun a6 l6 c6 => gInt .u64 (fr 7) fun x7 => gInt .i64 (fr 8) fun x8 => N a0 l0 c0 x1 a6 l6 c6 x7 x8 h
def D5.t (R : Rt) (N4 : Option Addr → Nat → Nat → Int → Option Addr → Nat → Nat → Int → Int → Hp → Prop) (a0 : Option Addr) (l0 : Nat) (c0 : Nat) (x1 : Int) (a6 : Option Addr) (l6 : Nat) (c6 : Nat) (x7 : Int) (x8 : Int) (h : Hp) : Prop :=
  cond (decide (x8 ≥ 0)) (0 ≤ (32 : Int) ∧ letK (shlI .u64 x7 32) fun n11 =>
  idxK a0 l0 x8 1 fun q12 =>
  ldK h q12 fun v13 =>
  gInt .u32 v13 fun x_14 =>
  letK (IntKind.u64.wrap x_14) fun n15 =>
  letK (IntKind.u64.wrap (n11 + n15)) fun n16 =>
  letK (IntKind.u64.wrap x1) fun n17 =>
  n17 ≠ 0 ∧ letK (IntKind.u64.wrap (Int.tdiv n16 n17)) fun n18 =>
  letK (IntKind.u32.wrap n18) fun n19 =>
  idxK a6 l6 x8 1 fun q20 =>
  stK h q20 (.int .u32 n19) fun h21 =>
  letK (IntKind.u64.wrap x1) fun n22 =>
  n22 ≠ 0 ∧ letK (Int.tmod n16 n22) fun n23 =>
  letK (IntKind.i64.wrap (x8 - 1)) fun n24 =>
  N4 a0 l0 c0 x1 a6 l6 c6 n23 n24 h21) (D2.t R a6 l6 c6 x7 h)
def D5.g (R : Rt) (N4 : Option Addr → Nat → Nat → Int → Option Addr → Nat → Nat → Int → Int → Hp → Prop) (fr : Fr) (h : Hp) : Prop := gSlice (fr 0) fun a0 l0 c0 => gInt .u32 (fr 1) fun x1 => gSlice (fr 6) fun a6 l6 c6 => gInt .u64 (fr 7) fun x7 => gInt .i64 (fr 8) fun x8 => D5.t R N4 a0 l0 c0 x1 a6 l6 c6 x7 x8 h
theorem D5.ok (R : Rt) (N4 : Option Addr → Nat → Nat → Int → Option Addr → Nat → Nat → Int → Int → Hp → Prop) (fr : Fr) (h : Hp) (g : D5.g R N4 fr h) : den prog E (cAt C [true, true, true, true, false, true, false, false]) (Ex.then (L4.g N4) (Ex.inBlock 0 (Ex.then (D2.g R) (retQ E [.tmp 4, .tmp 5] R)))) fr h := by
  obtain ⟨a0, l0, c0, e0, g⟩ := gSlice_elim g
  obtain ⟨x1, e1, g⟩ := gInt_elim g
  obtain ⟨a6, l6, c6, e6, g⟩ := gSlice_elim g
  obtain ⟨x7, e7, g⟩ := gInt_elim g
  obtain ⟨x8, e8, g⟩ := gInt_elim g
  exact den_enter [(0, .slice a0 l0 c0), (1, .int .u32 x1), (6, .slice a6 l6 c6), (7, .int .u64 x7), (8, .int .i64 x8)] ⟨e0, e1, e6, e7, e8, trivial⟩ (by kernel_rfl) g
def L4.t (R : Rt) : Nat → Option Addr → Nat → Nat → Int → Option Addr → Nat → Nat → Int → Int → Hp → Prop
  | 0 => fun _ _ _ _ _ _ _ _ _ _ => False
  | n + 1 => fun a0 l0 c0 x1 a6 l6 c6 x7 x8 h => D5.t R (L4.t R n) a0 l0 c0 x1 a6 l6 c6 x7 x8 h
theorem L4.ok (R : Rt) (fr : Fr) (h : Hp) (g : L4.g (fun a0 l0 c0 x1 a6 l6 c6 x7 x8 h => ∃ n, L4.t R n a0 l0 c0 x1 a6 l6 c6 x7 x8 h) fr h) : den prog E (cAt C [true, true, true, true, false, true, false]) (Ex.inBlock 0 (Ex.then (D2.g R) (retQ E [.tmp 4, .tmp 5] R))) fr h := by
  obtain ⟨a0, l0, c0, e0, g⟩ := gSlice_elim g
  obtain ⟨x1, e1, g⟩ := gInt_elim g
  obtain ⟨a6, l6, c6, e6, g⟩ := gSlice_elim g
  obtain ⟨x7, e7, g⟩ := gInt_elim g
  obtain ⟨x8, e8, g⟩ := gInt_elim g
  obtain ⟨n, g⟩ := g
  refine loop_ok (fun n => L4.g (L4.t R n)) (b := (cAt C [true, true, true, true, false, true, false, false])) (by kernel_rfl) (fun fr h g => ?_) (fun n => D5.ok R (L4.t R n)) n fr h (gSlice_intro e0 (gInt_intro e1 (gSlice_intro e6 (gInt_intro e7 (gInt_intro e8 (g))))))
  obtain ⟨a0, l0, c0, e0, g⟩ := gSlice_elim g
  obtain ⟨x1, e1, g⟩ := gInt_elim g
  obtain ⟨a6, l6, c6, e6, g⟩ := gSlice_elim g
  obtain ⟨x7, e7, g⟩ := gInt_elim g
  obtain ⟨x8, e8, g⟩ := gInt_elim g
  exact g
theorem B6.ok (R : Rt) (fr : Fr) (h : Hp) (g : L4.g (fun a0 l0 c0 x1 a6 l6 c6 x7 x8 h => ∃ n, L4.t R n a0 l0 c0 x1 a6 l6 c6 x7 x8 h) fr h) : den prog E (cAt C [true, true, true, true, false, true]) (Ex.then (D2.g R) (retQ E [.tmp 4, .tmp 5] R)) fr h :=
  den_block (by kernel_rfl) (L4.ok R fr h g)
def D3.t (R : Rt) (a0 : Option Addr) (l0 : Nat) (c0 : Nat) (x1 : Int) (a6 : Option Addr) (l6 : Nat) (c6 : Nat) (x7 : Int) (h : Hp) : Prop :=
  letK (IntKind.i64.wrap ((((l0 : Nat) : Int)) - 1)) fun n10 => (∃ n, L4.t R n a0 l0 c0 x1 a6 l6 c6 x7 n10 h)
def D3.g (R : Rt) (fr : Fr) (h : Hp) : Prop := gSlice (fr 0) fun a0 l0 c0 => gInt .u32 (fr 1) fun x1 => gSlice (fr 6) fun a6 l6 c6 => gInt .u64 (fr 7) fun x7 => D3.t R a0 l0 c0 x1 a6 l6 c6 x7 h
theorem D3.ok (R : Rt) (fr : Fr) (h : Hp) (g : D3.g R fr h) : den prog E (cAt C [true, true, true, true, false]) (Ex.then (D2.g R) (retQ E [.tmp 4, .tmp 5] R)) fr h := by
  obtain ⟨a0, l0, c0, e0, g⟩ := gSlice_elim g
  obtain ⟨x1, e1, g⟩ := gInt_elim g
  obtain ⟨a6, l6, c6, e6, g⟩ := gSlice_elim g
  obtain ⟨x7, e7, g⟩ := gInt_elim g
  exact den_cut 1 (r := (cAt C [true, true, true, true, false, true])) (by kernel_rfl) (B6.ok R) (den_enter [(0, .slice a0 l0 c0), (1, .int .u32 x1), (6, .slice a6 l6 c6), (7, .int .u64 x7)] ⟨e0, e1, e6, e7, trivial⟩ (by kernel_rfl) g)
theorem W7.ok (R : Rt) (fr : Fr) (h : Hp) (g : D3.g R fr h) : den prog E (cAt C [true, true, true, true]) (retQ E [.tmp 4, .tmp 5] R) fr h :=
  den_then (by kernel_rfl) (D2.ok R) (D3.ok R fr h g)
def D1.t (R : Rt) (a0 : Option Addr) (l0 : Nat) (c0 : Nat) (x1 : Int) (h : Hp) : Prop :=
  cond (x1 == 0) (HC gnomonref01_Word.id #[.int .u64 0] h fun v1 h2 =>
  gSlice v1 fun a_3 l_3 c_3 =>
  R (.tuple #[.slice a_3 l_3 c_3, .int .u32 0]) h2) (mkK h 87 T87 (((l0 : Nat) : Int)) (((l0 : Nat) : Int)) fun q4 h5 =>
  D3.t R a0 l0 c0 x1 (some q4) ((((l0 : Nat) : Int)).toNat) ((((l0 : Nat) : Int)).toNat) 0 h5)
def D1.g (R : Rt) (fr : Fr) (h : Hp) : Prop := gSlice (fr 0) fun a0 l0 c0 => gInt .u32 (fr 1) fun x1 => D1.t R a0 l0 c0 x1 h
theorem D1.ok (R : Rt) (fr : Fr) (h : Hp) (g : D1.g R fr h) : den prog E C (retQ E [.tmp 4, .tmp 5] R) fr h := by
  obtain ⟨a0, l0, c0, e0, g⟩ := gSlice_elim g
  obtain ⟨x1, e1, g⟩ := gInt_elim g
  exact den_cut 4 (r := (cAt C [true, true, true, true])) (by kernel_rfl) (W7.ok R) (den_enter [(0, .slice a0 l0 c0), (1, .int .u32 x1)] ⟨e0, e1, trivial⟩ (by kernel_rfl) g)
def t (a0 : Option Addr) (l0 : Nat) (c0 : Nat) (x1 : Int) (h : Hp) (R : Rt) : Prop := D1.t R a0 l0 c0 x1 h
theorem ok {a0 : Option Addr} {l0 : Nat} {c0 : Nat} {x1 : Int} {h : Hp} {R : Rt} (g : t a0 l0 c0 x1 h R) : HC id #[.slice a0 l0 c0, .int .u32 x1] h R :=
  calls_of_den' envOk (c := C) (rs := [.tmp 4, .tmp 5]) Tryd.func82 (by kernel_rfl) (by kernel_rfl) (by kernel_rfl) (args := [.slice a0 l0 c0, .int .u32 x1]) (by kernel_rfl) (D1.ok R _ h (gSlice_intro rfl (gInt_intro rfl (g))))
end gnomonref01_DivSmall

namespace gnomonref01_digit
noncomputable def C : Code := bodyOf Tryd.f83
def D2.t (R : Rt) (x7 : Int) (h : Hp) : Prop :=
  letK (IntKind.u32.wrap x7) fun n18 => R (.int .u32 n18) h
def D2.g (R : Rt) (fr : Fr) (h : Hp) : Prop := gInt .u64 (fr 7) fun x7 => D2.t R x7 h
theorem D2.ok (R : Rt) (fr : Fr) (h : Hp) (g : D2.g R fr h) : den prog E (cAt C [true, true, true, true, true, true, true]) (retQ E [.tmp 4] R) fr h := by
  obtain ⟨x7, e7, g⟩ := gInt_elim g
  exact den_enter [(7, .int .u64 x7)] ⟨e7, trivial⟩ (by kernel_rfl) g
def L3.g (N : Option Addr → Nat → Nat → Option Addr → Nat → Nat → Int → Int → Int → Hp → Prop) (fr : Fr) (h : Hp) : Prop := gSlice (fr 0) fun a0 l0 c0 => gSlice (fr 1) fun a1 l1 c1 => gInt .i64 (fr 5) fun x5 => gInt .u64 (fr 7) fun x7 => gInt .u64 (fr 9) fun x9 => N a0 l0 c0 a1 l1 c1 x5 x7 x9 h
def D6.t (R : Rt) (N3 : Option Addr → Nat → Nat → Option Addr → Nat → Nat → Int → Int → Int → Hp → Prop) (a0 : Option Addr) (l0 : Nat) (c0 : Nat) (a1 : Option Addr) (l1 : Nat) (c1 : Nat) (x5 : Int) (x7 : Int) (x8 : Int) (x9 : Int) (h : Hp) : Prop :=
  letK (IntKind.u64.wrap (x9 - (if x8 < x9 then x8 else x9))) fun n20 => N3 a0 l0 c0 a1 l1 c1 x5 x7 n20 h
def D6.g (R : Rt) (N3 : Option Addr → Nat → Nat → Option Addr → Nat → Nat → Int → Int → Int → Hp → Prop) (fr : Fr) (h : Hp) : Prop := gSlice (fr 0) fun a0 l0 c0 => gSlice (fr 1) fun a1 l1 c1 => gInt .i64 (fr 5) fun x5 => gInt .u64 (fr 7) fun x7 => gInt .u64 (fr 8) fun x8 => gInt .u64 (fr 9) fun x9 => D6.t R N3 a0 l0 c0 a1 l1 c1 x5 x7 x8 x9 h
theorem D6.ok (R : Rt) (N3 : Option Addr → Nat → Nat → Option Addr → Nat → Nat → Int → Int → Int → Hp → Prop) (fr : Fr) (h : Hp) (g : D6.g R N3 fr h) : den prog E (cAt C [true, true, true, true, true, true, false, false, false, true, false, true, true, true]) (Ex.inBlock 3 (Ex.then (L3.g N3) (Ex.inBlock 2 (Ex.then (D2.g R) (retQ E [.tmp 4] R))))) fr h := by
  obtain ⟨a0, l0, c0, e0, g⟩ := gSlice_elim g
  obtain ⟨a1, l1, c1, e1, g⟩ := gSlice_elim g
  obtain ⟨x5, e5, g⟩ := gInt_elim g
  obtain ⟨x7, e7, g⟩ := gInt_elim g
  obtain ⟨x8, e8, g⟩ := gInt_elim g
  obtain ⟨x9, e9, g⟩ := gInt_elim g
  exact den_enter [(0, .slice a0 l0 c0), (1, .slice a1 l1 c1), (5, .int .i64 x5), (7, .int .u64 x7), (8, .int .u64 x8), (9, .int .u64 x9)] ⟨e0, e1, e5, e7, e8, e9, trivial⟩ (by kernel_rfl) g
def L8.g (N : Option Addr → Nat → Nat → Option Addr → Nat → Nat → Int → Int → Int → Int → Int → Hp → Prop) (fr : Fr) (h : Hp) : Prop := gSlice (fr 0) fun a0 l0 c0 => gSlice (fr 1) fun a1 l1 c1 => gInt .i64 (fr 5) fun x5 => gInt .u64 (fr 7) fun x7 => gInt .u64 (fr 8) fun x8 => gInt .u64 (fr 9) fun x9 => gInt .i64 (fr 13) fun x13 => N a0 l0 c0 a1 l1 c1 x5 x7 x8 x9 x13 h
def D9.t (R : Rt) (N3 : Option Addr → Nat → Nat → Option Addr → Nat → Nat → Int → Int → Int → Hp → Prop) (N8 : Option Addr → Nat → Nat → Option Addr → Nat → Nat → Int → Int → Int → Int → Int → Hp → Prop) (a0 : Option Addr) (l0 : Nat) (c0 : Nat) (a1 : Option Addr) (l1 : Nat) (c1 : Nat) (x5 : Int) (x7 : Int) (x8 : Int) (x9 : Int) (x13 : Int) (h : Hp) : Prop :=
  cond (decide (x13 ≤ x5)) (idxK a0 l0 x13 1 fun q21 =>
  ldK h q21 fun v22 =>
  gInt .u32 v22 fun x_23 =>
  letK (IntKind.u64.wrap x_23) fun n24 =>
  letK (IntKind.u64.wrap (x8 + n24)) fun n25 =>
  cond (decide (x13 < x5)) (idxK a1 l1 x13 1 fun q26 =>
  ldK h q26 fun v27 =>
  gInt .u32 v27 fun x_28 =>
  letK (IntKind.u64.wrap x_28) fun n29 =>
  letK (IntKind.u64.wrap (n25 + n29)) fun n30 =>
  letK (andI .u64 n30 4294967295) fun n31 =>
  letK (IntKind.u32.wrap n31) fun n32 =>
  idxK a0 l0 x13 1 fun q33 =>
  stK h q33 (.int .u32 n32) fun h34 =>
  0 ≤ (32 : Int) ∧ letK (shrI .u64 n30 32) fun n35 =>
  letK (IntKind.i64.wrap (x13 + 1)) fun n36 =>
  N8 a0 l0 c0 a1 l1 c1 x5 x7 n35 x9 n36 h34) (letK (andI .u64 n25 4294967295) fun n37 =>
  letK (IntKind.u32.wrap n37) fun n38 =>
  idxK a0 l0 x13 1 fun q39 =>
  stK h q39 (.int .u32 n38) fun h40 =>
  0 ≤ (32 : Int) ∧ letK (shrI .u64 n25 32) fun n41 =>
  letK (IntKind.i64.wrap (x13 + 1)) fun n42 =>
  N8 a0 l0 c0 a1 l1 c1 x5 x7 n41 x9 n42 h40)) (D6.t R N3 a0 l0 c0 a1 l1 c1 x5 x7 x8 x9 h)
def D9.g (R : Rt) (N3 : Option Addr → Nat → Nat → Option Addr → Nat → Nat → Int → Int → Int → Hp → Prop) (N8 : Option Addr → Nat → Nat → Option Addr → Nat → Nat → Int → Int → Int → Int → Int → Hp → Prop) (fr : Fr) (h : Hp) : Prop := gSlice (fr 0) fun a0 l0 c0 => gSlice (fr 1) fun a1 l1 c1 => gInt .i64 (fr 5) fun x5 => gInt .u64 (fr 7) fun x7 => gInt .u64 (fr 8) fun x8 => gInt .u64 (fr 9) fun x9 => gInt .i64 (fr 13) fun x13 => D9.t R N3 N8 a0 l0 c0 a1 l1 c1 x5 x7 x8 x9 x13 h
theorem D9.ok (R : Rt) (N3 : Option Addr → Nat → Nat → Option Addr → Nat → Nat → Int → Int → Int → Hp → Prop) (N8 : Option Addr → Nat → Nat → Option Addr → Nat → Nat → Int → Int → Int → Int → Int → Hp → Prop) (fr : Fr) (h : Hp) (g : D9.g R N3 N8 fr h) : den prog E (cAt C [true, true, true, true, true, true, false, false, false, true, false, true, true, false, true, false, false]) (Ex.then (L8.g N8) (Ex.inBlock 4 (Ex.then (D6.g R N3) (Ex.inBlock 3 (Ex.then (L3.g N3) (Ex.inBlock 2 (Ex.then (D2.g R) (retQ E [.tmp 4] R)))))))) fr h := by
  obtain ⟨a0, l0, c0, e0, g⟩ := gSlice_elim g
  obtain ⟨a1, l1, c1, e1, g⟩ := gSlice_elim g
  obtain ⟨x5, e5, g⟩ := gInt_elim g
  obtain ⟨x7, e7, g⟩ := gInt_elim g
  obtain ⟨x8, e8, g⟩ := gInt_elim g
  obtain ⟨x9, e9, g⟩ := gInt_elim g
  obtain ⟨x13, e13, g⟩ := gInt_elim g
  exact den_enter [(0, .slice a0 l0 c0), (1, .slice a1 l1 c1), (5, .int .i64 x5), (7, .int .u64 x7), (8, .int .u64 x8), (9, .int .u64 x9), (13, .int .i64 x13)] ⟨e0, e1, e5, e7, e8, e9, e13, trivial⟩ (by kernel_rfl) g
def L8.t (R : Rt) (N3 : Option Addr → Nat → Nat → Option Addr → Nat → Nat → Int → Int → Int → Hp → Prop) : Nat → Option Addr → Nat → Nat → Option Addr → Nat → Nat → Int → Int → Int → Int → Int → Hp → Prop
  | 0 => fun _ _ _ _ _ _ _ _ _ _ _ _ => False
  | n + 1 => fun a0 l0 c0 a1 l1 c1 x5 x7 x8 x9 x13 h => D9.t R N3 (L8.t R N3 n) a0 l0 c0 a1 l1 c1 x5 x7 x8 x9 x13 h
theorem L8.ok (R : Rt) (N3 : Option Addr → Nat → Nat → Option Addr → Nat → Nat → Int → Int → Int → Hp → Prop) (fr : Fr) (h : Hp) (g : L8.g (fun a0 l0 c0 a1 l1 c1 x5 x7 x8 x9 x13 h => ∃ n, L8.t R N3 n a0 l0 c0 a1 l1 c1 x5 x7 x8 x9 x13 h) fr h) : den prog E (cAt C [true, true, true, true, true, true, false, false, false, true, false, true, true, false, true, false]) (Ex.inBlock 4 (Ex.then (D6.g R N3) (Ex.inBlock 3 (Ex.then (L3.g N3) (Ex.inBlock 2 (Ex.then (D2.g R) (retQ E [.tmp 4] R))))))) fr h := by
  obtain ⟨a0, l0, c0, e0, g⟩ := gSlice_elim g
  obtain ⟨a1, l1, c1, e1, g⟩ := gSlice_elim g
  obtain ⟨x5, e5, g⟩ := gInt_elim g
  obtain ⟨x7, e7, g⟩ := gInt_elim g
  obtain ⟨x8, e8, g⟩ := gInt_elim g
  obtain ⟨x9, e9, g⟩ := gInt_elim g
  obtain ⟨x13, e13, g⟩ := gInt_elim g
  obtain ⟨n, g⟩ := g
  refine loop_ok (fun n => L8.g (L8.t R N3 n)) (b := (cAt C [true, true, true, true, true, true, false, false, false, true, false, true, true, false, true, false, false])) (by kernel_rfl) (fun fr h g => ?_) (fun n => D9.ok R N3 (L8.t R N3 n)) n fr h (gSlice_intro e0 (gSlice_intro e1 (gInt_intro e5 (gInt_intro e7 (gInt_intro e8 (gInt_intro e9 (gInt_intro e13 (g))))))))
  obtain ⟨a0, l0, c0, e0, g⟩ := gSlice_elim g
  obtain ⟨a1, l1, c1, e1, g⟩ := gSlice_elim g
  obtain ⟨x5, e5, g⟩ := gInt_elim g
  obtain ⟨x7, e7, g⟩ := gInt_elim g
  obtain ⟨x8, e8, g⟩ := gInt_elim g
  obtain ⟨x9, e9, g⟩ := gInt_elim g
  obtain ⟨x13, e13, g⟩ := gInt_elim g
  exact g
theorem B10.ok (R : Rt) (N3 : Option Addr → Nat → Nat → Option Addr → Nat → Nat → Int → Int → Int → Hp → Prop) (fr : Fr) (h : Hp) (g : L8.g (fun a0 l0 c0 a1 l1 c1 x5 x7 x8 x9 x13 h => ∃ n, L8.t R N3 n a0 l0 c0 a1 l1 c1 x5 x7 x8 x9 x13 h) fr h) : den prog E (cAt C [true, true, true, true, true, true, false, false, false, true, false, true, true, false, true]) (Ex.then (D6.g R N3) (Ex.inBlock 3 (Ex.then (L3.g N3) (Ex.inBlock 2 (Ex.then (D2.g R) (retQ E [.tmp 4] R)))))) fr h :=
  den_block (by kernel_rfl) (L8.ok R N3 fr h g)
def D7.t (R : Rt) (N3 : Option Addr → Nat → Nat → Option Addr → Nat → Nat → Int → Int → Int → Hp → Prop) (a0 : Option Addr) (l0 : Nat) (c0 : Nat) (a1 : Option Addr) (l1 : Nat) (c1 : Nat) (x5 : Int) (x7 : Int) (x8 : Int) (x9 : Int) (h : Hp) : Prop :=
  (∃ n, L8.t R N3 n a0 l0 c0 a1 l1 c1 x5 x7 x8 x9 0 h)
def D7.g (R : Rt) (N3 : Option Addr → Nat → Nat → Option Addr → Nat → Nat → Int → Int → Int → Hp → Prop) (fr : Fr) (h : Hp) : Prop := gSlice (fr 0) fun a0 l0 c0 => gSlice (fr 1) fun a1 l1 c1 => gInt .i64 (fr 5) fun x5 => gInt .u64 (fr 7) fun x7 => gInt .u64 (fr 8) fun x8 => gInt .u64 (fr 9) fun x9 => D7.t R N3 a0 l0 c0 a1 l1 c1 x5 x7 x8 x9 h
theorem D7.ok (R : Rt) (N3 : Option Addr → Nat → Nat → Option Addr → Nat → Nat → Int → Int → Int → Hp → Prop) (fr : Fr) (h : Hp) (g : D7.g R N3 fr h) : den prog E (cAt C [true, true, true, true, true, true, false, false, false, true, false, true, true, false]) (Ex.then (D6.g R N3) (Ex.inBlock 3 (Ex.then (L3.g N3) (Ex.inBlock 2 (Ex.then (D2.g R) (retQ E [.tmp 4] R)))))) fr h := by
  obtain ⟨a0, l0, c0, e0, g⟩ := gSlice_elim g
  obtain ⟨a1, l1, c1, e1, g⟩ := gSlice_elim g
  obtain ⟨x5, e5, g⟩ := gInt_elim g
  obtain ⟨x7, e7, g⟩ := gInt_elim g
  obtain ⟨x8, e8, g⟩ := gInt_elim g
  obtain ⟨x9, e9, g⟩ := gInt_elim g
  exact den_cut 1 (r := (cAt C [true, true, true, true, true, true, false, false, false, true, false, true, true, false, true])) (by kernel_rfl) (B10.ok R N3) (den_enter [(0, .slice a0 l0 c0), (1, .slice a1 l1 c1), (5, .int .i64 x5), (7, .int .u64 x7), (8, .int .u64 x8), (9, .int .u64 x9)] ⟨e0, e1, e5, e7, e8, e9, trivial⟩ (by kernel_rfl) g)
theorem W11.ok (R : Rt) (N3 : Option Addr → Nat → Nat → Option Addr → Nat → Nat → Int → Int → Int → Hp → Prop) (fr : Fr) (h : Hp) (g : D7.g R N3 fr h) : den prog E (cAt C [true, true, true, true, true, true, false, false, false, true, false, true, true]) (Ex.inBlock 3 (Ex.then (L3.g N3) (Ex.inBlock 2 (Ex.then (D2.g R) (retQ E [.tmp 4] R))))) fr h :=
  den_then (by kernel_rfl) (D6.ok R N3) (D7.ok R N3 fr h g)
def D5.t (R : Rt) (N3 : Option Addr → Nat → Nat → Option Addr → Nat → Nat → Int → Int → Int → Hp → Prop) (a0 : Option Addr) (l0 : Nat) (c0 : Nat) (a1 : Option Addr) (l1 : Nat) (c1 : Nat) (x5 : Int) (x7 : Int) (x9 : Int) (h : Hp) : Prop :=
  letK (IntKind.u64.wrap (x7 - 1)) fun n19 => D7.t R N3 a0 l0 c0 a1 l1 c1 x5 n19 0 x9 h
def D5.g (R : Rt) (N3 : Option Addr → Nat → Nat → Option Addr → Nat → Nat → Int → Int → Int → Hp → Prop) (fr : Fr) (h : Hp) : Prop := gSlice (fr 0) fun a0 l0 c0 => gSlice (fr 1) fun a1 l1 c1 => gInt .i64 (fr 5) fun x5 => gInt .u64 (fr 7) fun x7 => gInt .u64 (fr 9) fun x9 => D5.t R N3 a0 l0 c0 a1 l1 c1 x5 x7 x9 h
theorem D5.ok (R : Rt) (N3 : Option Addr → Nat → Nat → Option Addr → Nat → Nat → Int → Int → Int → Hp → Prop) (fr : Fr) (h : Hp) (g : D5.g R N3 fr h) : den prog E (cAt C [true, true, true, true, true, true, false, false, false, true, false]) (Ex.inBlock 3 (Ex.then (L3.g N3) (Ex.inBlock 2 (Ex.then (D2.g R) (retQ E [.tmp 4] R))))) fr h := by
  obtain ⟨a0, l0, c0, e0, g⟩ := gSlice_elim g
  obtain ⟨a1, l1, c1, e1, g⟩ := gSlice_elim g
  obtain ⟨x5, e5, g⟩ := gInt_elim g
  obtain ⟨x7, e7, g⟩ := gInt_elim g
  obtain ⟨x9, e9, g⟩ := gInt_elim g
  exact den_cut 2 (r := (cAt C [true, true, true, true, true, true, false, false, false, true, false, true, true])) (by kernel_rfl) (W11.ok R N3) (den_enter [(0, .slice a0 l0 c0), (1, .slice a1 l1 c1), (5, .int .i64 x5), (7, .int .u64 x7), (9, .int .u64 x9)] ⟨e0, e1, e5, e7, e9, trivial⟩ (by kernel_rfl) g)
theorem B12.ok (R : Rt) (N3 : Option Addr → Nat → Nat → Option Addr → Nat → Nat → Int → Int → Int → Hp → Prop) (fr : Fr) (h : Hp) (g : D5.g R N3 fr h) : den prog E (cAt C [true, true, true, true, true, true, false, false, false, true]) (Ex.then (L3.g N3) (Ex.inBlock 2 (Ex.then (D2.g R) (retQ E [.tmp 4] R)))) fr h :=
  den_block (by kernel_rfl) (D5.ok R N3 fr h g)
def D4.t (R : Rt) (N3 : Option Addr → Nat → Nat → Option Addr → Nat → Nat → Int → Int → Int → Hp → Prop) (a0 : Option Addr) (l0 : Nat) (c0 : Nat) (a1 : Option Addr) (l1 : Nat) (c1 : Nat) (x5 : Int) (x7 : Int) (x9 : Int) (h : Hp) : Prop :=
  cond (decide (x9 > 0)) (D5.t R N3 a0 l0 c0 a1 l1 c1 x5 x7 x9 h) (D2.t R x7 h)
def D4.g (R : Rt) (N3 : Option Addr → Nat → Nat → Option Addr → Nat → Nat → Int → Int → Int → Hp → Prop) (fr : Fr) (h : Hp) : Prop := gSlice (fr 0) fun a0 l0 c0 => gSlice (fr 1) fun a1 l1 c1 => gInt .i64 (fr 5) fun x5 => gInt .u64 (fr 7) fun x7 => gInt .u64 (fr 9) fun x9 => D4.t R N3 a0 l0 c0 a1 l1 c1 x5 x7 x9 h
theorem D4.ok (R : Rt) (N3 : Option Addr → Nat → Nat → Option Addr → Nat → Nat → Int → Int → Int → Hp → Prop) (fr : Fr) (h : Hp) (g : D4.g R N3 fr h) : den prog E (cAt C [true, true, true, true, true, true, false, false, false]) (Ex.then (L3.g N3) (Ex.inBlock 2 (Ex.then (D2.g R) (retQ E [.tmp 4] R)))) fr h := by
  obtain ⟨a0, l0, c0, e0, g⟩ := gSlice_elim g
  obtain ⟨a1, l1, c1, e1, g⟩ := gSlice_elim g
  obtain ⟨x5, e5, g⟩ := gInt_elim g
  obtain ⟨x7, e7, g⟩ := gInt_elim g
  obtain ⟨x9, e9, g⟩ := gInt_elim g
  exact den_cut 1 (r := (cAt C [true, true, true, true, true, true, false, false, false, true])) (by kernel_rfl) (B12.ok R N3) (den_enter [(0, .slice a0 l0 c0), (1, .slice a1 l1 c1), (5, .int .i64 x5), (7, .int .u64 x7), (9, .int .u64 x9)] ⟨e0, e1, e5, e7, e9, trivial⟩ (by kernel_rfl) g)
def L3.t (R : Rt) : Nat → Option Addr → Nat → Nat → Option Addr → Nat → Nat → Int → Int → Int → Hp → Prop
  | 0 => fun _ _ _ _ _ _ _ _ _ _ => False
  | n + 1 => fun a0 l0 c0 a1 l1 c1 x5 x7 x9 h => D4.t R (L3.t R n) a0 l0 c0 a1 l1 c1 x5 x7 x9 h
theorem L3.ok (R : Rt) (fr : Fr) (h : Hp) (g : L3.g (fun a0 l0 c0 a1 l1 c1 x5 x7 x9 h => ∃ n, L3.t R n a0 l0 c0 a1 l1 c1 x5 x7 x9 h) fr h) : den prog E (cAt C [true, true, true, true, true, true, false, false]) (Ex.inBlock 2 (Ex.then (D2.g R) (retQ E [.tmp 4] R))) fr h := by
  obtain ⟨a0, l0, c0, e0, g⟩ := gSlice_elim g
  obtain ⟨a1, l1, c1, e1, g⟩ := gSlice_elim g
  obtain ⟨x5, e5, g⟩ := gInt_elim g
  obtain ⟨x7, e7, g⟩ := gInt_elim g
  obtain ⟨x9, e9, g⟩ := gInt_elim g
  obtain ⟨n, g⟩ := g
  refine loop_ok (fun n => L3.g (L3.t R n)) (b := (cAt C [true, true, true, true, true, true, false, false, false])) (by kernel_rfl) (fun fr h g => ?_) (fun n => D4.ok R (L3.t R n)) n fr h (gSlice_intro e0 (gSlice_intro e1 (gInt_intro e5 (gInt_intro e7 (gInt_intro e9 (g))))))
  obtain ⟨a0, l0, c0, e0, g⟩ := gSlice_elim g
  obtain ⟨a1, l1, c1, e1, g⟩ := gSlice_elim g
  obtain ⟨x5, e5, g⟩ := gInt_elim g
  obtain ⟨x7, e7, g⟩ := gInt_elim g
  obtain ⟨x9, e9, g⟩ := gInt_elim g
  exact g
theorem B13.ok (R : Rt) (fr : Fr) (h : Hp) (g : L3.g (fun a0 l0 c0 a1 l1 c1 x5 x7 x9 h => ∃ n, L3.t R n a0 l0 c0 a1 l1 c1 x5 x7 x9 h) fr h) : den prog E (cAt C [true, true, true, true, true, true, false]) (Ex.then (D2.g R) (retQ E [.tmp 4] R)) fr h :=
  den_block (by kernel_rfl) (L3.ok R fr h g)
theorem W14.ok (R : Rt) (fr : Fr) (h : Hp) (g : L3.g (fun a0 l0 c0 a1 l1 c1 x5 x7 x9 h => ∃ n, L3.t R n a0 l0 c0 a1 l1 c1 x5 x7 x9 h) fr h) : den prog E (cAt C [true, true, true, true, true, true]) (retQ E [.tmp 4] R) fr h :=
  den_then (by kernel_rfl) (D2.ok R) (B13.ok R fr h g)
def L16.g (N : Option Addr → Nat → Nat → Option Addr → Nat → Nat → Int → Int → Int → Int → Int → Hp → Prop) (fr : Fr) (h : Hp) : Prop := gSlice (fr 0) fun a0 l0 c0 => gSlice (fr 1) fun a1 l1 c1 => gInt .i64 (fr 5) fun x5 => gInt .u64 (fr 7) fun x7 => gInt .u64 (fr 8) fun x8 => gInt .u64 (fr 9) fun x9 => gInt .i64 (fr 10) fun x10 => N a0 l0 c0 a1 l1 c1 x5 x7 x8 x9 x10 h
def D17.t (R : Rt) (N16 : Option Addr → Nat → Nat → Option Addr → Nat → Nat → Int → Int → Int → Int → Int → Hp → Prop) (a0 : Option Addr) (l0 : Nat) (c0 : Nat) (a1 : Option Addr) (l1 : Nat) (c1 : Nat) (x5 : Int) (x7 : Int) (x8 : Int) (x9 : Int) (x10 : Int) (h : Hp) : Prop :=
  cond (decide (x10 ≤ x5)) (cond (decide (x10 < x5)) (idxK a1 l1 x10 1 fun q43 =>
  ldK h q43 fun v44 =>
  gInt .u32 v44 fun x_45 =>
  letK (IntKind.u64.wrap x_45) fun n46 =>
  letK (IntKind.u64.wrap (x7 * n46)) fun n47 =>
  letK (IntKind.u64.wrap (x8 + n47)) fun n48 =>
  letK (andI .u64 n48 4294967295) fun n49 =>
  letK (IntKind.u64.wrap (n49 + x9)) fun n50 =>
  0 ≤ (32 : Int) ∧ letK (shrI .u64 n48 32) fun n51 =>
  idxK a0 l0 x10 1 fun q52 =>
  ldK h q52 fun v53 =>
  gInt .u32 v53 fun x_54 =>
  letK (IntKind.u64.wrap x_54) fun n55 =>
  cond (decide (n55 < n50)) (letK (IntKind.u64.wrap (n55 + 4294967296)) fun n56 =>
  letK (IntKind.u64.wrap (n56 - n50)) fun n57 =>
  letK (IntKind.u32.wrap n57) fun n58 =>
  idxK a0 l0 x10 1 fun q59 =>
  stK h q59 (.int .u32 n58) fun h60 =>
  letK (IntKind.i64.wrap (x10 + 1)) fun n61 =>
  N16 a0 l0 c0 a1 l1 c1 x5 x7 n51 1 n61 h60) (letK (IntKind.u64.wrap (n55 - n50)) fun n62 =>
  letK (IntKind.u32.wrap n62) fun n63 =>
  idxK a0 l0 x10 1 fun q64 =>
  stK h q64 (.int .u32 n63) fun h65 =>
  letK (IntKind.i64.wrap (x10 + 1)) fun n66 =>
  N16 a0 l0 c0 a1 l1 c1 x5 x7 n51 0 n66 h65)) (letK (andI .u64 x8 4294967295) fun n67 =>
  letK (IntKind.u64.wrap (n67 + x9)) fun n68 =>
  0 ≤ (32 : Int) ∧ letK (shrI .u64 x8 32) fun n69 =>
  idxK a0 l0 x10 1 fun q70 =>
  ldK h q70 fun v71 =>
  gInt .u32 v71 fun x_72 =>
  letK (IntKind.u64.wrap x_72) fun n73 =>
  cond (decide (n73 < n68)) (letK (IntKind.u64.wrap (n73 + 4294967296)) fun n74 =>
  letK (IntKind.u64.wrap (n74 - n68)) fun n75 =>
  letK (IntKind.u32.wrap n75) fun n76 =>
  idxK a0 l0 x10 1 fun q77 =>
  stK h q77 (.int .u32 n76) fun h78 =>
  letK (IntKind.i64.wrap (x10 + 1)) fun n79 =>
  N16 a0 l0 c0 a1 l1 c1 x5 x7 n69 1 n79 h78) (letK (IntKind.u64.wrap (n73 - n68)) fun n80 =>
  letK (IntKind.u32.wrap n80) fun n81 =>
  idxK a0 l0 x10 1 fun q82 =>
  stK h q82 (.int .u32 n81) fun h83 =>
  letK (IntKind.i64.wrap (x10 + 1)) fun n84 =>
  N16 a0 l0 c0 a1 l1 c1 x5 x7 n69 0 n84 h83))) ((∃ n, L3.t R n a0 l0 c0 a1 l1 c1 x5 x7 x9 h))
def D17.g (R : Rt) (N16 : Option Addr → Nat → Nat → Option Addr → Nat → Nat → Int → Int → Int → Int → Int → Hp → Prop) (fr : Fr) (h : Hp) : Prop := gSlice (fr 0) fun a0 l0 c0 => gSlice (fr 1) fun a1 l1 c1 => gInt .i64 (fr 5) fun x5 => gInt .u64 (fr 7) fun x7 => gInt .u64 (fr 8) fun x8 => gInt .u64 (fr 9) fun x9 => gInt .i64 (fr 10) fun x10 => D17.t R N16 a0 l0 c0 a1 l1 c1 x5 x7 x8 x9 x10 h
theorem D17.ok (R : Rt) (N16 : Option Addr → Nat → Nat → Option Addr → Nat → Nat → Int → Int → Int → Int → Int → Hp → Prop) (fr : Fr) (h : Hp) (g : D17.g R N16 fr h) : den prog E (cAt C [true, true, true, true, true, false, true, false, false]) (Ex.then (L16.g N16) (Ex.inBlock 0 (Ex.then (L3.g (fun a0 l0 c0 a1 l1 c1 x5 x7 x9 h => ∃ n, L3.t R n a0 l0 c0 a1 l1 c1 x5 x7 x9 h)) (retQ E [.tmp 4] R)))) fr h := by
  obtain ⟨a0, l0, c0, e0, g⟩ := gSlice_elim g
  obtain ⟨a1, l1, c1, e1, g⟩ := gSlice_elim g
  obtain ⟨x5, e5, g⟩ := gInt_elim g
  obtain ⟨x7, e7, g⟩ := gInt_elim g
  obtain ⟨x8, e8, g⟩ := gInt_elim g
  obtain ⟨x9, e9, g⟩ := gInt_elim g
  obtain ⟨x10, e10, g⟩ := gInt_elim g
  exact den_enter [(0, .slice a0 l0 c0), (1, .slice a1 l1 c1), (5, .int .i64 x5), (7, .int .u64 x7), (8, .int .u64 x8), (9, .int .u64 x9), (10, .int .i64 x10)] ⟨e0, e1, e5, e7, e8, e9, e10, trivial⟩ (by kernel_rfl) g
def L16.t (R : Rt) : Nat → Option Addr → Nat → Nat → Option Addr → Nat → Nat → Int → Int → Int → Int → Int → Hp → Prop
  | 0 => fun _ _ _ _ _ _ _ _ _ _ _ _ => False
  | n + 1 => fun a0 l0 c0 a1 l1 c1 x5 x7 x8 x9 x10 h => D17.t R (L16.t R n) a0 l0 c0 a1 l1 c1 x5 x7 x8 x9 x10 h
theorem L16.ok (R : Rt) (fr : Fr) (h : Hp) (g : L16.g (fun a0 l0 c0 a1 l1 c1 x5 x7 x8 x9 x10 h => ∃ n, L16.t R n a0 l0 c0 a1 l1 c1 x5 x7 x8 x9 x10 h) fr h) : den prog E (cAt C [true, true, true, true, true, false, true, false]) (Ex.inBlock 0 (Ex.then (L3.g (fun a0 l0 c0 a1 l1 c1 x5 x7 x9 h => ∃ n, L3.t R n a0 l0 c0 a1 l1 c1 x5 x7 x9 h)) (retQ E [.tmp 4] R))) fr h := by
  obtain ⟨a0, l0, c0, e0, g⟩ := gSlice_elim g
  obtain ⟨a1, l1, c1, e1, g⟩ := gSlice_elim g
  obtain ⟨x5, e5, g⟩ := gInt_elim g
  obtain ⟨x7, e7, g⟩ := gInt_elim g
  obtain ⟨x8, e8, g⟩ := gInt_elim g
  obtain ⟨x9, e9, g⟩ := gInt_elim g
  obtain ⟨x10, e10, g⟩ := gInt_elim g
  obtain ⟨n, g⟩ := g
  refine loop_ok (fun n => L16.g (L16.t R n)) (b := (cAt C [true, true, true, true, true, false, true, false, false])) (by kernel_rfl) (fun fr h g => ?_) (fun n => D17.ok R (L16.t R n)) n fr h (gSlice_intro e0 (gSlice_intro e1 (gInt_intro e5 (gInt_intro e7 (gInt_intro e8 (gInt_intro e9 (gInt_intro e10 (g))))))))
  obtain ⟨a0, l0, c0, e0, g⟩ := gSlice_elim g
  obtain ⟨a1, l1, c1, e1, g⟩ := gSlice_elim g
  obtain ⟨x5, e5, g⟩ := gInt_elim g
  obtain ⟨x7, e7, g⟩ := gInt_elim g
  obtain ⟨x8, e8, g⟩ := gInt_elim g
  obtain ⟨x9, e9, g⟩ := gInt_elim g
  obtain ⟨x10, e10, g⟩ := gInt_elim g
  exact g
theorem B18.ok (R : Rt) (fr : Fr) (h : Hp) (g : L16.g (fun a0 l0 c0 a1 l1 c1 x5 x7 x8 x9 x10 h => ∃ n, L16.t R n a0 l0 c0 a1 l1 c1 x5 x7 x8 x9 x10 h) fr h) : den prog E (cAt C [true, true, true, true, true, false, true]) (Ex.then (L3.g (fun a0 l0 c0 a1 l1 c1 x5 x7 x9 h => ∃ n, L3.t R n a0 l0 c0 a1 l1 c1 x5 x7 x9 h)) (retQ E [.tmp 4] R)) fr h :=
  den_block (by kernel_rfl) (L16.ok R fr h g)
def D15.t (R : Rt) (a0 : Option Addr) (l0 : Nat) (c0 : Nat) (a1 : Option Addr) (l1 : Nat) (c1 : Nat) (x5 : Int) (x7 : Int) (x8 : Int) (x9 : Int) (h : Hp) : Prop :=
  (∃ n, L16.t R n a0 l0 c0 a1 l1 c1 x5 x7 x8 x9 0 h)
def D15.g (R : Rt) (fr : Fr) (h : Hp) : Prop := gSlice (fr 0) fun a0 l0 c0 => gSlice (fr 1) fun a1 l1 c1 => gInt .i64 (fr 5) fun x5 => gInt .u64 (fr 7) fun x7 => gInt .u64 (fr 8) fun x8 => gInt .u64 (fr 9) fun x9 => D15.t R a0 l0 c0 a1 l1 c1 x5 x7 x8 x9 h
theorem D15.ok (R : Rt) (fr : Fr) (h : Hp) (g : D15.g R fr h) : den prog E (cAt C [true, true, true, true, true, false]) (Ex.then (L3.g (fun a0 l0 c0 a1 l1 c1 x5 x7 x9 h => ∃ n, L3.t R n a0 l0 c0 a1 l1 c1 x5 x7 x9 h)) (retQ E [.tmp 4] R)) fr h := by
  obtain ⟨a0, l0, c0, e0, g⟩ := gSlice_elim g
  obtain ⟨a1, l1, c1, e1, g⟩ := gSlice_elim g
  obtain ⟨x5, e5, g⟩ := gInt_elim g
  obtain ⟨x7, e7, g⟩ := gInt_elim g
  obtain ⟨x8, e8, g⟩ := gInt_elim g
  obtain ⟨x9, e9, g⟩ := gInt_elim g
  exact den_cut 1 (r := (cAt C [true, true, true, true, true, false, true])) (by kernel_rfl) (B18.ok R) (den_enter [(0, .slice a0 l0 c0), (1, .slice a1 l1 c1), (5, .int .i64 x5), (7, .int .u64 x7), (8, .int .u64 x8), (9, .int .u64 x9)] ⟨e0, e1, e5, e7, e8, e9, trivial⟩ (by kernel_rfl) g)
theorem W19.ok (R : Rt) (fr : Fr) (h : Hp) (g : D15.g R fr h) : den prog E (cAt C [true, true, true, true, true]) (retQ E [.tmp 4] R) fr h :=
  den_then (by kernel_rfl) (W14.ok R) (D15.ok R fr h g)
def D1.t (R : Rt) (a0 : Option Addr) (l0 : Nat) (c0 : Nat) (a1 : Option Addr) (l1 : Nat) (c1 : Nat) (h : Hp) : Prop :=
  idxK a0 l0 (((l1 : Nat) : Int)) 1 fun q1 =>
  ldK h q1 fun v2 =>
  gInt .u32 v2 fun x_3 =>
  letK (IntKind.u64.wrap x_3) fun n4 =>
  0 ≤ (32 : Int) ∧ letK (shlI .u64 n4 32) fun n5 =>
  letK (IntKind.i64.wrap ((((l1 : Nat) : Int)) - 1)) fun n6 =>
  idxK a0 l0 n6 1 fun q7 =>
  ldK h q7 fun v8 =>
  gInt .u32 v8 fun x_9 =>
  letK (IntKind.u64.wrap x_9) fun n10 =>
  letK (IntKind.u64.wrap (n5 + n10)) fun n11 =>
  letK (IntKind.i64.wrap ((((l1 : Nat) : Int)) - 1)) fun n12 =>
  idxK a1 l1 n12 1 fun q13 =>
  ldK h q13 fun v14 =>
  gInt .u32 v14 fun x_15 =>
  letK (IntKind.u64.wrap x_15) fun n16 =>
  n16 ≠ 0 ∧ letK (IntKind.u64.wrap (Int.tdiv n11 n16)) fun n17 =>
  D15.t R a0 l0 c0 a1 l1 c1 (((l1 : Nat) : Int)) (if 4294967295 < n17 then 4294967295 else n17) 0 0 h
def D1.g (R : Rt) (fr : Fr) (h : Hp) : Prop := gSlice (fr 0) fun a0 l0 c0 => gSlice (fr 1) fun a1 l1 c1 => D1.t R a0 l0 c0 a1 l1 c1 h
theorem D1.ok (R : Rt) (fr : Fr) (h : Hp) (g : D1.g R fr h) : den prog E C (retQ E [.tmp 4] R) fr h := by
  obtain ⟨a0, l0, c0, e0, g⟩ := gSlice_elim g
  obtain ⟨a1, l1, c1, e1, g⟩ := gSlice_elim g
  exact den_cut 5 (r := (cAt C [true, true, true, true, true])) (by kernel_rfl) (W19.ok R) (den_enter [(0, .slice a0 l0 c0), (1, .slice a1 l1 c1)] ⟨e0, e1, trivial⟩ (by kernel_rfl) g)
def t (a0 : Option Addr) (l0 : Nat) (c0 : Nat) (a1 : Option Addr) (l1 : Nat) (c1 : Nat) (h : Hp) (R : Rt) : Prop := D1.t R a0 l0 c0 a1 l1 c1 h
theorem ok {a0 : Option Addr} {l0 : Nat} {c0 : Nat} {a1 : Option Addr} {l1 : Nat} {c1 : Nat} {h : Hp} {R : Rt} (g : t a0 l0 c0 a1 l1 c1 h R) : HC id #[.slice a0 l0 c0, .slice a1 l1 c1] h R :=
  calls_of_den' envOk (c := C) (rs := [.tmp 4]) Tryd.func83 (by kernel_rfl) (by kernel_rfl) (by kernel_rfl) (args := [.slice a0 l0 c0, .slice a1 l1 c1]) (by kernel_rfl) (D1.ok R _ h (gSlice_intro rfl (gSlice_intro rfl (g))))
end gnomonref01_digit

end Go.Proofs.YtnbpbojcjihboaaDoor.G
