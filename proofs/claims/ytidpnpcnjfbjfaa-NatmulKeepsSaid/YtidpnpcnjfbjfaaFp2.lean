/- Functions of the translation as predicates over heaps, and that their calls do so. Written by a program of this work. -/
import Derived.Test.YtidpnpcnjfbjfaaEnv
namespace Go.Proofs.Ytidpnpcnjfbjfaa.G
open Go.Gv
set_option linter.unusedVariables false
set_option maxRecDepth 100000
namespace gnomonref02_power
noncomputable def C : Code := bodyOf Try.f84
def D2.t (R : Rt) (a6 : Option Addr) (l6 : Nat) (c6 : Nat) (h : Hp) : Prop :=
  HC gnomonref01_Told.id #[.slice a6 l6 c6] h fun v4 h5 =>
  gTup v4 fun y6 =>
  uncons y6 fun v7 y7 =>
  gSlice v7 fun a_8 l_8 c_8 =>
  uncons y7 fun v9 y9 =>
  gInt .i64 v9 fun x_10 =>
  unnil y9 <| R (.tuple #[.slice a_8 l_8 c_8, .int .i64 x_10]) h5
def D2.g (R : Rt) (fr : Fr) (h : Hp) : Prop := gSlice (fr 6) fun a6 l6 c6 => D2.t R a6 l6 c6 h
theorem D2.ok (R : Rt) (fr : Fr) (h : Hp) (g : D2.g R fr h) : den prog E (cAt C [true, true, true, true, true]) (retQ E [.tmp 4, .tmp 5] R) fr h := by
  obtain ⟨a6, l6, c6, e6, g⟩ := gSlice_elim g
  exact den_enter [(6, .slice a6 l6 c6)] ⟨e6, trivial⟩ (by kernel_rfl) g
def L4.g (N : Option Addr → Nat → Nat → Int → Option Addr → Nat → Nat → Int → Hp → Prop) (fr : Fr) (h : Hp) : Prop := gSlice (fr 0) fun a0 l0 c0 => gInt .i64 (fr 1) fun x1 => gSlice (fr 6) fun a6 l6 c6 => gInt .i64 (fr 8) fun x8 => N a0 l0 c0 x1 a6 l6 c6 x8 h
def D5.t (R : Rt) (N4 : Option Addr → Nat → Nat → Int → Option Addr → Nat → Nat → Int → Hp → Prop) (a0 : Option Addr) (l0 : Nat) (c0 : Nat) (x1 : Int) (a6 : Option Addr) (l6 : Nat) (c6 : Nat) (x8 : Int) (h : Hp) : Prop :=
  cond (decide (x8 ≥ 0)) (HC gnomonref02_product.id #[.slice a6 l6 c6, .slice a6 l6 c6] h fun v11 h12 =>
  gTup v11 fun y13 =>
  uncons y13 fun v14 y14 =>
  gSlice v14 fun a_15 l_15 c_15 =>
  uncons y14 fun v16 y16 =>
  gInt .i64 v16 fun x_17 =>
  unnil y16 <| cond (x_17 != 0) (R (.tuple #[.slice none 0 0, .int .i64 x_17]) h12) (HC gnomonref01_From.id #[.slice a_15 l_15 c_15] h12 fun v18 h19 =>
  gSlice v18 fun a_20 l_20 c_20 =>
  0 ≤ x8 ∧ letK (shrI .i64 x1 x8) fun n21 =>
  letK (andI .i64 n21 1) fun n22 =>
  cond (n22 == 1) (HC gnomonref02_product.id #[.slice a_20 l_20 c_20, .slice a0 l0 c0] h19 fun v23 h24 =>
  gTup v23 fun y25 =>
  uncons y25 fun v26 y26 =>
  gSlice v26 fun a_27 l_27 c_27 =>
  uncons y26 fun v28 y28 =>
  gInt .i64 v28 fun x_29 =>
  unnil y28 <| cond (x_29 != 0) (R (.tuple #[.slice none 0 0, .int .i64 x_29]) h24) (HC gnomonref01_From.id #[.slice a_27 l_27 c_27] h24 fun v30 h31 =>
  gSlice v30 fun a_32 l_32 c_32 =>
  letK (IntKind.i64.wrap (x8 - 1)) fun n33 =>
  N4 a0 l0 c0 x1 a_32 l_32 c_32 n33 h31)) (letK (IntKind.i64.wrap (x8 - 1)) fun n34 =>
  N4 a0 l0 c0 x1 a_20 l_20 c_20 n34 h19))) (D2.t R a6 l6 c6 h)
def D5.g (R : Rt) (N4 : Option Addr → Nat → Nat → Int → Option Addr → Nat → Nat → Int → Hp → Prop) (fr : Fr) (h : Hp) : Prop := gSlice (fr 0) fun a0 l0 c0 => gInt .i64 (fr 1) fun x1 => gSlice (fr 6) fun a6 l6 c6 => gInt .i64 (fr 8) fun x8 => D5.t R N4 a0 l0 c0 x1 a6 l6 c6 x8 h
theorem D5.ok (R : Rt) (N4 : Option Addr → Nat → Nat → Int → Option Addr → Nat → Nat → Int → Hp → Prop) (fr : Fr) (h : Hp) (g : D5.g R N4 fr h) : den prog E (cAt C [true, true, true, true, false, true, false, false]) (Ex.then (L4.g N4) (Ex.inBlock 2 (Ex.then (D2.g R) (retQ E [.tmp 4, .tmp 5] R)))) fr h := by
  obtain ⟨a0, l0, c0, e0, g⟩ := gSlice_elim g
  obtain ⟨x1, e1, g⟩ := gInt_elim g
  obtain ⟨a6, l6, c6, e6, g⟩ := gSlice_elim g
  obtain ⟨x8, e8, g⟩ := gInt_elim g
  exact den_enter [(0, .slice a0 l0 c0), (1, .int .i64 x1), (6, .slice a6 l6 c6), (8, .int .i64 x8)] ⟨e0, e1, e6, e8, trivial⟩ (by kernel_rfl) g
def L4.t (R : Rt) : Nat → Option Addr → Nat → Nat → Int → Option Addr → Nat → Nat → Int → Hp → Prop
  | 0 => fun _ _ _ _ _ _ _ _ _ => False
  | n + 1 => fun a0 l0 c0 x1 a6 l6 c6 x8 h => D5.t R (L4.t R n) a0 l0 c0 x1 a6 l6 c6 x8 h
theorem L4.ok (R : Rt) (fr : Fr) (h : Hp) (g : L4.g (fun a0 l0 c0 x1 a6 l6 c6 x8 h => ∃ n, L4.t R n a0 l0 c0 x1 a6 l6 c6 x8 h) fr h) : den prog E (cAt C [true, true, true, true, false, true, false]) (Ex.inBlock 2 (Ex.then (D2.g R) (retQ E [.tmp 4, .tmp 5] R))) fr h := by
  obtain ⟨a0, l0, c0, e0, g⟩ := gSlice_elim g
  obtain ⟨x1, e1, g⟩ := gInt_elim g
  obtain ⟨a6, l6, c6, e6, g⟩ := gSlice_elim g
  obtain ⟨x8, e8, g⟩ := gInt_elim g
  obtain ⟨n, g⟩ := g
  refine loop_ok (fun n => L4.g (L4.t R n)) (b := (cAt C [true, true, true, true, false, true, false, false])) (by kernel_rfl) (fun fr h g => ?_) (fun n => D5.ok R (L4.t R n)) n fr h (gSlice_intro e0 (gInt_intro e1 (gSlice_intro e6 (gInt_intro e8 (g)))))
  obtain ⟨a0, l0, c0, e0, g⟩ := gSlice_elim g
  obtain ⟨x1, e1, g⟩ := gInt_elim g
  obtain ⟨a6, l6, c6, e6, g⟩ := gSlice_elim g
  obtain ⟨x8, e8, g⟩ := gInt_elim g
  exact g
theorem B6.ok (R : Rt) (fr : Fr) (h : Hp) (g : L4.g (fun a0 l0 c0 x1 a6 l6 c6 x8 h => ∃ n, L4.t R n a0 l0 c0 x1 a6 l6 c6 x8 h) fr h) : den prog E (cAt C [true, true, true, true, false, true]) (Ex.then (D2.g R) (retQ E [.tmp 4, .tmp 5] R)) fr h :=
  den_block (by kernel_rfl) (L4.ok R fr h g)
def D3.t (R : Rt) (a0 : Option Addr) (l0 : Nat) (c0 : Nat) (x1 : Int) (a6 : Option Addr) (l6 : Nat) (c6 : Nat) (x7 : Int) (h : Hp) : Prop :=
  (∃ n, L4.t R n a0 l0 c0 x1 a6 l6 c6 x7 h)
def D3.g (R : Rt) (fr : Fr) (h : Hp) : Prop := gSlice (fr 0) fun a0 l0 c0 => gInt .i64 (fr 1) fun x1 => gSlice (fr 6) fun a6 l6 c6 => gInt .i64 (fr 7) fun x7 => D3.t R a0 l0 c0 x1 a6 l6 c6 x7 h
theorem D3.ok (R : Rt) (fr : Fr) (h : Hp) (g : D3.g R fr h) : den prog E (cAt C [true, true, true, true, false]) (Ex.then (D2.g R) (retQ E [.tmp 4, .tmp 5] R)) fr h := by
  obtain ⟨a0, l0, c0, e0, g⟩ := gSlice_elim g
  obtain ⟨x1, e1, g⟩ := gInt_elim g
  obtain ⟨a6, l6, c6, e6, g⟩ := gSlice_elim g
  obtain ⟨x7, e7, g⟩ := gInt_elim g
  exact den_cut 1 (r := (cAt C [true, true, true, true, false, true])) (by kernel_rfl) (B6.ok R) (den_enter [(0, .slice a0 l0 c0), (1, .int .i64 x1), (6, .slice a6 l6 c6), (7, .int .i64 x7)] ⟨e0, e1, e6, e7, trivial⟩ (by kernel_rfl) g)
theorem W7.ok (R : Rt) (fr : Fr) (h : Hp) (g : D3.g R fr h) : den prog E (cAt C [true, true, true, true]) (retQ E [.tmp 4, .tmp 5] R) fr h :=
  den_then (by kernel_rfl) (D2.ok R) (D3.ok R fr h g)
def L8.g (N : Option Addr → Nat → Nat → Int → Option Addr → Nat → Nat → Int → Hp → Prop) (fr : Fr) (h : Hp) : Prop := gSlice (fr 0) fun a0 l0 c0 => gInt .i64 (fr 1) fun x1 => gSlice (fr 6) fun a6 l6 c6 => gInt .i64 (fr 7) fun x7 => N a0 l0 c0 x1 a6 l6 c6 x7 h
def D9.t (R : Rt) (N8 : Option Addr → Nat → Nat → Int → Option Addr → Nat → Nat → Int → Hp → Prop) (a0 : Option Addr) (l0 : Nat) (c0 : Nat) (x1 : Int) (a6 : Option Addr) (l6 : Nat) (c6 : Nat) (x7 : Int) (h : Hp) : Prop :=
  cond (decide (x7 < 62)) (letK (IntKind.i64.wrap (x7 + 1)) fun n35 =>
  0 ≤ n35 ∧ letK (shrI .i64 x1 n35) fun n36 =>
  cond (decide (n36 > 0)) (letK (IntKind.i64.wrap (x7 + 1)) fun n37 =>
  N8 a0 l0 c0 x1 a6 l6 c6 n37 h) (D3.t R a0 l0 c0 x1 a6 l6 c6 x7 h)) (D3.t R a0 l0 c0 x1 a6 l6 c6 x7 h)
def D9.g (R : Rt) (N8 : Option Addr → Nat → Nat → Int → Option Addr → Nat → Nat → Int → Hp → Prop) (fr : Fr) (h : Hp) : Prop := gSlice (fr 0) fun a0 l0 c0 => gInt .i64 (fr 1) fun x1 => gSlice (fr 6) fun a6 l6 c6 => gInt .i64 (fr 7) fun x7 => D9.t R N8 a0 l0 c0 x1 a6 l6 c6 x7 h
theorem D9.ok (R : Rt) (N8 : Option Addr → Nat → Nat → Int → Option Addr → Nat → Nat → Int → Hp → Prop) (fr : Fr) (h : Hp) (g : D9.g R N8 fr h) : den prog E (cAt C [true, true, true, false, false, false]) (Ex.then (L8.g N8) (Ex.inBlock 0 (Ex.then (D3.g R) (retQ E [.tmp 4, .tmp 5] R)))) fr h := by
  obtain ⟨a0, l0, c0, e0, g⟩ := gSlice_elim g
  obtain ⟨x1, e1, g⟩ := gInt_elim g
  obtain ⟨a6, l6, c6, e6, g⟩ := gSlice_elim g
  obtain ⟨x7, e7, g⟩ := gInt_elim g
  exact den_enter [(0, .slice a0 l0 c0), (1, .int .i64 x1), (6, .slice a6 l6 c6), (7, .int .i64 x7)] ⟨e0, e1, e6, e7, trivial⟩ (by kernel_rfl) g
def L8.t (R : Rt) : Nat → Option Addr → Nat → Nat → Int → Option Addr → Nat → Nat → Int → Hp → Prop
  | 0 => fun _ _ _ _ _ _ _ _ _ => False
  | n + 1 => fun a0 l0 c0 x1 a6 l6 c6 x7 h => D9.t R (L8.t R n) a0 l0 c0 x1 a6 l6 c6 x7 h
theorem L8.ok (R : Rt) (fr : Fr) (h : Hp) (g : L8.g (fun a0 l0 c0 x1 a6 l6 c6 x7 h => ∃ n, L8.t R n a0 l0 c0 x1 a6 l6 c6 x7 h) fr h) : den prog E (cAt C [true, true, true, false, false]) (Ex.inBlock 0 (Ex.then (D3.g R) (retQ E [.tmp 4, .tmp 5] R))) fr h := by
  obtain ⟨a0, l0, c0, e0, g⟩ := gSlice_elim g
  obtain ⟨x1, e1, g⟩ := gInt_elim g
  obtain ⟨a6, l6, c6, e6, g⟩ := gSlice_elim g
  obtain ⟨x7, e7, g⟩ := gInt_elim g
  obtain ⟨n, g⟩ := g
  refine loop_ok (fun n => L8.g (L8.t R n)) (b := (cAt C [true, true, true, false, false, false])) (by kernel_rfl) (fun fr h g => ?_) (fun n => D9.ok R (L8.t R n)) n fr h (gSlice_intro e0 (gInt_intro e1 (gSlice_intro e6 (gInt_intro e7 (g)))))
  obtain ⟨a0, l0, c0, e0, g⟩ := gSlice_elim g
  obtain ⟨x1, e1, g⟩ := gInt_elim g
  obtain ⟨a6, l6, c6, e6, g⟩ := gSlice_elim g
  obtain ⟨x7, e7, g⟩ := gInt_elim g
  exact g
theorem B10.ok (R : Rt) (fr : Fr) (h : Hp) (g : L8.g (fun a0 l0 c0 x1 a6 l6 c6 x7 h => ∃ n, L8.t R n a0 l0 c0 x1 a6 l6 c6 x7 h) fr h) : den prog E (cAt C [true, true, true, false]) (Ex.then (D3.g R) (retQ E [.tmp 4, .tmp 5] R)) fr h :=
  den_block (by kernel_rfl) (L8.ok R fr h g)
theorem W11.ok (R : Rt) (fr : Fr) (h : Hp) (g : L8.g (fun a0 l0 c0 x1 a6 l6 c6 x7 h => ∃ n, L8.t R n a0 l0 c0 x1 a6 l6 c6 x7 h) fr h) : den prog E (cAt C [true, true, true]) (retQ E [.tmp 4, .tmp 5] R) fr h :=
  den_then (by kernel_rfl) (W7.ok R) (B10.ok R fr h g)
def D1.t (R : Rt) (a0 : Option Addr) (l0 : Nat) (c0 : Nat) (x1 : Int) (h : Hp) : Prop :=
  HC gnomonref01_Word.id #[.int .u64 1] h fun v1 h2 =>
  gSlice v1 fun a_3 l_3 c_3 =>
  (∃ n, L8.t R n a0 l0 c0 x1 a_3 l_3 c_3 0 h2)
def D1.g (R : Rt) (fr : Fr) (h : Hp) : Prop := gSlice (fr 0) fun a0 l0 c0 => gInt .i64 (fr 1) fun x1 => D1.t R a0 l0 c0 x1 h
theorem D1.ok (R : Rt) (fr : Fr) (h : Hp) (g : D1.g R fr h) : den prog E C (retQ E [.tmp 4, .tmp 5] R) fr h := by
  obtain ⟨a0, l0, c0, e0, g⟩ := gSlice_elim g
  obtain ⟨x1, e1, g⟩ := gInt_elim g
  exact den_cut 3 (r := (cAt C [true, true, true])) (by kernel_rfl) (W11.ok R) (den_enter [(0, .slice a0 l0 c0), (1, .int .i64 x1)] ⟨e0, e1, trivial⟩ (by kernel_rfl) g)
def t (a0 : Option Addr) (l0 : Nat) (c0 : Nat) (x1 : Int) (h : Hp) (R : Rt) : Prop := D1.t R a0 l0 c0 x1 h
theorem ok {a0 : Option Addr} {l0 : Nat} {c0 : Nat} {x1 : Int} {h : Hp} {R : Rt} (g : t a0 l0 c0 x1 h R) : HC id #[.slice a0 l0 c0, .int .i64 x1] h R :=
  calls_of_den' envOk (c := C) (rs := [.tmp 4, .tmp 5]) Try.func84 (by kernel_rfl) (by kernel_rfl) (by kernel_rfl) (args := [.slice a0 l0 c0, .int .i64 x1]) (by kernel_rfl) (D1.ok R _ h (gSlice_intro rfl (gInt_intro rfl (g))))
end gnomonref02_power

namespace gnomonref01_Low
noncomputable def C : Code := bodyOf Try.f85
def D2.t (R : Rt) (a0 : Option Addr) (l0 : Nat) (c0 : Nat) (x1 : Int) (a5 : Option Addr) (l5 : Nat) (c5 : Nat) (h : Hp) : Prop :=
  (32 : Int) ≠ 0 ∧ letK (IntKind.i64.wrap (Int.tdiv x1 32)) fun n13 =>
  idxK a0 l0 n13 1 fun q14 =>
  ldK h q14 fun v15 =>
  gInt .u32 v15 fun x_16 =>
  (32 : Int) ≠ 0 ∧ letK (Int.tmod x1 32) fun n17 =>
  0 ≤ n17 ∧ letK (shlI .u32 1 n17) fun n18 =>
  n18 ≠ 0 ∧ letK (Int.tmod x_16 n18) fun n19 =>
  boxK h 82 [.int .u32 n19] fun q20 h21 =>
  apK h21 82 T82 a5 l5 c5 (.slice (some q20) 1 1) fun a_22 l_22 c_22 h22 =>
  HC gnomonref01_Norm.id #[.slice a_22 l_22 c_22] h22 fun v23 h24 =>
  gSlice v23 fun a_25 l_25 c_25 =>
  R (.slice a_25 l_25 c_25) h24
def D2.g (R : Rt) (fr : Fr) (h : Hp) : Prop := gSlice (fr 0) fun a0 l0 c0 => gInt .i64 (fr 1) fun x1 => gSlice (fr 5) fun a5 l5 c5 => D2.t R a0 l0 c0 x1 a5 l5 c5 h
theorem D2.ok (R : Rt) (fr : Fr) (h : Hp) (g : D2.g R fr h) : den prog E (cAt C [true, true, true, true, true]) (retQ E [.tmp 4] R) fr h := by
  obtain ⟨a0, l0, c0, e0, g⟩ := gSlice_elim g
  obtain ⟨x1, e1, g⟩ := gInt_elim g
  obtain ⟨a5, l5, c5, e5, g⟩ := gSlice_elim g
  exact den_enter [(0, .slice a0 l0 c0), (1, .int .i64 x1), (5, .slice a5 l5 c5)] ⟨e0, e1, e5, trivial⟩ (by kernel_rfl) g
def L3.g (N : Option Addr → Nat → Nat → Int → Option Addr → Nat → Nat → Hp → Prop) (fr : Fr) (h : Hp) : Prop := gSlice (fr 0) fun a0 l0 c0 => gInt .i64 (fr 1) fun x1 => gSlice (fr 5) fun a5 l5 c5 => N a0 l0 c0 x1 a5 l5 c5 h
def D4.t (R : Rt) (N3 : Option Addr → Nat → Nat → Int → Option Addr → Nat → Nat → Hp → Prop) (a0 : Option Addr) (l0 : Nat) (c0 : Nat) (x1 : Int) (a5 : Option Addr) (l5 : Nat) (c5 : Nat) (h : Hp) : Prop :=
  (32 : Int) ≠ 0 ∧ letK (IntKind.i64.wrap (Int.tdiv x1 32)) fun n26 =>
  cond (decide ((((l5 : Nat) : Int)) < n26)) (boxK h 82 [.int .u32 0] fun q27 h28 =>
  apK h28 82 T82 a5 l5 c5 (.slice (some q27) 1 1) fun a_29 l_29 c_29 h29 =>
  N3 a0 l0 c0 x1 a_29 l_29 c_29 h29) (D2.t R a0 l0 c0 x1 a5 l5 c5 h)
def D4.g (R : Rt) (N3 : Option Addr → Nat → Nat → Int → Option Addr → Nat → Nat → Hp → Prop) (fr : Fr) (h : Hp) : Prop := gSlice (fr 0) fun a0 l0 c0 => gInt .i64 (fr 1) fun x1 => gSlice (fr 5) fun a5 l5 c5 => D4.t R N3 a0 l0 c0 x1 a5 l5 c5 h
theorem D4.ok (R : Rt) (N3 : Option Addr → Nat → Nat → Int → Option Addr → Nat → Nat → Hp → Prop) (fr : Fr) (h : Hp) (g : D4.g R N3 fr h) : den prog E (cAt C [true, true, true, true, false, false, false]) (Ex.then (L3.g N3) (Ex.inBlock 0 (Ex.then (D2.g R) (retQ E [.tmp 4] R)))) fr h := by
  obtain ⟨a0, l0, c0, e0, g⟩ := gSlice_elim g
  obtain ⟨x1, e1, g⟩ := gInt_elim g
  obtain ⟨a5, l5, c5, e5, g⟩ := gSlice_elim g
  exact den_enter [(0, .slice a0 l0 c0), (1, .int .i64 x1), (5, .slice a5 l5 c5)] ⟨e0, e1, e5, trivial⟩ (by kernel_rfl) g
def L3.t (R : Rt) : Nat → Option Addr → Nat → Nat → Int → Option Addr → Nat → Nat → Hp → Prop
  | 0 => fun _ _ _ _ _ _ _ _ => False
  | n + 1 => fun a0 l0 c0 x1 a5 l5 c5 h => D4.t R (L3.t R n) a0 l0 c0 x1 a5 l5 c5 h
theorem L3.ok (R : Rt) (fr : Fr) (h : Hp) (g : L3.g (fun a0 l0 c0 x1 a5 l5 c5 h => ∃ n, L3.t R n a0 l0 c0 x1 a5 l5 c5 h) fr h) : den prog E (cAt C [true, true, true, true, false, false]) (Ex.inBlock 0 (Ex.then (D2.g R) (retQ E [.tmp 4] R))) fr h := by
  obtain ⟨a0, l0, c0, e0, g⟩ := gSlice_elim g
  obtain ⟨x1, e1, g⟩ := gInt_elim g
  obtain ⟨a5, l5, c5, e5, g⟩ := gSlice_elim g
  obtain ⟨n, g⟩ := g
  refine loop_ok (fun n => L3.g (L3.t R n)) (b := (cAt C [true, true, true, true, false, false, false])) (by kernel_rfl) (fun fr h g => ?_) (fun n => D4.ok R (L3.t R n)) n fr h (gSlice_intro e0 (gInt_intro e1 (gSlice_intro e5 (g))))
  obtain ⟨a0, l0, c0, e0, g⟩ := gSlice_elim g
  obtain ⟨x1, e1, g⟩ := gInt_elim g
  obtain ⟨a5, l5, c5, e5, g⟩ := gSlice_elim g
  exact g
theorem B5.ok (R : Rt) (fr : Fr) (h : Hp) (g : L3.g (fun a0 l0 c0 x1 a5 l5 c5 h => ∃ n, L3.t R n a0 l0 c0 x1 a5 l5 c5 h) fr h) : den prog E (cAt C [true, true, true, true, false]) (Ex.then (D2.g R) (retQ E [.tmp 4] R)) fr h :=
  den_block (by kernel_rfl) (L3.ok R fr h g)
theorem W6.ok (R : Rt) (fr : Fr) (h : Hp) (g : L3.g (fun a0 l0 c0 x1 a5 l5 c5 h => ∃ n, L3.t R n a0 l0 c0 x1 a5 l5 c5 h) fr h) : den prog E (cAt C [true, true, true, true]) (retQ E [.tmp 4] R) fr h :=
  den_then (by kernel_rfl) (D2.ok R) (B5.ok R fr h g)
def D1.t (R : Rt) (a0 : Option Addr) (l0 : Nat) (c0 : Nat) (x1 : Int) (h : Hp) : Prop :=
  cond (decide (x1 ≤ 0)) (HC gnomonref01_Word.id #[.int .u64 0] h fun v1 h2 =>
  gSlice v1 fun a_3 l_3 c_3 =>
  R (.slice a_3 l_3 c_3) h2) ((32 : Int) ≠ 0 ∧ letK (IntKind.i64.wrap (Int.tdiv x1 32)) fun n4 =>
  cond (decide (n4 ≥ (((l0 : Nat) : Int)))) (HC gnomonref01_Norm.id #[.slice a0 l0 c0] h fun v5 h6 =>
  gSlice v5 fun a_7 l_7 c_7 =>
  R (.slice a_7 l_7 c_7) h6) ((32 : Int) ≠ 0 ∧ letK (IntKind.i64.wrap (Int.tdiv x1 32)) fun n8 =>
  slK 1 a0 l0 c0 none (some (.int .i64 n8)) none fun a_9 l_9 c_9 =>
  HC gnomonref01_Norm.id #[.slice a_9 l_9 c_9] h fun v10 h11 =>
  gSlice v10 fun a_12 l_12 c_12 =>
  (∃ n, L3.t R n a0 l0 c0 x1 a_12 l_12 c_12 h11)))
def D1.g (R : Rt) (fr : Fr) (h : Hp) : Prop := gSlice (fr 0) fun a0 l0 c0 => gInt .i64 (fr 1) fun x1 => D1.t R a0 l0 c0 x1 h
theorem D1.ok (R : Rt) (fr : Fr) (h : Hp) (g : D1.g R fr h) : den prog E C (retQ E [.tmp 4] R) fr h := by
  obtain ⟨a0, l0, c0, e0, g⟩ := gSlice_elim g
  obtain ⟨x1, e1, g⟩ := gInt_elim g
  exact den_cut 4 (r := (cAt C [true, true, true, true])) (by kernel_rfl) (W6.ok R) (den_enter [(0, .slice a0 l0 c0), (1, .int .i64 x1)] ⟨e0, e1, trivial⟩ (by kernel_rfl) g)
def t (a0 : Option Addr) (l0 : Nat) (c0 : Nat) (x1 : Int) (h : Hp) (R : Rt) : Prop := D1.t R a0 l0 c0 x1 h
theorem ok {a0 : Option Addr} {l0 : Nat} {c0 : Nat} {x1 : Int} {h : Hp} {R : Rt} (g : t a0 l0 c0 x1 h R) : HC id #[.slice a0 l0 c0, .int .i64 x1] h R :=
  calls_of_den' envOk (c := C) (rs := [.tmp 4]) Try.func85 (by kernel_rfl) (by kernel_rfl) (by kernel_rfl) (args := [.slice a0 l0 c0, .int .i64 x1]) (by kernel_rfl) (D1.ok R _ h (gSlice_intro rfl (gInt_intro rfl (g))))
end gnomonref01_Low

namespace gnomonref01_Shr
noncomputable def C : Code := bodyOf Try.f86
def D1.t (R : Rt) (a0 : Option Addr) (l0 : Nat) (c0 : Nat) (x1 : Int) (h : Hp) : Prop :=
  cond (decide (x1 ≤ 0)) (HC gnomonref01_Norm.id #[.slice a0 l0 c0] h fun v1 h2 =>
  gSlice v1 fun a_3 l_3 c_3 =>
  R (.slice a_3 l_3 c_3) h2) ((32 : Int) ≠ 0 ∧ letK (IntKind.i64.wrap (Int.tdiv x1 32)) fun n4 =>
  cond (decide (n4 ≥ (((l0 : Nat) : Int)))) (HC gnomonref01_Word.id #[.int .u64 0] h fun v5 h6 =>
  gSlice v5 fun a_7 l_7 c_7 =>
  R (.slice a_7 l_7 c_7) h6) ((32 : Int) ≠ 0 ∧ letK (IntKind.i64.wrap (Int.tdiv x1 32)) fun n8 =>
  slK 1 a0 l0 c0 (some (.int .i64 n8)) none none fun a_9 l_9 c_9 =>
  (32 : Int) ≠ 0 ∧ letK (Int.tmod x1 32) fun n10 =>
  0 ≤ n10 ∧ letK (shlI .u32 1 n10) fun n11 =>
  HC gnomonref01_DivSmall.id #[.slice a_9 l_9 c_9, .int .u32 n11] h fun v12 h13 =>
  gTup v12 fun y14 =>
  uncons y14 fun v15 y15 =>
  gSlice v15 fun a_16 l_16 c_16 =>
  uncons y15 fun v17 y17 =>
  gInt .u32 v17 fun x_18 =>
  unnil y17 <| R (.slice a_16 l_16 c_16) h13))
def D1.g (R : Rt) (fr : Fr) (h : Hp) : Prop := gSlice (fr 0) fun a0 l0 c0 => gInt .i64 (fr 1) fun x1 => D1.t R a0 l0 c0 x1 h
theorem D1.ok (R : Rt) (fr : Fr) (h : Hp) (g : D1.g R fr h) : den prog E C (retQ E [.tmp 4] R) fr h := by
  obtain ⟨a0, l0, c0, e0, g⟩ := gSlice_elim g
  obtain ⟨x1, e1, g⟩ := gInt_elim g
  exact den_enter [(0, .slice a0 l0 c0), (1, .int .i64 x1)] ⟨e0, e1, trivial⟩ (by kernel_rfl) g
def t (a0 : Option Addr) (l0 : Nat) (c0 : Nat) (x1 : Int) (h : Hp) (R : Rt) : Prop := D1.t R a0 l0 c0 x1 h
theorem ok {a0 : Option Addr} {l0 : Nat} {c0 : Nat} {x1 : Int} {h : Hp} {R : Rt} (g : t a0 l0 c0 x1 h R) : HC id #[.slice a0 l0 c0, .int .i64 x1] h R :=
  calls_of_den' envOk (c := C) (rs := [.tmp 4]) Try.func86 (by kernel_rfl) (by kernel_rfl) (by kernel_rfl) (args := [.slice a0 l0 c0, .int .i64 x1]) (by kernel_rfl) (D1.ok R _ h (gSlice_intro rfl (gInt_intro rfl (g))))
end gnomonref01_Shr

namespace gnomonref01_Add
noncomputable def C : Code := bodyOf Try.f87
def D2.t (R : Rt) (a5 : Option Addr) (l5 : Nat) (c5 : Nat) (h : Hp) : Prop :=
  HC gnomonref01_Norm.id #[.slice a5 l5 c5] h fun v4 h5 =>
  gSlice v4 fun a_6 l_6 c_6 =>
  R (.slice a_6 l_6 c_6) h5
def D2.g (R : Rt) (fr : Fr) (h : Hp) : Prop := gSlice (fr 5) fun a5 l5 c5 => D2.t R a5 l5 c5 h
theorem D2.ok (R : Rt) (fr : Fr) (h : Hp) (g : D2.g R fr h) : den prog E (cAt C [true, true, true, true]) (retQ E [.tmp 4] R) fr h := by
  obtain ⟨a5, l5, c5, e5, g⟩ := gSlice_elim g
  exact den_enter [(5, .slice a5 l5 c5)] ⟨e5, trivial⟩ (by kernel_rfl) g
def L4.g (N : Option Addr → Nat → Nat → Option Addr → Nat → Nat → Option Addr → Nat → Nat → Int → Int → Hp → Prop) (fr : Fr) (h : Hp) : Prop := gSlice (fr 0) fun a0 l0 c0 => gSlice (fr 1) fun a1 l1 c1 => gSlice (fr 5) fun a5 l5 c5 => gInt .u64 (fr 6) fun x6 => gInt .i64 (fr 7) fun x7 => N a0 l0 c0 a1 l1 c1 a5 l5 c5 x6 x7 h
def D6.t (R : Rt) (N4 : Option Addr → Nat → Nat → Option Addr → Nat → Nat → Option Addr → Nat → Nat → Int → Int → Hp → Prop) (a0 : Option Addr) (l0 : Nat) (c0 : Nat) (a1 : Option Addr) (l1 : Nat) (c1 : Nat) (a5 : Option Addr) (l5 : Nat) (c5 : Nat) (x6 : Int) (x7 : Int) (h : Hp) : Prop :=
  cond (decide (x7 < (((l0 : Nat) : Int)))) (idxK a0 l0 x7 1 fun q7 =>
  ldK h q7 fun v8 =>
  gInt .u32 v8 fun x_9 =>
  letK (IntKind.u64.wrap x_9) fun n10 =>
  letK (IntKind.u64.wrap (x6 + n10)) fun n11 =>
  cond (decide (x7 < (((l1 : Nat) : Int)))) (idxK a1 l1 x7 1 fun q12 =>
  ldK h q12 fun v13 =>
  gInt .u32 v13 fun x_14 =>
  letK (IntKind.u64.wrap x_14) fun n15 =>
  letK (IntKind.u64.wrap (n11 + n15)) fun n16 =>
  letK (andI .u64 n16 4294967295) fun n17 =>
  letK (IntKind.u32.wrap n17) fun n18 =>
  boxK h 82 [.int .u32 n18] fun q19 h20 =>
  apK h20 82 T82 a5 l5 c5 (.slice (some q19) 1 1) fun a_21 l_21 c_21 h21 =>
  0 ≤ (32 : Int) ∧ letK (shrI .u64 n16 32) fun n22 =>
  letK (IntKind.i64.wrap (x7 + 1)) fun n23 =>
  N4 a0 l0 c0 a1 l1 c1 a_21 l_21 c_21 n22 n23 h21) (letK (andI .u64 n11 4294967295) fun n24 =>
  letK (IntKind.u32.wrap n24) fun n25 =>
  boxK h 82 [.int .u32 n25] fun q26 h27 =>
  apK h27 82 T82 a5 l5 c5 (.slice (some q26) 1 1) fun a_28 l_28 c_28 h28 =>
  0 ≤ (32 : Int) ∧ letK (shrI .u64 n11 32) fun n29 =>
  letK (IntKind.i64.wrap (x7 + 1)) fun n30 =>
  N4 a0 l0 c0 a1 l1 c1 a_28 l_28 c_28 n29 n30 h28)) (cond (decide (x7 < (((l1 : Nat) : Int)))) (idxK a1 l1 x7 1 fun q31 =>
  ldK h q31 fun v32 =>
  gInt .u32 v32 fun x_33 =>
  letK (IntKind.u64.wrap x_33) fun n34 =>
  letK (IntKind.u64.wrap (x6 + n34)) fun n35 =>
  letK (andI .u64 n35 4294967295) fun n36 =>
  letK (IntKind.u32.wrap n36) fun n37 =>
  boxK h 82 [.int .u32 n37] fun q38 h39 =>
  apK h39 82 T82 a5 l5 c5 (.slice (some q38) 1 1) fun a_40 l_40 c_40 h40 =>
  0 ≤ (32 : Int) ∧ letK (shrI .u64 n35 32) fun n41 =>
  letK (IntKind.i64.wrap (x7 + 1)) fun n42 =>
  N4 a0 l0 c0 a1 l1 c1 a_40 l_40 c_40 n41 n42 h40) (letK (andI .u64 x6 4294967295) fun n43 =>
  letK (IntKind.u32.wrap n43) fun n44 =>
  boxK h 82 [.int .u32 n44] fun q45 h46 =>
  apK h46 82 T82 a5 l5 c5 (.slice (some q45) 1 1) fun a_47 l_47 c_47 h47 =>
  0 ≤ (32 : Int) ∧ letK (shrI .u64 x6 32) fun n48 =>
  letK (IntKind.i64.wrap (x7 + 1)) fun n49 =>
  N4 a0 l0 c0 a1 l1 c1 a_47 l_47 c_47 n48 n49 h47))
def D6.g (R : Rt) (N4 : Option Addr → Nat → Nat → Option Addr → Nat → Nat → Option Addr → Nat → Nat → Int → Int → Hp → Prop) (fr : Fr) (h : Hp) : Prop := gSlice (fr 0) fun a0 l0 c0 => gSlice (fr 1) fun a1 l1 c1 => gSlice (fr 5) fun a5 l5 c5 => gInt .u64 (fr 6) fun x6 => gInt .i64 (fr 7) fun x7 => D6.t R N4 a0 l0 c0 a1 l1 c1 a5 l5 c5 x6 x7 h
theorem D6.ok (R : Rt) (N4 : Option Addr → Nat → Nat → Option Addr → Nat → Nat → Option Addr → Nat → Nat → Int → Int → Hp → Prop) (fr : Fr) (h : Hp) (g : D6.g R N4 fr h) : den prog E (cAt C [true, true, true, false, true, false, false, true]) (Ex.then (L4.g N4) (Ex.inBlock 0 (Ex.then (D2.g R) (retQ E [.tmp 4] R)))) fr h := by
  obtain ⟨a0, l0, c0, e0, g⟩ := gSlice_elim g
  obtain ⟨a1, l1, c1, e1, g⟩ := gSlice_elim g
  obtain ⟨a5, l5, c5, e5, g⟩ := gSlice_elim g
  obtain ⟨x6, e6, g⟩ := gInt_elim g
  obtain ⟨x7, e7, g⟩ := gInt_elim g
  exact den_enter [(0, .slice a0 l0 c0), (1, .slice a1 l1 c1), (5, .slice a5 l5 c5), (6, .int .u64 x6), (7, .int .i64 x7)] ⟨e0, e1, e5, e6, e7, trivial⟩ (by kernel_rfl) g
def D5.t (R : Rt) (N4 : Option Addr → Nat → Nat → Option Addr → Nat → Nat → Option Addr → Nat → Nat → Int → Int → Hp → Prop) (a0 : Option Addr) (l0 : Nat) (c0 : Nat) (a1 : Option Addr) (l1 : Nat) (c1 : Nat) (a5 : Option Addr) (l5 : Nat) (c5 : Nat) (x6 : Int) (x7 : Int) (h : Hp) : Prop :=
  cond (decide (x7 < (((l0 : Nat) : Int)))) (D6.t R N4 a0 l0 c0 a1 l1 c1 a5 l5 c5 x6 x7 h) (cond (decide (x7 < (((l1 : Nat) : Int)))) (D6.t R N4 a0 l0 c0 a1 l1 c1 a5 l5 c5 x6 x7 h) (cond (decide (x6 > 0)) (D6.t R N4 a0 l0 c0 a1 l1 c1 a5 l5 c5 x6 x7 h) (D2.t R a5 l5 c5 h)))
def D5.g (R : Rt) (N4 : Option Addr → Nat → Nat → Option Addr → Nat → Nat → Option Addr → Nat → Nat → Int → Int → Hp → Prop) (fr : Fr) (h : Hp) : Prop := gSlice (fr 0) fun a0 l0 c0 => gSlice (fr 1) fun a1 l1 c1 => gSlice (fr 5) fun a5 l5 c5 => gInt .u64 (fr 6) fun x6 => gInt .i64 (fr 7) fun x7 => D5.t R N4 a0 l0 c0 a1 l1 c1 a5 l5 c5 x6 x7 h
theorem D5.ok (R : Rt) (N4 : Option Addr → Nat → Nat → Option Addr → Nat → Nat → Option Addr → Nat → Nat → Int → Int → Hp → Prop) (fr : Fr) (h : Hp) (g : D5.g R N4 fr h) : den prog E (cAt C [true, true, true, false, true, false, false]) (Ex.then (L4.g N4) (Ex.inBlock 0 (Ex.then (D2.g R) (retQ E [.tmp 4] R)))) fr h := by
  obtain ⟨a0, l0, c0, e0, g⟩ := gSlice_elim g
  obtain ⟨a1, l1, c1, e1, g⟩ := gSlice_elim g
  obtain ⟨a5, l5, c5, e5, g⟩ := gSlice_elim g
  obtain ⟨x6, e6, g⟩ := gInt_elim g
  obtain ⟨x7, e7, g⟩ := gInt_elim g
  exact den_cut 1 (r := (cAt C [true, true, true, false, true, false, false, true])) (by kernel_rfl) (D6.ok R N4) (den_enter [(0, .slice a0 l0 c0), (1, .slice a1 l1 c1), (5, .slice a5 l5 c5), (6, .int .u64 x6), (7, .int .i64 x7)] ⟨e0, e1, e5, e6, e7, trivial⟩ (by kernel_rfl) g)
def L4.t (R : Rt) : Nat → Option Addr → Nat → Nat → Option Addr → Nat → Nat → Option Addr → Nat → Nat → Int → Int → Hp → Prop
  | 0 => fun _ _ _ _ _ _ _ _ _ _ _ _ => False
  | n + 1 => fun a0 l0 c0 a1 l1 c1 a5 l5 c5 x6 x7 h => D5.t R (L4.t R n) a0 l0 c0 a1 l1 c1 a5 l5 c5 x6 x7 h
theorem L4.ok (R : Rt) (fr : Fr) (h : Hp) (g : L4.g (fun a0 l0 c0 a1 l1 c1 a5 l5 c5 x6 x7 h => ∃ n, L4.t R n a0 l0 c0 a1 l1 c1 a5 l5 c5 x6 x7 h) fr h) : den prog E (cAt C [true, true, true, false, true, false]) (Ex.inBlock 0 (Ex.then (D2.g R) (retQ E [.tmp 4] R))) fr h := by
  obtain ⟨a0, l0, c0, e0, g⟩ := gSlice_elim g
  obtain ⟨a1, l1, c1, e1, g⟩ := gSlice_elim g
  obtain ⟨a5, l5, c5, e5, g⟩ := gSlice_elim g
  obtain ⟨x6, e6, g⟩ := gInt_elim g
  obtain ⟨x7, e7, g⟩ := gInt_elim g
  obtain ⟨n, g⟩ := g
  refine loop_ok (fun n => L4.g (L4.t R n)) (b := (cAt C [true, true, true, false, true, false, false])) (by kernel_rfl) (fun fr h g => ?_) (fun n => D5.ok R (L4.t R n)) n fr h (gSlice_intro e0 (gSlice_intro e1 (gSlice_intro e5 (gInt_intro e6 (gInt_intro e7 (g))))))
  obtain ⟨a0, l0, c0, e0, g⟩ := gSlice_elim g
  obtain ⟨a1, l1, c1, e1, g⟩ := gSlice_elim g
  obtain ⟨a5, l5, c5, e5, g⟩ := gSlice_elim g
  obtain ⟨x6, e6, g⟩ := gInt_elim g
  obtain ⟨x7, e7, g⟩ := gInt_elim g
  exact g
theorem B7.ok (R : Rt) (fr : Fr) (h : Hp) (g : L4.g (fun a0 l0 c0 a1 l1 c1 a5 l5 c5 x6 x7 h => ∃ n, L4.t R n a0 l0 c0 a1 l1 c1 a5 l5 c5 x6 x7 h) fr h) : den prog E (cAt C [true, true, true, false, true]) (Ex.then (D2.g R) (retQ E [.tmp 4] R)) fr h :=
  den_block (by kernel_rfl) (L4.ok R fr h g)
def D3.t (R : Rt) (a0 : Option Addr) (l0 : Nat) (c0 : Nat) (a1 : Option Addr) (l1 : Nat) (c1 : Nat) (a5 : Option Addr) (l5 : Nat) (c5 : Nat) (x6 : Int) (h : Hp) : Prop :=
  (∃ n, L4.t R n a0 l0 c0 a1 l1 c1 a5 l5 c5 x6 0 h)
def D3.g (R : Rt) (fr : Fr) (h : Hp) : Prop := gSlice (fr 0) fun a0 l0 c0 => gSlice (fr 1) fun a1 l1 c1 => gSlice (fr 5) fun a5 l5 c5 => gInt .u64 (fr 6) fun x6 => D3.t R a0 l0 c0 a1 l1 c1 a5 l5 c5 x6 h
theorem D3.ok (R : Rt) (fr : Fr) (h : Hp) (g : D3.g R fr h) : den prog E (cAt C [true, true, true, false]) (Ex.then (D2.g R) (retQ E [.tmp 4] R)) fr h := by
  obtain ⟨a0, l0, c0, e0, g⟩ := gSlice_elim g
  obtain ⟨a1, l1, c1, e1, g⟩ := gSlice_elim g
  obtain ⟨a5, l5, c5, e5, g⟩ := gSlice_elim g
  obtain ⟨x6, e6, g⟩ := gInt_elim g
  exact den_cut 1 (r := (cAt C [true, true, true, false, true])) (by kernel_rfl) (B7.ok R) (den_enter [(0, .slice a0 l0 c0), (1, .slice a1 l1 c1), (5, .slice a5 l5 c5), (6, .int .u64 x6)] ⟨e0, e1, e5, e6, trivial⟩ (by kernel_rfl) g)
theorem W8.ok (R : Rt) (fr : Fr) (h : Hp) (g : D3.g R fr h) : den prog E (cAt C [true, true, true]) (retQ E [.tmp 4] R) fr h :=
  den_then (by kernel_rfl) (D2.ok R) (D3.ok R fr h g)
def D1.t (R : Rt) (a0 : Option Addr) (l0 : Nat) (c0 : Nat) (a1 : Option Addr) (l1 : Nat) (c1 : Nat) (h : Hp) : Prop :=
  letK (IntKind.i64.wrap ((if (((l1 : Nat) : Int)) > (((l0 : Nat) : Int)) then (((l1 : Nat) : Int)) else (((l0 : Nat) : Int))) + 1)) fun n1 =>
  mkK h 82 T82 0 n1 fun q2 h3 =>
  D3.t R a0 l0 c0 a1 l1 c1 (some q2) ((0 : Int).toNat) n1.toNat 0 h3
def D1.g (R : Rt) (fr : Fr) (h : Hp) : Prop := gSlice (fr 0) fun a0 l0 c0 => gSlice (fr 1) fun a1 l1 c1 => D1.t R a0 l0 c0 a1 l1 c1 h
theorem D1.ok (R : Rt) (fr : Fr) (h : Hp) (g : D1.g R fr h) : den prog E C (retQ E [.tmp 4] R) fr h := by
  obtain ⟨a0, l0, c0, e0, g⟩ := gSlice_elim g
  obtain ⟨a1, l1, c1, e1, g⟩ := gSlice_elim g
  exact den_cut 3 (r := (cAt C [true, true, true])) (by kernel_rfl) (W8.ok R) (den_enter [(0, .slice a0 l0 c0), (1, .slice a1 l1 c1)] ⟨e0, e1, trivial⟩ (by kernel_rfl) g)
def t (a0 : Option Addr) (l0 : Nat) (c0 : Nat) (a1 : Option Addr) (l1 : Nat) (c1 : Nat) (h : Hp) (R : Rt) : Prop := D1.t R a0 l0 c0 a1 l1 c1 h
theorem ok {a0 : Option Addr} {l0 : Nat} {c0 : Nat} {a1 : Option Addr} {l1 : Nat} {c1 : Nat} {h : Hp} {R : Rt} (g : t a0 l0 c0 a1 l1 c1 h R) : HC id #[.slice a0 l0 c0, .slice a1 l1 c1] h R :=
  calls_of_den' envOk (c := C) (rs := [.tmp 4]) Try.func87 (by kernel_rfl) (by kernel_rfl) (by kernel_rfl) (args := [.slice a0 l0 c0, .slice a1 l1 c1]) (by kernel_rfl) (D1.ok R _ h (gSlice_intro rfl (gSlice_intro rfl (g))))
end gnomonref01_Add

namespace bits_Mul64
noncomputable def C : Code := bodyOf Try.f88
def D1.t (R : Rt) (x0 : Int) (x1 : Int) (h : Hp) : Prop :=
  letK (andI .u64 x0 4294967295) fun n1 =>
  0 ≤ (32 : Int) ∧ letK (shrI .u64 x0 32) fun n2 =>
  letK (andI .u64 x1 4294967295) fun n3 =>
  0 ≤ (32 : Int) ∧ letK (shrI .u64 x1 32) fun n4 =>
  letK (IntKind.u64.wrap (n1 * n3)) fun n5 =>
  letK (IntKind.u64.wrap (n2 * n3)) fun n6 =>
  0 ≤ (32 : Int) ∧ letK (shrI .u64 n5 32) fun n7 =>
  letK (IntKind.u64.wrap (n6 + n7)) fun n8 =>
  letK (andI .u64 n8 4294967295) fun n9 =>
  0 ≤ (32 : Int) ∧ letK (shrI .u64 n8 32) fun n10 =>
  letK (IntKind.u64.wrap (n1 * n4)) fun n11 =>
  letK (IntKind.u64.wrap (n9 + n11)) fun n12 =>
  letK (IntKind.u64.wrap (n2 * n4)) fun n13 =>
  letK (IntKind.u64.wrap (n13 + n10)) fun n14 =>
  0 ≤ (32 : Int) ∧ letK (shrI .u64 n12 32) fun n15 =>
  letK (IntKind.u64.wrap (n14 + n15)) fun n16 =>
  letK (IntKind.u64.wrap (x0 * x1)) fun n17 =>
  R (.tuple #[.int .u64 n16, .int .u64 n17]) h
def D1.g (R : Rt) (fr : Fr) (h : Hp) : Prop := gInt .u64 (fr 0) fun x0 => gInt .u64 (fr 1) fun x1 => D1.t R x0 x1 h
theorem D1.ok (R : Rt) (fr : Fr) (h : Hp) (g : D1.g R fr h) : den prog E C (retQ E [.tmp 4, .tmp 5] R) fr h := by
  obtain ⟨x0, e0, g⟩ := gInt_elim g
  obtain ⟨x1, e1, g⟩ := gInt_elim g
  exact den_enter [(0, .int .u64 x0), (1, .int .u64 x1)] ⟨e0, e1, trivial⟩ (by kernel_rfl) g
def t (x0 : Int) (x1 : Int) (h : Hp) (R : Rt) : Prop := D1.t R x0 x1 h
theorem ok {x0 : Int} {x1 : Int} {h : Hp} {R : Rt} (g : t x0 x1 h R) : HC id #[.int .u64 x0, .int .u64 x1] h R :=
  calls_of_den' envOk (c := C) (rs := [.tmp 4, .tmp 5]) Try.func88 (by kernel_rfl) (by kernel_rfl) (by kernel_rfl) (args := [.int .u64 x0, .int .u64 x1]) (by kernel_rfl) (D1.ok R _ h (gInt_intro rfl (gInt_intro rfl (g))))
end bits_Mul64

namespace natmul_takeAway
noncomputable def C : Code := bodyOf Try.f89
def L3.g (N : Option Addr → Nat → Nat → Int → Int → Hp → Prop) (fr : Fr) (h : Hp) : Prop := gSlice (fr 0) fun a0 l0 c0 => gInt .u64 (fr 4) fun x4 => gInt .i64 (fr 6) fun x6 => N a0 l0 c0 x4 x6 h
def D4.t (R : Rt) (N3 : Option Addr → Nat → Nat → Int → Int → Hp → Prop) (a0 : Option Addr) (l0 : Nat) (c0 : Nat) (x4 : Int) (x6 : Int) (h : Hp) : Prop :=
  cond (decide (x4 > 0)) (idxK a0 l0 x6 1 fun q1 =>
  ldK h q1 fun v2 =>
  gInt .u64 v2 fun x_3 =>
  subK x_3 0 x4 fun n4 m4 =>
  idxK a0 l0 x6 1 fun q5 =>
  stK h q5 (.int .u64 n4) fun h6 =>
  letK (IntKind.i64.wrap (x6 + 1)) fun n7 =>
  N3 a0 l0 c0 m4 n7 h6) (R (.tuple #[]) h)
def D4.g (R : Rt) (N3 : Option Addr → Nat → Nat → Int → Int → Hp → Prop) (fr : Fr) (h : Hp) : Prop := gSlice (fr 0) fun a0 l0 c0 => gInt .u64 (fr 4) fun x4 => gInt .i64 (fr 6) fun x6 => D4.t R N3 a0 l0 c0 x4 x6 h
theorem D4.ok (R : Rt) (N3 : Option Addr → Nat → Nat → Int → Int → Hp → Prop) (fr : Fr) (h : Hp) (g : D4.g R N3 fr h) : den prog E (cAt C [true, true, true, false, false]) (Ex.then (L3.g N3) (Ex.inBlock 2 (retQ E [] R))) fr h := by
  obtain ⟨a0, l0, c0, e0, g⟩ := gSlice_elim g
  obtain ⟨x4, e4, g⟩ := gInt_elim g
  obtain ⟨x6, e6, g⟩ := gInt_elim g
  exact den_enter [(0, .slice a0 l0 c0), (4, .int .u64 x4), (6, .int .i64 x6)] ⟨e0, e4, e6, trivial⟩ (by kernel_rfl) g
def L3.t (R : Rt) : Nat → Option Addr → Nat → Nat → Int → Int → Hp → Prop
  | 0 => fun _ _ _ _ _ _ => False
  | n + 1 => fun a0 l0 c0 x4 x6 h => D4.t R (L3.t R n) a0 l0 c0 x4 x6 h
theorem L3.ok (R : Rt) (fr : Fr) (h : Hp) (g : L3.g (fun a0 l0 c0 x4 x6 h => ∃ n, L3.t R n a0 l0 c0 x4 x6 h) fr h) : den prog E (cAt C [true, true, true, false]) (Ex.inBlock 2 (retQ E [] R)) fr h := by
  obtain ⟨a0, l0, c0, e0, g⟩ := gSlice_elim g
  obtain ⟨x4, e4, g⟩ := gInt_elim g
  obtain ⟨x6, e6, g⟩ := gInt_elim g
  obtain ⟨n, g⟩ := g
  refine loop_ok (fun n => L3.g (L3.t R n)) (b := (cAt C [true, true, true, false, false])) (by kernel_rfl) (fun fr h g => ?_) (fun n => D4.ok R (L3.t R n)) n fr h (gSlice_intro e0 (gInt_intro e4 (gInt_intro e6 (g))))
  obtain ⟨a0, l0, c0, e0, g⟩ := gSlice_elim g
  obtain ⟨x4, e4, g⟩ := gInt_elim g
  obtain ⟨x6, e6, g⟩ := gInt_elim g
  exact g
theorem B5.ok (R : Rt) (fr : Fr) (h : Hp) (g : L3.g (fun a0 l0 c0 x4 x6 h => ∃ n, L3.t R n a0 l0 c0 x4 x6 h) fr h) : den prog E (cAt C [true, true, true]) (retQ E [] R) fr h :=
  den_block (by kernel_rfl) (L3.ok R fr h g)
def D2.t (R : Rt) (a0 : Option Addr) (l0 : Nat) (c0 : Nat) (a1 : Option Addr) (l1 : Nat) (c1 : Nat) (x4 : Int) (h : Hp) : Prop :=
  (∃ n, L3.t R n a0 l0 c0 x4 (((l1 : Nat) : Int)) h)
def D2.g (R : Rt) (fr : Fr) (h : Hp) : Prop := gSlice (fr 0) fun a0 l0 c0 => gSlice (fr 1) fun a1 l1 c1 => gInt .u64 (fr 4) fun x4 => D2.t R a0 l0 c0 a1 l1 c1 x4 h
theorem D2.ok (R : Rt) (fr : Fr) (h : Hp) (g : D2.g R fr h) : den prog E (cAt C [true, true]) (retQ E [] R) fr h := by
  obtain ⟨a0, l0, c0, e0, g⟩ := gSlice_elim g
  obtain ⟨a1, l1, c1, e1, g⟩ := gSlice_elim g
  obtain ⟨x4, e4, g⟩ := gInt_elim g
  exact den_cut 1 (r := (cAt C [true, true, true])) (by kernel_rfl) (B5.ok R) (den_enter [(0, .slice a0 l0 c0), (1, .slice a1 l1 c1), (4, .int .u64 x4)] ⟨e0, e1, e4, trivial⟩ (by kernel_rfl) g)
def L7.g (N : Option Addr → Nat → Nat → Option Addr → Nat → Nat → Int → Int → Int → Hp → Prop) (fr : Fr) (h : Hp) : Prop := gSlice (fr 0) fun a0 l0 c0 => gSlice (fr 1) fun a1 l1 c1 => gInt .u64 (fr 4) fun x4 => gInt .i64 (fr 8) fun x8 => gInt .i64 (fr 9) fun x9 => N a0 l0 c0 a1 l1 c1 x4 x8 x9 h
def D8.t (R : Rt) (N7 : Option Addr → Nat → Nat → Option Addr → Nat → Nat → Int → Int → Int → Hp → Prop) (a0 : Option Addr) (l0 : Nat) (c0 : Nat) (a1 : Option Addr) (l1 : Nat) (c1 : Nat) (x4 : Int) (x8 : Int) (x9 : Int) (h : Hp) : Prop :=
  cond (decide (x9 < x8)) (idxK a0 l0 x9 1 fun q8 =>
  ldK h q8 fun v9 =>
  gInt .u64 v9 fun x_10 =>
  idxK a1 l1 x9 1 fun q11 =>
  ldK h q11 fun v12 =>
  gInt .u64 v12 fun x_13 =>
  subK x_10 x_13 x4 fun n14 m14 =>
  idxK a0 l0 x9 1 fun q15 =>
  stK h q15 (.int .u64 n14) fun h16 =>
  letK (IntKind.i64.wrap (x9 + 1)) fun n17 =>
  N7 a0 l0 c0 a1 l1 c1 m14 x8 n17 h16) (D2.t R a0 l0 c0 a1 l1 c1 x4 h)
def D8.g (R : Rt) (N7 : Option Addr → Nat → Nat → Option Addr → Nat → Nat → Int → Int → Int → Hp → Prop) (fr : Fr) (h : Hp) : Prop := gSlice (fr 0) fun a0 l0 c0 => gSlice (fr 1) fun a1 l1 c1 => gInt .u64 (fr 4) fun x4 => gInt .i64 (fr 8) fun x8 => gInt .i64 (fr 9) fun x9 => D8.t R N7 a0 l0 c0 a1 l1 c1 x4 x8 x9 h
theorem D8.ok (R : Rt) (N7 : Option Addr → Nat → Nat → Option Addr → Nat → Nat → Int → Int → Int → Hp → Prop) (fr : Fr) (h : Hp) (g : D8.g R N7 fr h) : den prog E (cAt C [true, false, true, false, false]) (Ex.then (L7.g N7) (Ex.inBlock 0 (Ex.then (D2.g R) (retQ E [] R)))) fr h := by
  obtain ⟨a0, l0, c0, e0, g⟩ := gSlice_elim g
  obtain ⟨a1, l1, c1, e1, g⟩ := gSlice_elim g
  obtain ⟨x4, e4, g⟩ := gInt_elim g
  obtain ⟨x8, e8, g⟩ := gInt_elim g
  obtain ⟨x9, e9, g⟩ := gInt_elim g
  exact den_enter [(0, .slice a0 l0 c0), (1, .slice a1 l1 c1), (4, .int .u64 x4), (8, .int .i64 x8), (9, .int .i64 x9)] ⟨e0, e1, e4, e8, e9, trivial⟩ (by kernel_rfl) g
def L7.t (R : Rt) : Nat → Option Addr → Nat → Nat → Option Addr → Nat → Nat → Int → Int → Int → Hp → Prop
  | 0 => fun _ _ _ _ _ _ _ _ _ _ => False
  | n + 1 => fun a0 l0 c0 a1 l1 c1 x4 x8 x9 h => D8.t R (L7.t R n) a0 l0 c0 a1 l1 c1 x4 x8 x9 h
theorem L7.ok (R : Rt) (fr : Fr) (h : Hp) (g : L7.g (fun a0 l0 c0 a1 l1 c1 x4 x8 x9 h => ∃ n, L7.t R n a0 l0 c0 a1 l1 c1 x4 x8 x9 h) fr h) : den prog E (cAt C [true, false, true, false]) (Ex.inBlock 0 (Ex.then (D2.g R) (retQ E [] R))) fr h := by
  obtain ⟨a0, l0, c0, e0, g⟩ := gSlice_elim g
  obtain ⟨a1, l1, c1, e1, g⟩ := gSlice_elim g
  obtain ⟨x4, e4, g⟩ := gInt_elim g
  obtain ⟨x8, e8, g⟩ := gInt_elim g
  obtain ⟨x9, e9, g⟩ := gInt_elim g
  obtain ⟨n, g⟩ := g
  refine loop_ok (fun n => L7.g (L7.t R n)) (b := (cAt C [true, false, true, false, false])) (by kernel_rfl) (fun fr h g => ?_) (fun n => D8.ok R (L7.t R n)) n fr h (gSlice_intro e0 (gSlice_intro e1 (gInt_intro e4 (gInt_intro e8 (gInt_intro e9 (g))))))
  obtain ⟨a0, l0, c0, e0, g⟩ := gSlice_elim g
  obtain ⟨a1, l1, c1, e1, g⟩ := gSlice_elim g
  obtain ⟨x4, e4, g⟩ := gInt_elim g
  obtain ⟨x8, e8, g⟩ := gInt_elim g
  obtain ⟨x9, e9, g⟩ := gInt_elim g
  exact g
theorem B9.ok (R : Rt) (fr : Fr) (h : Hp) (g : L7.g (fun a0 l0 c0 a1 l1 c1 x4 x8 x9 h => ∃ n, L7.t R n a0 l0 c0 a1 l1 c1 x4 x8 x9 h) fr h) : den prog E (cAt C [true, false, true]) (Ex.then (D2.g R) (retQ E [] R)) fr h :=
  den_block (by kernel_rfl) (L7.ok R fr h g)
def D6.t (R : Rt) (a0 : Option Addr) (l0 : Nat) (c0 : Nat) (a1 : Option Addr) (l1 : Nat) (c1 : Nat) (x4 : Int) (h : Hp) : Prop :=
  (∃ n, L7.t R n a0 l0 c0 a1 l1 c1 x4 (((l1 : Nat) : Int)) 0 h)
def D6.g (R : Rt) (fr : Fr) (h : Hp) : Prop := gSlice (fr 0) fun a0 l0 c0 => gSlice (fr 1) fun a1 l1 c1 => gInt .u64 (fr 4) fun x4 => D6.t R a0 l0 c0 a1 l1 c1 x4 h
theorem D6.ok (R : Rt) (fr : Fr) (h : Hp) (g : D6.g R fr h) : den prog E (cAt C [true, false]) (Ex.then (D2.g R) (retQ E [] R)) fr h := by
  obtain ⟨a0, l0, c0, e0, g⟩ := gSlice_elim g
  obtain ⟨a1, l1, c1, e1, g⟩ := gSlice_elim g
  obtain ⟨x4, e4, g⟩ := gInt_elim g
  exact den_cut 1 (r := (cAt C [true, false, true])) (by kernel_rfl) (B9.ok R) (den_enter [(0, .slice a0 l0 c0), (1, .slice a1 l1 c1), (4, .int .u64 x4)] ⟨e0, e1, e4, trivial⟩ (by kernel_rfl) g)
theorem W10.ok (R : Rt) (fr : Fr) (h : Hp) (g : D6.g R fr h) : den prog E (cAt C [true]) (retQ E [] R) fr h :=
  den_then (by kernel_rfl) (D2.ok R) (D6.ok R fr h g)
def D1.t (R : Rt) (a0 : Option Addr) (l0 : Nat) (c0 : Nat) (a1 : Option Addr) (l1 : Nat) (c1 : Nat) (h : Hp) : Prop :=
  D6.t R a0 l0 c0 a1 l1 c1 0 h
def D1.g (R : Rt) (fr : Fr) (h : Hp) : Prop := gSlice (fr 0) fun a0 l0 c0 => gSlice (fr 1) fun a1 l1 c1 => D1.t R a0 l0 c0 a1 l1 c1 h
theorem D1.ok (R : Rt) (fr : Fr) (h : Hp) (g : D1.g R fr h) : den prog E C (retQ E [] R) fr h := by
  obtain ⟨a0, l0, c0, e0, g⟩ := gSlice_elim g
  obtain ⟨a1, l1, c1, e1, g⟩ := gSlice_elim g
  exact den_cut 1 (r := (cAt C [true])) (by kernel_rfl) (W10.ok R) (den_enter [(0, .slice a0 l0 c0), (1, .slice a1 l1 c1)] ⟨e0, e1, trivial⟩ (by kernel_rfl) g)
def t (a0 : Option Addr) (l0 : Nat) (c0 : Nat) (a1 : Option Addr) (l1 : Nat) (c1 : Nat) (h : Hp) (R : Rt) : Prop := D1.t R a0 l0 c0 a1 l1 c1 h
theorem ok {a0 : Option Addr} {l0 : Nat} {c0 : Nat} {a1 : Option Addr} {l1 : Nat} {c1 : Nat} {h : Hp} {R : Rt} (g : t a0 l0 c0 a1 l1 c1 h R) : HC id #[.slice a0 l0 c0, .slice a1 l1 c1] h R :=
  calls_of_den' envOk (c := C) (rs := []) Try.func89 (by kernel_rfl) (by kernel_rfl) (by kernel_rfl) (args := [.slice a0 l0 c0, .slice a1 l1 c1]) (by kernel_rfl) (D1.ok R _ h (gSlice_intro rfl (gSlice_intro rfl (g))))
end natmul_takeAway

namespace gnomonref01_DivSmall
noncomputable def C : Code := bodyOf Try.f90
def D2.t (R : Rt) (a6 : Option Addr) (l6 : Nat) (c6 : Nat) (x7 : Int) (h : Hp) : Prop :=
  HC gnomonref01_Norm.id #[.slice a6 l6 c6] h fun v6 h7 =>
  gSlice v6 fun a_8 l_8 c_8 =>
  letK (IntKind.u32.wrap x7) fun n9 =>
  R (.tuple #[.slice a_8 l_8 c_8, .int .u32 n9]) h7
def D2.g (R : Rt) (fr : Fr) (h : Hp) : Prop := gSlice (fr 6) fun a6 l6 c6 => gInt .u64 (fr 7) fun x7 => D2.t R a6 l6 c6 x7 h
theorem D2.ok (R : Rt) (fr : Fr) (h : Hp) (g : D2.g R fr h) : den prog E (cAt C [true, true, true, true, true]) (retQ E [.tmp 4, .tmp 5] R) fr h := by
  obtain ⟨a6, l6, c6, e6, g⟩ := gSlice_elim g
  obtain ⟨x7, e7, g⟩ := gInt_elim g
  exact den_enter [(6, .slice a6 l6 c6), (7, .int .u64 x7)] ⟨e6, e7, trivial⟩ (by kernel_rfl) g
def L4.g (N : Option Addr → Nat → Nat → Int → Option Addr → Nat → Nat → Int → Int → Hp → Prop) (fr : Fr) (h : Hp) : Prop := gSlice (fr 0) fun a0 l0 c0 => gInt .u32 (fr 1) fun x1 => gSlice (fr 6) fun a6 l6 c6 => gInt .u64 (fr 7) fun x7 => gInt .i64 (fr 8) fun x8 => N a0 l0 c0 x1 a6 l6 c6 x7 x8 h
def D5.t (R : Rt) (N4 : Option Addr → Nat → Nat → Int → Option Addr → Nat → Nat → Int → Int → Hp → Prop) (a0 : Option Addr) (l0 : Nat) (c0 : Nat) (x1 : Int) (a6 : Option Addr) (l6 : Nat) (c6 : Nat) (x7 : Int) (x8 : Int) (h : Hp) : Prop :=
  cond (decide (x8 ≥ 0)) (0 ≤ (32 : Int) ∧ letK (shlI .u64 x7 32) fun n11 =>
  idxK a0 l0 x8 1 fun q12 =>
  ldK h q12 fun v13 =>
  gInt .u32 v13 fun x_14 =>
  letK (IntKind.u64.wrap x_14) fun n15 =>
  letK (IntKind.u64.wrap (n11 + n15)) fun n16 =>
  letK (IntKind.u64.wrap x1) fun n17 =>
  n17 ≠ 0 ∧ letK (IntKind.u64.wrap (Int.tdiv n16 n17)) fun n18 =>
  letK (IntKind.u32.wrap n18) fun n19 =>
  idxK a6 l6 x8 1 fun q20 =>
  stK h q20 (.int .u32 n19) fun h21 =>
  letK (IntKind.u64.wrap x1) fun n22 =>
  n22 ≠ 0 ∧ letK (Int.tmod n16 n22) fun n23 =>
  letK (IntKind.i64.wrap (x8 - 1)) fun n24 =>
  N4 a0 l0 c0 x1 a6 l6 c6 n23 n24 h21) (D2.t R a6 l6 c6 x7 h)
def D5.g (R : Rt) (N4 : Option Addr → Nat → Nat → Int → Option Addr → Nat → Nat → Int → Int → Hp → Prop) (fr : Fr) (h : Hp) : Prop := gSlice (fr 0) fun a0 l0 c0 => gInt .u32 (fr 1) fun x1 => gSlice (fr 6) fun a6 l6 c6 => gInt .u64 (fr 7) fun x7 => gInt .i64 (fr 8) fun x8 => D5.t R N4 a0 l0 c0 x1 a6 l6 c6 x7 x8 h
theorem D5.ok (R : Rt) (N4 : Option Addr → Nat → Nat → Int → Option Addr → Nat → Nat → Int → Int → Hp → Prop) (fr : Fr) (h : Hp) (g : D5.g R N4 fr h) : den prog E (cAt C [true, true, true, true, false, true, false, false]) (Ex.then (L4.g N4) (Ex.inBlock 0 (Ex.then (D2.g R) (retQ E [.tmp 4, .tmp 5] R)))) fr h := by
  obtain ⟨a0, l0, c0, e0, g⟩ := gSlice_elim g
  obtain ⟨x1, e1, g⟩ := gInt_elim g
  obtain ⟨a6, l6, c6, e6, g⟩ := gSlice_elim g
  obtain ⟨x7, e7, g⟩ := gInt_elim g
  obtain ⟨x8, e8, g⟩ := gInt_elim g
  exact den_enter [(0, .slice a0 l0 c0), (1, .int .u32 x1), (6, .slice a6 l6 c6), (7, .int .u64 x7), (8, .int .i64 x8)] ⟨e0, e1, e6, e7, e8, trivial⟩ (by kernel_rfl) g
def L4.t (R : Rt) : Nat → Option Addr → Nat → Nat → Int → Option Addr → Nat → Nat → Int → Int → Hp → Prop
  | 0 => fun _ _ _ _ _ _ _ _ _ _ => False
  | n + 1 => fun a0 l0 c0 x1 a6 l6 c6 x7 x8 h => D5.t R (L4.t R n) a0 l0 c0 x1 a6 l6 c6 x7 x8 h
theorem L4.ok (R : Rt) (fr : Fr) (h : Hp) (g : L4.g (fun a0 l0 c0 x1 a6 l6 c6 x7 x8 h => ∃ n, L4.t R n a0 l0 c0 x1 a6 l6 c6 x7 x8 h) fr h) : den prog E (cAt C [true, true, true, true, false, true, false]) (Ex.inBlock 0 (Ex.then (D2.g R) (retQ E [.tmp 4, .tmp 5] R))) fr h := by
  obtain ⟨a0, l0, c0, e0, g⟩ := gSlice_elim g
  obtain ⟨x1, e1, g⟩ := gInt_elim g
  obtain ⟨a6, l6, c6, e6, g⟩ := gSlice_elim g
  obtain ⟨x7, e7, g⟩ := gInt_elim g
  obtain ⟨x8, e8, g⟩ := gInt_elim g
  obtain ⟨n, g⟩ := g
  refine loop_ok (fun n => L4.g (L4.t R n)) (b := (cAt C [true, true, true, true, false, true, false, false])) (by kernel_rfl) (fun fr h g => ?_) (fun n => D5.ok R (L4.t R n)) n fr h (gSlice_intro e0 (gInt_intro e1 (gSlice_intro e6 (gInt_intro e7 (gInt_intro e8 (g))))))
  obtain ⟨a0, l0, c0, e0, g⟩ := gSlice_elim g
  obtain ⟨x1, e1, g⟩ := gInt_elim g
  obtain ⟨a6, l6, c6, e6, g⟩ := gSlice_elim g
  obtain ⟨x7, e7, g⟩ := gInt_elim g
  obtain ⟨x8, e8, g⟩ := gInt_elim g
  exact g
theorem B6.ok (R : Rt) (fr : Fr) (h : Hp) (g : L4.g (fun a0 l0 c0 x1 a6 l6 c6 x7 x8 h => ∃ n, L4.t R n a0 l0 c0 x1 a6 l6 c6 x7 x8 h) fr h) : den prog E (cAt C [true, true, true, true, false, true]) (Ex.then (D2.g R) (retQ E [.tmp 4, .tmp 5] R)) fr h :=
  den_block (by kernel_rfl) (L4.ok R fr h g)
def D3.t (R : Rt) (a0 : Option Addr) (l0 : Nat) (c0 : Nat) (x1 : Int) (a6 : Option Addr) (l6 : Nat) (c6 : Nat) (x7 : Int) (h : Hp) : Prop :=
  letK (IntKind.i64.wrap ((((l0 : Nat) : Int)) - 1)) fun n10 => (∃ n, L4.t R n a0 l0 c0 x1 a6 l6 c6 x7 n10 h)
def D3.g (R : Rt) (fr : Fr) (h : Hp) : Prop := gSlice (fr 0) fun a0 l0 c0 => gInt .u32 (fr 1) fun x1 => gSlice (fr 6) fun a6 l6 c6 => gInt .u64 (fr 7) fun x7 => D3.t R a0 l0 c0 x1 a6 l6 c6 x7 h
theorem D3.ok (R : Rt) (fr : Fr) (h : Hp) (g : D3.g R fr h) : den prog E (cAt C [true, true, true, true, false]) (Ex.then (D2.g R) (retQ E [.tmp 4, .tmp 5] R)) fr h := by
  obtain ⟨a0, l0, c0, e0, g⟩ := gSlice_elim g
  obtain ⟨x1, e1, g⟩ := gInt_elim g
  obtain ⟨a6, l6, c6, e6, g⟩ := gSlice_elim g
  obtain ⟨x7, e7, g⟩ := gInt_elim g
  exact den_cut 1 (r := (cAt C [true, true, true, true, false, true])) (by kernel_rfl) (B6.ok R) (den_enter [(0, .slice a0 l0 c0), (1, .int .u32 x1), (6, .slice a6 l6 c6), (7, .int .u64 x7)] ⟨e0, e1, e6, e7, trivial⟩ (by kernel_rfl) g)
theorem W7.ok (R : Rt) (fr : Fr) (h : Hp) (g : D3.g R fr h) : den prog E (cAt C [true, true, true, true]) (retQ E [.tmp 4, .tmp 5] R) fr h :=
  den_then (by kernel_rfl) (D2.ok R) (D3.ok R fr h g)
def D1.t (R : Rt) (a0 : Option Addr) (l0 : Nat) (c0 : Nat) (x1 : Int) (h : Hp) : Prop :=
  cond (x1 == 0) (HC gnomonref01_Word.id #[.int .u64 0] h fun v1 h2 =>
  gSlice v1 fun a_3 l_3 c_3 =>
  R (.tuple #[.slice a_3 l_3 c_3, .int .u32 0]) h2) (mkK h 82 T82 (((l0 : Nat) : Int)) (((l0 : Nat) : Int)) fun q4 h5 =>
  D3.t R a0 l0 c0 x1 (some q4) ((((l0 : Nat) : Int)).toNat) ((((l0 : Nat) : Int)).toNat) 0 h5)
def D1.g (R : Rt) (fr : Fr) (h : Hp) : Prop := gSlice (fr 0) fun a0 l0 c0 => gInt .u32 (fr 1) fun x1 => D1.t R a0 l0 c0 x1 h
theorem D1.ok (R : Rt) (fr : Fr) (h : Hp) (g : D1.g R fr h) : den prog E C (retQ E [.tmp 4, .tmp 5] R) fr h := by
  obtain ⟨a0, l0, c0, e0, g⟩ := gSlice_elim g
  obtain ⟨x1, e1, g⟩ := gInt_elim g
  exact den_cut 4 (r := (cAt C [true, true, true, true])) (by kernel_rfl) (W7.ok R) (den_enter [(0, .slice a0 l0 c0), (1, .int .u32 x1)] ⟨e0, e1, trivial⟩ (by kernel_rfl) g)
def t (a0 : Option Addr) (l0 : Nat) (c0 : Nat) (x1 : Int) (h : Hp) (R : Rt) : Prop := D1.t R a0 l0 c0 x1 h
theorem ok {a0 : Option Addr} {l0 : Nat} {c0 : Nat} {x1 : Int} {h : Hp} {R : Rt} (g : t a0 l0 c0 x1 h R) : HC id #[.slice a0 l0 c0, .int .u32 x1] h R :=
  calls_of_den' envOk (c := C) (rs := [.tmp 4, .tmp 5]) Try.func90 (by kernel_rfl) (by kernel_rfl) (by kernel_rfl) (args := [.slice a0 l0 c0, .int .u32 x1]) (by kernel_rfl) (D1.ok R _ h (gSlice_intro rfl (gInt_intro rfl (g))))
end gnomonref01_DivSmall

end Go.Proofs.Ytidpnpcnjfbjfaa.G
