/- Texts of this work, joined: Fp0. -/
import Derived.Test.YtdpkfipkjdlmlaaKE
/- Functions of the translation as predicates over heaps, and that their calls do so. Written by a program of this work. -/
namespace Go.Proofs.Ytdpkfipkjdlmlaa.G
open Go.Gv
set_option linter.unusedVariables false
set_option maxRecDepth 100000

namespace gnomonlaw03_NatdivTexts
noncomputable def C : Code := bodyOf Try.f4
def D1.t (R : Rt) (a0 : Option Addr) (l0 : Nat) (c0 : Nat) (h : Hp) : Prop :=
  boxK h 27 [.int .u64 0, .int .u64 1] fun q1 h2 =>
  HC natdiv_Text.id #[.slice (some q1) 2 2] h2 fun v3 h4 =>
  gTup v3 fun y5 =>
  uncons y5 fun v6 y6 =>
  gStr v6 fun s_7 =>
  uncons y6 fun v8 y8 =>
  gInt .i64 v8 fun x_9 =>
  unnil y8 <| cond (x_9 == 0) (cond (s_7.toList == (⟨#[49, 56, 52, 52, 54, 55, 52, 52, 48, 55, 51, 55, 48, 57, 53, 53, 49, 54, 49, 54]⟩ : ByteArray).toList) (HC gnomonlaw03_text.id #[.slice a0 l0 c0] h4 fun v10 h11 =>
  gBool v10 fun b_12 =>
  R (.bool b_12) h11) (R (.bool false) h4)) (R (.bool false) h4)
def D1.g (R : Rt) (fr : Fr) (h : Hp) : Prop := gSlice (fr 0) fun a0 l0 c0 => D1.t R a0 l0 c0 h
theorem D1.ok (R : Rt) (fr : Fr) (h : Hp) (g : D1.g R fr h) : den prog E C (retQ E [.tmp 2] R) fr h := by
  obtain ⟨a0, l0, c0, e0, g⟩ := gSlice_elim g
  exact den_enter [(0, .slice a0 l0 c0)] ⟨e0, trivial⟩ (by kernel_rfl) g
def t (a0 : Option Addr) (l0 : Nat) (c0 : Nat) (h : Hp) (R : Rt) : Prop := D1.t R a0 l0 c0 h
theorem ok {a0 : Option Addr} {l0 : Nat} {c0 : Nat} {h : Hp} {R : Rt} (g : t a0 l0 c0 h R) : HC id #[.slice a0 l0 c0] h R :=
  calls_of_den' envOk (c := C) (rs := [.tmp 2]) Try.func4 (by kernel_rfl) (by kernel_rfl) (by kernel_rfl) (args := [.slice a0 l0 c0]) (by kernel_rfl) (D1.ok R _ h (gSlice_intro rfl (g)))
end gnomonlaw03_NatdivTexts









namespace natdiv_Text
noncomputable def C : Code := bodyOf Try.f16
def D3.t (R : Rt) (q8 : Addr) (h : Hp) : Prop :=
  HC strings_Builder_Len.id #[.pointer (some q8)] h fun v9 h10 =>
  gInt .i64 v9 fun x_11 =>
  cond (x_11 == 0) (R (.tuple #[.string (⟨#[48]⟩ : ByteArray), .int .i64 0]) h10) (HC strings_Builder_Len.id #[.pointer (some q8)] h10 fun v12 h13 =>
  gInt .i64 v12 fun x_14 =>
  cond (decide (x_14 > 4900)) (R (.tuple #[.string (⟨#[]⟩ : ByteArray), .int .i64 5]) h13) (HC strings_Builder_String.id #[.pointer (some q8)] h13 fun v15 h16 =>
  gStr v15 fun s_17 =>
  R (.tuple #[.string s_17, .int .i64 0]) h16))
def D3.g (R : Rt) (fr : Fr) (h : Hp) : Prop := gPtrS (fr 8) fun q8 => D3.t R q8 h
theorem D3.ok (R : Rt) (fr : Fr) (h : Hp) (g : D3.g R fr h) : den prog E (cAt C [true, true, true, true, true, true, true]) (retQ E [.tmp 2, .tmp 3] R) fr h := by
  obtain ⟨q8, e8, g⟩ := gPtrS_elim g
  exact den_enter [(8, .pointer (some q8))] ⟨e8, trivial⟩ (by kernel_rfl) g
def L5.g (N : Option Addr → Nat → Nat → Addr → Int → Int → Hp → Prop) (fr : Fr) (h : Hp) : Prop := gSlice (fr 4) fun a4 l4 c4 => gPtrS (fr 8) fun q8 => gInt .i64 (fr 40) fun x40 => gInt .i64 (fr 41) fun x41 => N a4 l4 c4 q8 x40 x41 h
def D6.t (R : Rt) (N5 : Option Addr → Nat → Nat → Addr → Int → Int → Hp → Prop) (a4 : Option Addr) (l4 : Nat) (c4 : Nat) (q8 : Addr) (x40 : Int) (x41 : Int) (h : Hp) : Prop :=
  cond (decide (x41 < x40)) (letK (IntKind.i64.wrap ((((l4 : Nat) : Int)) - 1)) fun n18 =>
  letK (IntKind.i64.wrap (n18 - x41)) fun n19 =>
  idxK a4 l4 n19 1 fun q20 =>
  ldK h q20 fun v21 =>
  gInt .u8 v21 fun x_22 =>
  cond (x_22 != 48) (HC strings_Builder_WriteByte.id #[.pointer (some q8), .int .u8 x_22] h fun v23 h24 =>
  letK (IntKind.i64.wrap (x41 + 1)) fun n25 =>
  N5 a4 l4 c4 q8 x40 n25 h24) (HC strings_Builder_Len.id #[.pointer (some q8)] h fun v26 h27 =>
  gInt .i64 v26 fun x_28 =>
  cond (decide (x_28 > 0)) (HC strings_Builder_WriteByte.id #[.pointer (some q8), .int .u8 x_22] h27 fun v29 h30 =>
  letK (IntKind.i64.wrap (x41 + 1)) fun n31 =>
  N5 a4 l4 c4 q8 x40 n31 h30) (letK (IntKind.i64.wrap (x41 + 1)) fun n32 =>
  N5 a4 l4 c4 q8 x40 n32 h27))) (D3.t R q8 h)
def D6.g (R : Rt) (N5 : Option Addr → Nat → Nat → Addr → Int → Int → Hp → Prop) (fr : Fr) (h : Hp) : Prop := gSlice (fr 4) fun a4 l4 c4 => gPtrS (fr 8) fun q8 => gInt .i64 (fr 40) fun x40 => gInt .i64 (fr 41) fun x41 => D6.t R N5 a4 l4 c4 q8 x40 x41 h
theorem D6.ok (R : Rt) (N5 : Option Addr → Nat → Nat → Addr → Int → Int → Hp → Prop) (fr : Fr) (h : Hp) (g : D6.g R N5 fr h) : den prog E (cAt C [true, true, true, true, true, true, false, true, false, false]) (Ex.then (L5.g N5) (Ex.inBlock 4 (Ex.then (D3.g R) (retQ E [.tmp 2, .tmp 3] R)))) fr h := by
  obtain ⟨a4, l4, c4, e4, g⟩ := gSlice_elim g
  obtain ⟨q8, e8, g⟩ := gPtrS_elim g
  obtain ⟨x40, e40, g⟩ := gInt_elim g
  obtain ⟨x41, e41, g⟩ := gInt_elim g
  exact den_enter [(4, .slice a4 l4 c4), (8, .pointer (some q8)), (40, .int .i64 x40), (41, .int .i64 x41)] ⟨e4, e8, e40, e41, trivial⟩ (by kernel_rfl) g
def L5.t (R : Rt) : Nat → Option Addr → Nat → Nat → Addr → Int → Int → Hp → Prop
  | 0 => fun _ _ _ _ _ _ _ => False
  | n + 1 => fun a4 l4 c4 q8 x40 x41 h => D6.t R (L5.t R n) a4 l4 c4 q8 x40 x41 h
theorem L5.ok (R : Rt) (fr : Fr) (h : Hp) (g : L5.g (fun a4 l4 c4 q8 x40 x41 h => ∃ n, L5.t R n a4 l4 c4 q8 x40 x41 h) fr h) : den prog E (cAt C [true, true, true, true, true, true, false, true, false]) (Ex.inBlock 4 (Ex.then (D3.g R) (retQ E [.tmp 2, .tmp 3] R))) fr h := by
  obtain ⟨a4, l4, c4, e4, g⟩ := gSlice_elim g
  obtain ⟨q8, e8, g⟩ := gPtrS_elim g
  obtain ⟨x40, e40, g⟩ := gInt_elim g
  obtain ⟨x41, e41, g⟩ := gInt_elim g
  obtain ⟨n, g⟩ := g
  refine loop_ok (fun n => L5.g (L5.t R n)) (b := (cAt C [true, true, true, true, true, true, false, true, false, false])) (by kernel_rfl) (fun fr h g => ?_) (fun n => D6.ok R (L5.t R n)) n fr h (gSlice_intro e4 (gPtrS_intro e8 (gInt_intro e40 (gInt_intro e41 (g)))))
  obtain ⟨a4, l4, c4, e4, g⟩ := gSlice_elim g
  obtain ⟨q8, e8, g⟩ := gPtrS_elim g
  obtain ⟨x40, e40, g⟩ := gInt_elim g
  obtain ⟨x41, e41, g⟩ := gInt_elim g
  exact g
theorem B7.ok (R : Rt) (fr : Fr) (h : Hp) (g : L5.g (fun a4 l4 c4 q8 x40 x41 h => ∃ n, L5.t R n a4 l4 c4 q8 x40 x41 h) fr h) : den prog E (cAt C [true, true, true, true, true, true, false, true]) (Ex.then (D3.g R) (retQ E [.tmp 2, .tmp 3] R)) fr h :=
  den_block (by kernel_rfl) (L5.ok R fr h g)
def D4.t (R : Rt) (a4 : Option Addr) (l4 : Nat) (c4 : Nat) (q8 : Addr) (h : Hp) : Prop :=
  (∃ n, L5.t R n a4 l4 c4 q8 (((l4 : Nat) : Int)) 0 h)
def D4.g (R : Rt) (fr : Fr) (h : Hp) : Prop := gSlice (fr 4) fun a4 l4 c4 => gPtrS (fr 8) fun q8 => D4.t R a4 l4 c4 q8 h
theorem D4.ok (R : Rt) (fr : Fr) (h : Hp) (g : D4.g R fr h) : den prog E (cAt C [true, true, true, true, true, true, false]) (Ex.then (D3.g R) (retQ E [.tmp 2, .tmp 3] R)) fr h := by
  obtain ⟨a4, l4, c4, e4, g⟩ := gSlice_elim g
  obtain ⟨q8, e8, g⟩ := gPtrS_elim g
  exact den_cut 1 (r := (cAt C [true, true, true, true, true, true, false, true])) (by kernel_rfl) (B7.ok R) (den_enter [(4, .slice a4 l4 c4), (8, .pointer (some q8))] ⟨e4, e8, trivial⟩ (by kernel_rfl) g)
theorem W8.ok (R : Rt) (fr : Fr) (h : Hp) (g : D4.g R fr h) : den prog E (cAt C [true, true, true, true, true, true]) (retQ E [.tmp 2, .tmp 3] R) fr h :=
  den_then (by kernel_rfl) (D3.ok R) (D4.ok R fr h g)
def D2.t (R : Rt) (a4 : Option Addr) (l4 : Nat) (c4 : Nat) (h : Hp) : Prop :=
  boxK h 70 T70.zs fun q7 h8 => D4.t R a4 l4 c4 q7 h8
def D2.g (R : Rt) (fr : Fr) (h : Hp) : Prop := gSlice (fr 4) fun a4 l4 c4 => D2.t R a4 l4 c4 h
theorem D2.ok (R : Rt) (fr : Fr) (h : Hp) (g : D2.g R fr h) : den prog E (cAt C [true, true, true, true, true]) (retQ E [.tmp 2, .tmp 3] R) fr h := by
  obtain ⟨a4, l4, c4, e4, g⟩ := gSlice_elim g
  exact den_cut 1 (r := (cAt C [true, true, true, true, true, true])) (by kernel_rfl) (W8.ok R) (den_enter [(4, .slice a4 l4 c4)] ⟨e4, trivial⟩ (by kernel_rfl) g)
def L9.g (N : Option Addr → Nat → Nat → Option Addr → Nat → Nat → Hp → Prop) (fr : Fr) (h : Hp) : Prop := gSlice (fr 0) fun a0 l0 c0 => gSlice (fr 4) fun a4 l4 c4 => N a0 l0 c0 a4 l4 c4 h
def D12.t (R : Rt) (N9 : Option Addr → Nat → Nat → Option Addr → Nat → Nat → Hp → Prop) (a4 : Option Addr) (l4 : Nat) (c4 : Nat) (a5 : Option Addr) (l5 : Nat) (c5 : Nat) (h : Hp) : Prop :=
  N9 a5 l5 c5 a4 l4 c4 h
def D12.g (R : Rt) (N9 : Option Addr → Nat → Nat → Option Addr → Nat → Nat → Hp → Prop) (fr : Fr) (h : Hp) : Prop := gSlice (fr 4) fun a4 l4 c4 => gSlice (fr 5) fun a5 l5 c5 => D12.t R N9 a4 l4 c4 a5 l5 c5 h
theorem D12.ok (R : Rt) (N9 : Option Addr → Nat → Nat → Option Addr → Nat → Nat → Hp → Prop) (fr : Fr) (h : Hp) (g : D12.g R N9 fr h) : den prog E (cAt C [true, true, true, true, false, false, false, true, false, true, true]) (Ex.inBlock 1 (Ex.then (L9.g N9) (Ex.inBlock 0 (Ex.then (D2.g R) (retQ E [.tmp 2, .tmp 3] R))))) fr h := by
  obtain ⟨a4, l4, c4, e4, g⟩ := gSlice_elim g
  obtain ⟨a5, l5, c5, e5, g⟩ := gSlice_elim g
  exact den_enter [(4, .slice a4 l4 c4), (5, .slice a5 l5 c5)] ⟨e4, e5, trivial⟩ (by kernel_rfl) g
def L14.g (N : Option Addr → Nat → Nat → Option Addr → Nat → Nat → Int → Int → Hp → Prop) (fr : Fr) (h : Hp) : Prop := gSlice (fr 4) fun a4 l4 c4 => gSlice (fr 5) fun a5 l5 c5 => gInt .u64 (fr 6) fun x6 => gInt .i64 (fr 26) fun x26 => N a4 l4 c4 a5 l5 c5 x6 x26 h
def D15.t (R : Rt) (N9 : Option Addr → Nat → Nat → Option Addr → Nat → Nat → Hp → Prop) (N14 : Option Addr → Nat → Nat → Option Addr → Nat → Nat → Int → Int → Hp → Prop) (a4 : Option Addr) (l4 : Nat) (c4 : Nat) (a5 : Option Addr) (l5 : Nat) (c5 : Nat) (x6 : Int) (x26 : Int) (h : Hp) : Prop :=
  cond (decide (x26 < 19)) ((10 : Int) ≠ 0 ∧ letK (Int.tmod x6 10) fun n42 =>
  letK (IntKind.u64.wrap (48 + n42)) fun n43 =>
  letK (IntKind.u8.wrap n43) fun n44 =>
  boxK h 5 [.int .u8 n44] fun q45 h46 =>
  apK h46 5 T5 a4 l4 c4 (.slice (some q45) 1 1) fun a_47 l_47 c_47 h47 =>
  (10 : Int) ≠ 0 ∧ letK (IntKind.u64.wrap (Int.tdiv x6 10)) fun n48 =>
  letK (IntKind.i64.wrap (x26 + 1)) fun n49 =>
  N14 a_47 l_47 c_47 a5 l5 c5 n48 n49 h47) (D12.t R N9 a4 l4 c4 a5 l5 c5 h)
def D15.g (R : Rt) (N9 : Option Addr → Nat → Nat → Option Addr → Nat → Nat → Hp → Prop) (N14 : Option Addr → Nat → Nat → Option Addr → Nat → Nat → Int → Int → Hp → Prop) (fr : Fr) (h : Hp) : Prop := gSlice (fr 4) fun a4 l4 c4 => gSlice (fr 5) fun a5 l5 c5 => gInt .u64 (fr 6) fun x6 => gInt .i64 (fr 26) fun x26 => D15.t R N9 N14 a4 l4 c4 a5 l5 c5 x6 x26 h
theorem D15.ok (R : Rt) (N9 : Option Addr → Nat → Nat → Option Addr → Nat → Nat → Hp → Prop) (N14 : Option Addr → Nat → Nat → Option Addr → Nat → Nat → Int → Int → Hp → Prop) (fr : Fr) (h : Hp) (g : D15.g R N9 N14 fr h) : den prog E (cAt C [true, true, true, true, false, false, false, true, false, true, false, true, false, false]) (Ex.then (L14.g N14) (Ex.inBlock 2 (Ex.then (D12.g R N9) (Ex.inBlock 1 (Ex.then (L9.g N9) (Ex.inBlock 0 (Ex.then (D2.g R) (retQ E [.tmp 2, .tmp 3] R)))))))) fr h := by
  obtain ⟨a4, l4, c4, e4, g⟩ := gSlice_elim g
  obtain ⟨a5, l5, c5, e5, g⟩ := gSlice_elim g
  obtain ⟨x6, e6, g⟩ := gInt_elim g
  obtain ⟨x26, e26, g⟩ := gInt_elim g
  exact den_enter [(4, .slice a4 l4 c4), (5, .slice a5 l5 c5), (6, .int .u64 x6), (26, .int .i64 x26)] ⟨e4, e5, e6, e26, trivial⟩ (by kernel_rfl) g
def L14.t (R : Rt) (N9 : Option Addr → Nat → Nat → Option Addr → Nat → Nat → Hp → Prop) : Nat → Option Addr → Nat → Nat → Option Addr → Nat → Nat → Int → Int → Hp → Prop
  | 0 => fun _ _ _ _ _ _ _ _ _ => False
  | n + 1 => fun a4 l4 c4 a5 l5 c5 x6 x26 h => D15.t R N9 (L14.t R N9 n) a4 l4 c4 a5 l5 c5 x6 x26 h
theorem L14.ok (R : Rt) (N9 : Option Addr → Nat → Nat → Option Addr → Nat → Nat → Hp → Prop) (fr : Fr) (h : Hp) (g : L14.g (fun a4 l4 c4 a5 l5 c5 x6 x26 h => ∃ n, L14.t R N9 n a4 l4 c4 a5 l5 c5 x6 x26 h) fr h) : den prog E (cAt C [true, true, true, true, false, false, false, true, false, true, false, true, false]) (Ex.inBlock 2 (Ex.then (D12.g R N9) (Ex.inBlock 1 (Ex.then (L9.g N9) (Ex.inBlock 0 (Ex.then (D2.g R) (retQ E [.tmp 2, .tmp 3] R))))))) fr h := by
  obtain ⟨a4, l4, c4, e4, g⟩ := gSlice_elim g
  obtain ⟨a5, l5, c5, e5, g⟩ := gSlice_elim g
  obtain ⟨x6, e6, g⟩ := gInt_elim g
  obtain ⟨x26, e26, g⟩ := gInt_elim g
  obtain ⟨n, g⟩ := g
  refine loop_ok (fun n => L14.g (L14.t R N9 n)) (b := (cAt C [true, true, true, true, false, false, false, true, false, true, false, true, false, false])) (by kernel_rfl) (fun fr h g => ?_) (fun n => D15.ok R N9 (L14.t R N9 n)) n fr h (gSlice_intro e4 (gSlice_intro e5 (gInt_intro e6 (gInt_intro e26 (g)))))
  obtain ⟨a4, l4, c4, e4, g⟩ := gSlice_elim g
  obtain ⟨a5, l5, c5, e5, g⟩ := gSlice_elim g
  obtain ⟨x6, e6, g⟩ := gInt_elim g
  obtain ⟨x26, e26, g⟩ := gInt_elim g
  exact g
theorem B16.ok (R : Rt) (N9 : Option Addr → Nat → Nat → Option Addr → Nat → Nat → Hp → Prop) (fr : Fr) (h : Hp) (g : L14.g (fun a4 l4 c4 a5 l5 c5 x6 x26 h => ∃ n, L14.t R N9 n a4 l4 c4 a5 l5 c5 x6 x26 h) fr h) : den prog E (cAt C [true, true, true, true, false, false, false, true, false, true, false, true]) (Ex.then (D12.g R N9) (Ex.inBlock 1 (Ex.then (L9.g N9) (Ex.inBlock 0 (Ex.then (D2.g R) (retQ E [.tmp 2, .tmp 3] R)))))) fr h :=
  den_block (by kernel_rfl) (L14.ok R N9 fr h g)
def D13.t (R : Rt) (N9 : Option Addr → Nat → Nat → Option Addr → Nat → Nat → Hp → Prop) (a4 : Option Addr) (l4 : Nat) (c4 : Nat) (a5 : Option Addr) (l5 : Nat) (c5 : Nat) (x6 : Int) (h : Hp) : Prop :=
  (∃ n, L14.t R N9 n a4 l4 c4 a5 l5 c5 x6 0 h)
def D13.g (R : Rt) (N9 : Option Addr → Nat → Nat → Option Addr → Nat → Nat → Hp → Prop) (fr : Fr) (h : Hp) : Prop := gSlice (fr 4) fun a4 l4 c4 => gSlice (fr 5) fun a5 l5 c5 => gInt .u64 (fr 6) fun x6 => D13.t R N9 a4 l4 c4 a5 l5 c5 x6 h
theorem D13.ok (R : Rt) (N9 : Option Addr → Nat → Nat → Option Addr → Nat → Nat → Hp → Prop) (fr : Fr) (h : Hp) (g : D13.g R N9 fr h) : den prog E (cAt C [true, true, true, true, false, false, false, true, false, true, false]) (Ex.then (D12.g R N9) (Ex.inBlock 1 (Ex.then (L9.g N9) (Ex.inBlock 0 (Ex.then (D2.g R) (retQ E [.tmp 2, .tmp 3] R)))))) fr h := by
  obtain ⟨a4, l4, c4, e4, g⟩ := gSlice_elim g
  obtain ⟨a5, l5, c5, e5, g⟩ := gSlice_elim g
  obtain ⟨x6, e6, g⟩ := gInt_elim g
  exact den_cut 1 (r := (cAt C [true, true, true, true, false, false, false, true, false, true, false, true])) (by kernel_rfl) (B16.ok R N9) (den_enter [(4, .slice a4 l4 c4), (5, .slice a5 l5 c5), (6, .int .u64 x6)] ⟨e4, e5, e6, trivial⟩ (by kernel_rfl) g)
theorem W17.ok (R : Rt) (N9 : Option Addr → Nat → Nat → Option Addr → Nat → Nat → Hp → Prop) (fr : Fr) (h : Hp) (g : D13.g R N9 fr h) : den prog E (cAt C [true, true, true, true, false, false, false, true, false, true]) (Ex.inBlock 1 (Ex.then (L9.g N9) (Ex.inBlock 0 (Ex.then (D2.g R) (retQ E [.tmp 2, .tmp 3] R))))) fr h :=
  den_then (by kernel_rfl) (D12.ok R N9) (D13.ok R N9 fr h g)
def D11.t (R : Rt) (N9 : Option Addr → Nat → Nat → Option Addr → Nat → Nat → Hp → Prop) (a0 : Option Addr) (l0 : Nat) (c0 : Nat) (a4 : Option Addr) (l4 : Nat) (c4 : Nat) (h : Hp) : Prop :=
  HC nat_DivWord.id #[.slice a0 l0 c0, .int .u64 10000000000000000000] h fun v33 h34 =>
  gTup v33 fun y35 =>
  uncons y35 fun v36 y36 =>
  gSlice v36 fun a_37 l_37 c_37 =>
  uncons y36 fun v38 y38 =>
  gInt .u64 v38 fun x_39 =>
  uncons y38 fun v40 y40 =>
  gInt .i64 v40 fun x_41 =>
  unnil y40 <| D13.t R N9 a4 l4 c4 a_37 l_37 c_37 x_39 h34
def D11.g (R : Rt) (N9 : Option Addr → Nat → Nat → Option Addr → Nat → Nat → Hp → Prop) (fr : Fr) (h : Hp) : Prop := gSlice (fr 0) fun a0 l0 c0 => gSlice (fr 4) fun a4 l4 c4 => D11.t R N9 a0 l0 c0 a4 l4 c4 h
theorem D11.ok (R : Rt) (N9 : Option Addr → Nat → Nat → Option Addr → Nat → Nat → Hp → Prop) (fr : Fr) (h : Hp) (g : D11.g R N9 fr h) : den prog E (cAt C [true, true, true, true, false, false, false, true, false]) (Ex.inBlock 1 (Ex.then (L9.g N9) (Ex.inBlock 0 (Ex.then (D2.g R) (retQ E [.tmp 2, .tmp 3] R))))) fr h := by
  obtain ⟨a0, l0, c0, e0, g⟩ := gSlice_elim g
  obtain ⟨a4, l4, c4, e4, g⟩ := gSlice_elim g
  exact den_cut 1 (r := (cAt C [true, true, true, true, false, false, false, true, false, true])) (by kernel_rfl) (W17.ok R N9) (den_enter [(0, .slice a0 l0 c0), (4, .slice a4 l4 c4)] ⟨e0, e4, trivial⟩ (by kernel_rfl) g)
theorem B18.ok (R : Rt) (N9 : Option Addr → Nat → Nat → Option Addr → Nat → Nat → Hp → Prop) (fr : Fr) (h : Hp) (g : D11.g R N9 fr h) : den prog E (cAt C [true, true, true, true, false, false, false, true]) (Ex.then (L9.g N9) (Ex.inBlock 0 (Ex.then (D2.g R) (retQ E [.tmp 2, .tmp 3] R)))) fr h :=
  den_block (by kernel_rfl) (D11.ok R N9 fr h g)
def D10.t (R : Rt) (N9 : Option Addr → Nat → Nat → Option Addr → Nat → Nat → Hp → Prop) (a0 : Option Addr) (l0 : Nat) (c0 : Nat) (a4 : Option Addr) (l4 : Nat) (c4 : Nat) (h : Hp) : Prop :=
  cond (decide ((((l0 : Nat) : Int)) > 0)) (D11.t R N9 a0 l0 c0 a4 l4 c4 h) (D2.t R a4 l4 c4 h)
def D10.g (R : Rt) (N9 : Option Addr → Nat → Nat → Option Addr → Nat → Nat → Hp → Prop) (fr : Fr) (h : Hp) : Prop := gSlice (fr 0) fun a0 l0 c0 => gSlice (fr 4) fun a4 l4 c4 => D10.t R N9 a0 l0 c0 a4 l4 c4 h
theorem D10.ok (R : Rt) (N9 : Option Addr → Nat → Nat → Option Addr → Nat → Nat → Hp → Prop) (fr : Fr) (h : Hp) (g : D10.g R N9 fr h) : den prog E (cAt C [true, true, true, true, false, false, false]) (Ex.then (L9.g N9) (Ex.inBlock 0 (Ex.then (D2.g R) (retQ E [.tmp 2, .tmp 3] R)))) fr h := by
  obtain ⟨a0, l0, c0, e0, g⟩ := gSlice_elim g
  obtain ⟨a4, l4, c4, e4, g⟩ := gSlice_elim g
  exact den_cut 1 (r := (cAt C [true, true, true, true, false, false, false, true])) (by kernel_rfl) (B18.ok R N9) (den_enter [(0, .slice a0 l0 c0), (4, .slice a4 l4 c4)] ⟨e0, e4, trivial⟩ (by kernel_rfl) g)
def L9.t (R : Rt) : Nat → Option Addr → Nat → Nat → Option Addr → Nat → Nat → Hp → Prop
  | 0 => fun _ _ _ _ _ _ _ => False
  | n + 1 => fun a0 l0 c0 a4 l4 c4 h => D10.t R (L9.t R n) a0 l0 c0 a4 l4 c4 h
theorem L9.ok (R : Rt) (fr : Fr) (h : Hp) (g : L9.g (fun a0 l0 c0 a4 l4 c4 h => ∃ n, L9.t R n a0 l0 c0 a4 l4 c4 h) fr h) : den prog E (cAt C [true, true, true, true, false, false]) (Ex.inBlock 0 (Ex.then (D2.g R) (retQ E [.tmp 2, .tmp 3] R))) fr h := by
  obtain ⟨a0, l0, c0, e0, g⟩ := gSlice_elim g
  obtain ⟨a4, l4, c4, e4, g⟩ := gSlice_elim g
  obtain ⟨n, g⟩ := g
  refine loop_ok (fun n => L9.g (L9.t R n)) (b := (cAt C [true, true, true, true, false, false, false])) (by kernel_rfl) (fun fr h g => ?_) (fun n => D10.ok R (L9.t R n)) n fr h (gSlice_intro e0 (gSlice_intro e4 (g)))
  obtain ⟨a0, l0, c0, e0, g⟩ := gSlice_elim g
  obtain ⟨a4, l4, c4, e4, g⟩ := gSlice_elim g
  exact g
theorem B19.ok (R : Rt) (fr : Fr) (h : Hp) (g : L9.g (fun a0 l0 c0 a4 l4 c4 h => ∃ n, L9.t R n a0 l0 c0 a4 l4 c4 h) fr h) : den prog E (cAt C [true, true, true, true, false]) (Ex.then (D2.g R) (retQ E [.tmp 2, .tmp 3] R)) fr h :=
  den_block (by kernel_rfl) (L9.ok R fr h g)
theorem W20.ok (R : Rt) (fr : Fr) (h : Hp) (g : L9.g (fun a0 l0 c0 a4 l4 c4 h => ∃ n, L9.t R n a0 l0 c0 a4 l4 c4 h) fr h) : den prog E (cAt C [true, true, true, true]) (retQ E [.tmp 2, .tmp 3] R) fr h :=
  den_then (by kernel_rfl) (D2.ok R) (B19.ok R fr h g)
def D1.t (R : Rt) (a0 : Option Addr) (l0 : Nat) (c0 : Nat) (h : Hp) : Prop :=
  HC nat_Form.id #[.slice a0 l0 c0] h fun v1 h2 =>
  gBool v1 fun b_3 =>
  cond (!b_3) (R (.tuple #[.string (⟨#[]⟩ : ByteArray), .int .i64 2]) h2) (HC nat_Bits.id #[.slice a0 l0 c0] h2 fun v4 h5 =>
  gInt .i64 v4 fun x_6 =>
  cond (decide (x_6 > 16278)) (R (.tuple #[.string (⟨#[]⟩ : ByteArray), .int .i64 5]) h5) ((∃ n, L9.t R n a0 l0 c0 none 0 0 h5)))
def D1.g (R : Rt) (fr : Fr) (h : Hp) : Prop := gSlice (fr 0) fun a0 l0 c0 => D1.t R a0 l0 c0 h
theorem D1.ok (R : Rt) (fr : Fr) (h : Hp) (g : D1.g R fr h) : den prog E C (retQ E [.tmp 2, .tmp 3] R) fr h := by
  obtain ⟨a0, l0, c0, e0, g⟩ := gSlice_elim g
  exact den_cut 4 (r := (cAt C [true, true, true, true])) (by kernel_rfl) (W20.ok R) (den_enter [(0, .slice a0 l0 c0)] ⟨e0, trivial⟩ (by kernel_rfl) g)
def t (a0 : Option Addr) (l0 : Nat) (c0 : Nat) (h : Hp) (R : Rt) : Prop := D1.t R a0 l0 c0 h
theorem ok {a0 : Option Addr} {l0 : Nat} {c0 : Nat} {h : Hp} {R : Rt} (g : t a0 l0 c0 h R) : HC id #[.slice a0 l0 c0] h R :=
  calls_of_den' envOk (c := C) (rs := [.tmp 2, .tmp 3]) Try.func16 (by kernel_rfl) (by kernel_rfl) (by kernel_rfl) (args := [.slice a0 l0 c0]) (by kernel_rfl) (D1.ok R _ h (gSlice_intro rfl (g)))
end natdiv_Text

namespace gnomonlaw03_text
noncomputable def C : Code := bodyOf Try.f17
def D1.t (R : Rt) (a0 : Option Addr) (l0 : Nat) (c0 : Nat) (h : Hp) : Prop :=
  HC gnomonlaw03_twin.id #[.slice a0 l0 c0] h fun v1 h2 =>
  gSlice v1 fun a_3 l_3 c_3 =>
  HC natdiv_Text.id #[.slice a_3 l_3 c_3] h2 fun v4 h5 =>
  gTup v4 fun y6 =>
  uncons y6 fun v7 y7 =>
  gStr v7 fun s_8 =>
  uncons y7 fun v9 y9 =>
  gInt .i64 v9 fun x_10 =>
  unnil y9 <| HC gnomonref03_DocText.id #[.slice a0 l0 c0] h5 fun v11 h12 =>
  gTup v11 fun y13 =>
  uncons y13 fun v14 y14 =>
  gStr v14 fun s_15 =>
  uncons y14 fun v16 y16 =>
  gInt .i64 v16 fun x_17 =>
  unnil y16 <| cond (x_10 == x_17) (R (.bool (s_8.toList == s_15.toList)) h12) (R (.bool false) h12)
def D1.g (R : Rt) (fr : Fr) (h : Hp) : Prop := gSlice (fr 0) fun a0 l0 c0 => D1.t R a0 l0 c0 h
theorem D1.ok (R : Rt) (fr : Fr) (h : Hp) (g : D1.g R fr h) : den prog E C (retQ E [.tmp 2] R) fr h := by
  obtain ⟨a0, l0, c0, e0, g⟩ := gSlice_elim g
  exact den_enter [(0, .slice a0 l0 c0)] ⟨e0, trivial⟩ (by kernel_rfl) g
def t (a0 : Option Addr) (l0 : Nat) (c0 : Nat) (h : Hp) (R : Rt) : Prop := D1.t R a0 l0 c0 h
theorem ok {a0 : Option Addr} {l0 : Nat} {c0 : Nat} {h : Hp} {R : Rt} (g : t a0 l0 c0 h R) : HC id #[.slice a0 l0 c0] h R :=
  calls_of_den' envOk (c := C) (rs := [.tmp 2]) Try.func17 (by kernel_rfl) (by kernel_rfl) (by kernel_rfl) (args := [.slice a0 l0 c0]) (by kernel_rfl) (D1.ok R _ h (gSlice_intro rfl (g)))
end gnomonlaw03_text

namespace gnomonlaw03_twin
noncomputable def C : Code := bodyOf Try.f18
def D1.t (R : Rt) (a0 : Option Addr) (l0 : Nat) (c0 : Nat) (h : Hp) : Prop :=
  mkK h 27 T27 (((l0 : Nat) : Int)) (((l0 : Nat) : Int)) fun q1 h2 =>
  cpK h2 1 (some q1) ((((l0 : Nat) : Int)).toNat) (.slice a0 l0 c0) fun n3 h3 =>
  R (.slice (some q1) ((((l0 : Nat) : Int)).toNat) ((((l0 : Nat) : Int)).toNat)) h3
def D1.g (R : Rt) (fr : Fr) (h : Hp) : Prop := gSlice (fr 0) fun a0 l0 c0 => D1.t R a0 l0 c0 h
theorem D1.ok (R : Rt) (fr : Fr) (h : Hp) (g : D1.g R fr h) : den prog E C (retQ E [.tmp 2] R) fr h := by
  obtain ⟨a0, l0, c0, e0, g⟩ := gSlice_elim g
  exact den_enter [(0, .slice a0 l0 c0)] ⟨e0, trivial⟩ (by kernel_rfl) g
def t (a0 : Option Addr) (l0 : Nat) (c0 : Nat) (h : Hp) (R : Rt) : Prop := D1.t R a0 l0 c0 h
theorem ok {a0 : Option Addr} {l0 : Nat} {c0 : Nat} {h : Hp} {R : Rt} (g : t a0 l0 c0 h R) : HC id #[.slice a0 l0 c0] h R :=
  calls_of_den' envOk (c := C) (rs := [.tmp 2]) Try.func18 (by kernel_rfl) (by kernel_rfl) (by kernel_rfl) (args := [.slice a0 l0 c0]) (by kernel_rfl) (D1.ok R _ h (gSlice_intro rfl (g)))
end gnomonlaw03_twin







namespace gnomonref01_DocForm
noncomputable def C : Code := bodyOf Try.f25
def D1.t (R : Rt) (a0 : Option Addr) (l0 : Nat) (c0 : Nat) (h : Hp) : Prop :=
  cond (decide ((((l0 : Nat) : Int)) ≤ 8192)) (cond ((((l0 : Nat) : Int)) == 0) (R (.bool true) h) (letK (IntKind.i64.wrap ((((l0 : Nat) : Int)) - 1)) fun n1 =>
  idxK a0 l0 n1 1 fun q2 =>
  ldK h q2 fun v3 =>
  gInt .u64 v3 fun x_4 =>
  R (.bool (x_4 != 0)) h)) (R (.bool false) h)
def D1.g (R : Rt) (fr : Fr) (h : Hp) : Prop := gSlice (fr 0) fun a0 l0 c0 => D1.t R a0 l0 c0 h
theorem D1.ok (R : Rt) (fr : Fr) (h : Hp) (g : D1.g R fr h) : den prog E C (retQ E [.tmp 2] R) fr h := by
  obtain ⟨a0, l0, c0, e0, g⟩ := gSlice_elim g
  exact den_enter [(0, .slice a0 l0 c0)] ⟨e0, trivial⟩ (by kernel_rfl) g
def t (a0 : Option Addr) (l0 : Nat) (c0 : Nat) (h : Hp) (R : Rt) : Prop := D1.t R a0 l0 c0 h
theorem ok {a0 : Option Addr} {l0 : Nat} {c0 : Nat} {h : Hp} {R : Rt} (g : t a0 l0 c0 h R) : HC id #[.slice a0 l0 c0] h R :=
  calls_of_den' envOk (c := C) (rs := [.tmp 2]) Try.func25 (by kernel_rfl) (by kernel_rfl) (by kernel_rfl) (args := [.slice a0 l0 c0]) (by kernel_rfl) (D1.ok R _ h (gSlice_intro rfl (g)))
end gnomonref01_DocForm


namespace gnomonref01_From
noncomputable def C : Code := bodyOf Try.f27
def D2.t (R : Rt) (a3 : Option Addr) (l3 : Nat) (c3 : Nat) (h : Hp) : Prop :=
  HC gnomonref01_Norm.id #[.slice a3 l3 c3] h fun v4 h5 =>
  gSlice v4 fun a_6 l_6 c_6 =>
  R (.slice a_6 l_6 c_6) h5
def D2.g (R : Rt) (fr : Fr) (h : Hp) : Prop := gSlice (fr 3) fun a3 l3 c3 => D2.t R a3 l3 c3 h
theorem D2.ok (R : Rt) (fr : Fr) (h : Hp) (g : D2.g R fr h) : den prog E (cAt C [true, true, true]) (retQ E [.tmp 2] R) fr h := by
  obtain ⟨a3, l3, c3, e3, g⟩ := gSlice_elim g
  exact den_enter [(3, .slice a3 l3 c3)] ⟨e3, trivial⟩ (by kernel_rfl) g
def L4.g (N : Option Addr → Nat → Nat → Option Addr → Nat → Nat → Int → Hp → Prop) (fr : Fr) (h : Hp) : Prop := gSlice (fr 0) fun a0 l0 c0 => gSlice (fr 3) fun a3 l3 c3 => gInt .i64 (fr 4) fun x4 => N a0 l0 c0 a3 l3 c3 x4 h
def D5.t (R : Rt) (N4 : Option Addr → Nat → Nat → Option Addr → Nat → Nat → Int → Hp → Prop) (a0 : Option Addr) (l0 : Nat) (c0 : Nat) (a3 : Option Addr) (l3 : Nat) (c3 : Nat) (x4 : Int) (h : Hp) : Prop :=
  cond (decide (x4 < (((l0 : Nat) : Int)))) (idxK a0 l0 x4 1 fun q7 =>
  ldK h q7 fun v8 =>
  gInt .u64 v8 fun x_9 =>
  letK (andI .u64 x_9 4294967295) fun n10 =>
  letK (IntKind.u32.wrap n10) fun n11 =>
  idxK a0 l0 x4 1 fun q12 =>
  ldK h q12 fun v13 =>
  gInt .u64 v13 fun x_14 =>
  0 ≤ (32 : Int) ∧ letK (shrI .u64 x_14 32) fun n15 =>
  letK (IntKind.u32.wrap n15) fun n16 =>
  boxK h 84 [.int .u32 n11, .int .u32 n16] fun q17 h18 =>
  apK h18 84 T84 a3 l3 c3 (.slice (some q17) 2 2) fun a_19 l_19 c_19 h19 =>
  letK (IntKind.i64.wrap (x4 + 1)) fun n20 =>
  N4 a0 l0 c0 a_19 l_19 c_19 n20 h19) (D2.t R a3 l3 c3 h)
def D5.g (R : Rt) (N4 : Option Addr → Nat → Nat → Option Addr → Nat → Nat → Int → Hp → Prop) (fr : Fr) (h : Hp) : Prop := gSlice (fr 0) fun a0 l0 c0 => gSlice (fr 3) fun a3 l3 c3 => gInt .i64 (fr 4) fun x4 => D5.t R N4 a0 l0 c0 a3 l3 c3 x4 h
theorem D5.ok (R : Rt) (N4 : Option Addr → Nat → Nat → Option Addr → Nat → Nat → Int → Hp → Prop) (fr : Fr) (h : Hp) (g : D5.g R N4 fr h) : den prog E (cAt C [true, true, false, true, false, false]) (Ex.then (L4.g N4) (Ex.inBlock 0 (Ex.then (D2.g R) (retQ E [.tmp 2] R)))) fr h := by
  obtain ⟨a0, l0, c0, e0, g⟩ := gSlice_elim g
  obtain ⟨a3, l3, c3, e3, g⟩ := gSlice_elim g
  obtain ⟨x4, e4, g⟩ := gInt_elim g
  exact den_enter [(0, .slice a0 l0 c0), (3, .slice a3 l3 c3), (4, .int .i64 x4)] ⟨e0, e3, e4, trivial⟩ (by kernel_rfl) g
def L4.t (R : Rt) : Nat → Option Addr → Nat → Nat → Option Addr → Nat → Nat → Int → Hp → Prop
  | 0 => fun _ _ _ _ _ _ _ _ => False
  | n + 1 => fun a0 l0 c0 a3 l3 c3 x4 h => D5.t R (L4.t R n) a0 l0 c0 a3 l3 c3 x4 h
theorem L4.ok (R : Rt) (fr : Fr) (h : Hp) (g : L4.g (fun a0 l0 c0 a3 l3 c3 x4 h => ∃ n, L4.t R n a0 l0 c0 a3 l3 c3 x4 h) fr h) : den prog E (cAt C [true, true, false, true, false]) (Ex.inBlock 0 (Ex.then (D2.g R) (retQ E [.tmp 2] R))) fr h := by
  obtain ⟨a0, l0, c0, e0, g⟩ := gSlice_elim g
  obtain ⟨a3, l3, c3, e3, g⟩ := gSlice_elim g
  obtain ⟨x4, e4, g⟩ := gInt_elim g
  obtain ⟨n, g⟩ := g
  refine loop_ok (fun n => L4.g (L4.t R n)) (b := (cAt C [true, true, false, true, false, false])) (by kernel_rfl) (fun fr h g => ?_) (fun n => D5.ok R (L4.t R n)) n fr h (gSlice_intro e0 (gSlice_intro e3 (gInt_intro e4 (g))))
  obtain ⟨a0, l0, c0, e0, g⟩ := gSlice_elim g
  obtain ⟨a3, l3, c3, e3, g⟩ := gSlice_elim g
  obtain ⟨x4, e4, g⟩ := gInt_elim g
  exact g
theorem B6.ok (R : Rt) (fr : Fr) (h : Hp) (g : L4.g (fun a0 l0 c0 a3 l3 c3 x4 h => ∃ n, L4.t R n a0 l0 c0 a3 l3 c3 x4 h) fr h) : den prog E (cAt C [true, true, false, true]) (Ex.then (D2.g R) (retQ E [.tmp 2] R)) fr h :=
  den_block (by kernel_rfl) (L4.ok R fr h g)
def D3.t (R : Rt) (a0 : Option Addr) (l0 : Nat) (c0 : Nat) (a3 : Option Addr) (l3 : Nat) (c3 : Nat) (h : Hp) : Prop :=
  (∃ n, L4.t R n a0 l0 c0 a3 l3 c3 0 h)
def D3.g (R : Rt) (fr : Fr) (h : Hp) : Prop := gSlice (fr 0) fun a0 l0 c0 => gSlice (fr 3) fun a3 l3 c3 => D3.t R a0 l0 c0 a3 l3 c3 h
theorem D3.ok (R : Rt) (fr : Fr) (h : Hp) (g : D3.g R fr h) : den prog E (cAt C [true, true, false]) (Ex.then (D2.g R) (retQ E [.tmp 2] R)) fr h := by
  obtain ⟨a0, l0, c0, e0, g⟩ := gSlice_elim g
  obtain ⟨a3, l3, c3, e3, g⟩ := gSlice_elim g
  exact den_cut 1 (r := (cAt C [true, true, false, true])) (by kernel_rfl) (B6.ok R) (den_enter [(0, .slice a0 l0 c0), (3, .slice a3 l3 c3)] ⟨e0, e3, trivial⟩ (by kernel_rfl) g)
theorem W7.ok (R : Rt) (fr : Fr) (h : Hp) (g : D3.g R fr h) : den prog E (cAt C [true, true]) (retQ E [.tmp 2] R) fr h :=
  den_then (by kernel_rfl) (D2.ok R) (D3.ok R fr h g)
def D1.t (R : Rt) (a0 : Option Addr) (l0 : Nat) (c0 : Nat) (h : Hp) : Prop :=
  letK (IntKind.i64.wrap (2 * (((l0 : Nat) : Int)))) fun n1 =>
  mkK h 84 T84 0 n1 fun q2 h3 =>
  D3.t R a0 l0 c0 (some q2) ((0 : Int).toNat) n1.toNat h3
def D1.g (R : Rt) (fr : Fr) (h : Hp) : Prop := gSlice (fr 0) fun a0 l0 c0 => D1.t R a0 l0 c0 h
theorem D1.ok (R : Rt) (fr : Fr) (h : Hp) (g : D1.g R fr h) : den prog E C (retQ E [.tmp 2] R) fr h := by
  obtain ⟨a0, l0, c0, e0, g⟩ := gSlice_elim g
  exact den_cut 2 (r := (cAt C [true, true])) (by kernel_rfl) (W7.ok R) (den_enter [(0, .slice a0 l0 c0)] ⟨e0, trivial⟩ (by kernel_rfl) g)
def t (a0 : Option Addr) (l0 : Nat) (c0 : Nat) (h : Hp) (R : Rt) : Prop := D1.t R a0 l0 c0 h
theorem ok {a0 : Option Addr} {l0 : Nat} {c0 : Nat} {h : Hp} {R : Rt} (g : t a0 l0 c0 h R) : HC id #[.slice a0 l0 c0] h R :=
  calls_of_den' envOk (c := C) (rs := [.tmp 2]) Try.func27 (by kernel_rfl) (by kernel_rfl) (by kernel_rfl) (args := [.slice a0 l0 c0]) (by kernel_rfl) (D1.ok R _ h (gSlice_intro rfl (g)))
end gnomonref01_From







end Go.Proofs.Ytdpkfipkjdlmlaa.G
