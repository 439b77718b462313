/- Texts of this work, joined: Fp0. -/
import Derived.Test.YtdpkfipkjdlmlaaKE
/- Functions of the translation as predicates over heaps, and that their calls do so. Written by a program of this work. -/
namespace Go.Proofs.Ytdpkfipkjdlmlaa.G
open Go.Gv
set_option linter.unusedVariables false
set_option maxRecDepth 100000



namespace gnomonlaw03_NatdivReadMemory
noncomputable def C : Code := bodyOf Try.f6
def D5.t (R : Rt) (a7 : Option Addr) (l7 : Nat) (c7 : Nat) (a9 : Option Addr) (l9 : Nat) (c9 : Nat) (a11 : Option Addr) (l11 : Nat) (c11 : Nat) (a20 : Option Addr) (l20 : Nat) (c20 : Nat) (h : Hp) : Prop :=
  boxK h 22 [.slice a7 l7 c7, .slice a9 l9 c9, .slice a20 l20 c20, .slice a11 l11 c11] fun q68 h69 =>
  HC gnomonlaw03_apart.id #[.slice (some q68) 4 4] h69 fun v70 h71 =>
  gBool v70 fun b_72 =>
  R (.bool b_72) h71
def D5.g (R : Rt) (fr : Fr) (h : Hp) : Prop := gSlice (fr 7) fun a7 l7 c7 => gSlice (fr 9) fun a9 l9 c9 => gSlice (fr 11) fun a11 l11 c11 => gSlice (fr 20) fun a20 l20 c20 => D5.t R a7 l7 c7 a9 l9 c9 a11 l11 c11 a20 l20 c20 h
theorem D5.ok (R : Rt) (fr : Fr) (h : Hp) (g : D5.g R fr h) : den prog E (cAt C [true, true, true, true, true, true, true, true, true, true, true, true, true, true]) (retQ E [.tmp 4] R) fr h := by
  obtain ⟨a7, l7, c7, e7, g⟩ := gSlice_elim g
  obtain ⟨a9, l9, c9, e9, g⟩ := gSlice_elim g
  obtain ⟨a11, l11, c11, e11, g⟩ := gSlice_elim g
  obtain ⟨a20, l20, c20, e20, g⟩ := gSlice_elim g
  exact den_enter [(7, .slice a7 l7 c7), (9, .slice a9 l9 c9), (11, .slice a11 l11 c11), (20, .slice a20 l20 c20)] ⟨e7, e9, e11, e20, trivial⟩ (by kernel_rfl) g
def D4.t (R : Rt) (a7 : Option Addr) (l7 : Nat) (c7 : Nat) (a9 : Option Addr) (l9 : Nat) (c9 : Nat) (a11 : Option Addr) (l11 : Nat) (c11 : Nat) (h : Hp) : Prop :=
  HC natdiv_Text.id #[.slice a11 l11 c11] h fun v52 h53 =>
  gTup v52 fun y54 =>
  uncons y54 fun v55 y55 =>
  gStr v55 fun s_56 =>
  uncons y55 fun v57 y57 =>
  gInt .i64 v57 fun x_58 =>
  unnil y57 <| HC natdiv_Read.id #[.string s_56] h53 fun v59 h60 =>
  gTup v59 fun y61 =>
  uncons y61 fun v62 y62 =>
  gSlice v62 fun a_63 l_63 c_63 =>
  uncons y62 fun v64 y64 =>
  gInt .i64 v64 fun x_65 =>
  unnil y64 <| cond (decide ((((l11 : Nat) : Int)) > 0)) (cond (decide ((((l11 : Nat) : Int)) ≤ 200)) (cond (x_58 != 0) (R (.bool false) h60) (cond (x_65 != 0) (R (.bool false) h60) (HQC gnomonref01_Same.id #[.slice a_63 l_63 c_63, .slice a11 l11 c11] h60 fun v66 =>
  gBool v66 fun b_67 =>
  cond (!b_67) (R (.bool false) h60) (D5.t R a7 l7 c7 a9 l9 c9 a11 l11 c11 a_63 l_63 c_63 h60)))) (D5.t R a7 l7 c7 a9 l9 c9 a11 l11 c11 a_63 l_63 c_63 h60)) (D5.t R a7 l7 c7 a9 l9 c9 a11 l11 c11 a_63 l_63 c_63 h60)
def D4.g (R : Rt) (fr : Fr) (h : Hp) : Prop := gSlice (fr 7) fun a7 l7 c7 => gSlice (fr 9) fun a9 l9 c9 => gSlice (fr 11) fun a11 l11 c11 => D4.t R a7 l7 c7 a9 l9 c9 a11 l11 c11 h
theorem D4.ok (R : Rt) (fr : Fr) (h : Hp) (g : D4.g R fr h) : den prog E (cAt C [true, true, true, true, true, true, true, true, true, true, true]) (retQ E [.tmp 4] R) fr h := by
  obtain ⟨a7, l7, c7, e7, g⟩ := gSlice_elim g
  obtain ⟨a9, l9, c9, e9, g⟩ := gSlice_elim g
  obtain ⟨a11, l11, c11, e11, g⟩ := gSlice_elim g
  exact den_cut 3 (r := (cAt C [true, true, true, true, true, true, true, true, true, true, true, true, true, true])) (by kernel_rfl) (D5.ok R) (den_enter [(7, .slice a7 l7 c7), (9, .slice a9 l9 c9), (11, .slice a11 l11 c11)] ⟨e7, e9, e11, trivial⟩ (by kernel_rfl) g)
def L7.g (N : Option Addr → Nat → Nat → Option Addr → Nat → Nat → Option Addr → Nat → Nat → Int → Hp → Prop) (fr : Fr) (h : Hp) : Prop := gSlice (fr 7) fun a7 l7 c7 => gSlice (fr 9) fun a9 l9 c9 => gSlice (fr 11) fun a11 l11 c11 => gInt .i64 (fr 17) fun x17 => N a7 l7 c7 a9 l9 c9 a11 l11 c11 x17 h
def D8.t (R : Rt) (N7 : Option Addr → Nat → Nat → Option Addr → Nat → Nat → Option Addr → Nat → Nat → Int → Hp → Prop) (a7 : Option Addr) (l7 : Nat) (c7 : Nat) (a9 : Option Addr) (l9 : Nat) (c9 : Nat) (a11 : Option Addr) (l11 : Nat) (c11 : Nat) (x17 : Int) (h : Hp) : Prop :=
  cond (decide (x17 < (((l11 : Nat) : Int)))) (HQC gnomonlaw03_mark.id #[.int .i64 92, .int .i64 x17] h fun v73 =>
  gInt .u64 v73 fun x_74 =>
  idxK a11 l11 x17 1 fun q75 =>
  stK h q75 (.int .u64 x_74) fun h76 =>
  letK (IntKind.i64.wrap (x17 + 1)) fun n77 =>
  N7 a7 l7 c7 a9 l9 c9 a11 l11 c11 n77 h76) (D4.t R a7 l7 c7 a9 l9 c9 a11 l11 c11 h)
def D8.g (R : Rt) (N7 : Option Addr → Nat → Nat → Option Addr → Nat → Nat → Option Addr → Nat → Nat → Int → Hp → Prop) (fr : Fr) (h : Hp) : Prop := gSlice (fr 7) fun a7 l7 c7 => gSlice (fr 9) fun a9 l9 c9 => gSlice (fr 11) fun a11 l11 c11 => gInt .i64 (fr 17) fun x17 => D8.t R N7 a7 l7 c7 a9 l9 c9 a11 l11 c11 x17 h
theorem D8.ok (R : Rt) (N7 : Option Addr → Nat → Nat → Option Addr → Nat → Nat → Option Addr → Nat → Nat → Int → Hp → Prop) (fr : Fr) (h : Hp) (g : D8.g R N7 fr h) : den prog E (cAt C [true, true, true, true, true, true, true, true, true, true, false, true, false, false]) (Ex.then (L7.g N7) (Ex.inBlock 0 (Ex.then (D4.g R) (retQ E [.tmp 4] R)))) fr h := by
  obtain ⟨a7, l7, c7, e7, g⟩ := gSlice_elim g
  obtain ⟨a9, l9, c9, e9, g⟩ := gSlice_elim g
  obtain ⟨a11, l11, c11, e11, g⟩ := gSlice_elim g
  obtain ⟨x17, e17, g⟩ := gInt_elim g
  exact den_enter [(7, .slice a7 l7 c7), (9, .slice a9 l9 c9), (11, .slice a11 l11 c11), (17, .int .i64 x17)] ⟨e7, e9, e11, e17, trivial⟩ (by kernel_rfl) g
def L7.t (R : Rt) : Nat → Option Addr → Nat → Nat → Option Addr → Nat → Nat → Option Addr → Nat → Nat → Int → Hp → Prop
  | 0 => fun _ _ _ _ _ _ _ _ _ _ _ => False
  | n + 1 => fun a7 l7 c7 a9 l9 c9 a11 l11 c11 x17 h => D8.t R (L7.t R n) a7 l7 c7 a9 l9 c9 a11 l11 c11 x17 h
theorem L7.ok (R : Rt) (fr : Fr) (h : Hp) (g : L7.g (fun a7 l7 c7 a9 l9 c9 a11 l11 c11 x17 h => ∃ n, L7.t R n a7 l7 c7 a9 l9 c9 a11 l11 c11 x17 h) fr h) : den prog E (cAt C [true, true, true, true, true, true, true, true, true, true, false, true, false]) (Ex.inBlock 0 (Ex.then (D4.g R) (retQ E [.tmp 4] R))) fr h := by
  obtain ⟨a7, l7, c7, e7, g⟩ := gSlice_elim g
  obtain ⟨a9, l9, c9, e9, g⟩ := gSlice_elim g
  obtain ⟨a11, l11, c11, e11, g⟩ := gSlice_elim g
  obtain ⟨x17, e17, g⟩ := gInt_elim g
  obtain ⟨n, g⟩ := g
  refine loop_ok (fun n => L7.g (L7.t R n)) (b := (cAt C [true, true, true, true, true, true, true, true, true, true, false, true, false, false])) (by kernel_rfl) (fun fr h g => ?_) (fun n => D8.ok R (L7.t R n)) n fr h (gSlice_intro e7 (gSlice_intro e9 (gSlice_intro e11 (gInt_intro e17 (g)))))
  obtain ⟨a7, l7, c7, e7, g⟩ := gSlice_elim g
  obtain ⟨a9, l9, c9, e9, g⟩ := gSlice_elim g
  obtain ⟨a11, l11, c11, e11, g⟩ := gSlice_elim g
  obtain ⟨x17, e17, g⟩ := gInt_elim g
  exact g
theorem B9.ok (R : Rt) (fr : Fr) (h : Hp) (g : L7.g (fun a7 l7 c7 a9 l9 c9 a11 l11 c11 x17 h => ∃ n, L7.t R n a7 l7 c7 a9 l9 c9 a11 l11 c11 x17 h) fr h) : den prog E (cAt C [true, true, true, true, true, true, true, true, true, true, false, true]) (Ex.then (D4.g R) (retQ E [.tmp 4] R)) fr h :=
  den_block (by kernel_rfl) (L7.ok R fr h g)
def D6.t (R : Rt) (a7 : Option Addr) (l7 : Nat) (c7 : Nat) (a9 : Option Addr) (l9 : Nat) (c9 : Nat) (a11 : Option Addr) (l11 : Nat) (c11 : Nat) (h : Hp) : Prop :=
  (∃ n, L7.t R n a7 l7 c7 a9 l9 c9 a11 l11 c11 0 h)
def D6.g (R : Rt) (fr : Fr) (h : Hp) : Prop := gSlice (fr 7) fun a7 l7 c7 => gSlice (fr 9) fun a9 l9 c9 => gSlice (fr 11) fun a11 l11 c11 => D6.t R a7 l7 c7 a9 l9 c9 a11 l11 c11 h
theorem D6.ok (R : Rt) (fr : Fr) (h : Hp) (g : D6.g R fr h) : den prog E (cAt C [true, true, true, true, true, true, true, true, true, true, false]) (Ex.then (D4.g R) (retQ E [.tmp 4] R)) fr h := by
  obtain ⟨a7, l7, c7, e7, g⟩ := gSlice_elim g
  obtain ⟨a9, l9, c9, e9, g⟩ := gSlice_elim g
  obtain ⟨a11, l11, c11, e11, g⟩ := gSlice_elim g
  exact den_cut 1 (r := (cAt C [true, true, true, true, true, true, true, true, true, true, false, true])) (by kernel_rfl) (B9.ok R) (den_enter [(7, .slice a7 l7 c7), (9, .slice a9 l9 c9), (11, .slice a11 l11 c11)] ⟨e7, e9, e11, trivial⟩ (by kernel_rfl) g)
theorem W10.ok (R : Rt) (fr : Fr) (h : Hp) (g : D6.g R fr h) : den prog E (cAt C [true, true, true, true, true, true, true, true, true, true]) (retQ E [.tmp 4] R) fr h :=
  den_then (by kernel_rfl) (D4.ok R) (D6.ok R fr h g)
def D3.t (R : Rt) (a1 : Option Addr) (l1 : Nat) (c1 : Nat) (a7 : Option Addr) (l7 : Nat) (c7 : Nat) (a9 : Option Addr) (l9 : Nat) (c9 : Nat) (h : Hp) : Prop :=
  HC gnomonlaw03_roomy.id #[.slice a1 l1 c1, .int .i64 90] h fun v28 h29 =>
  gTup v28 fun y30 =>
  uncons y30 fun v31 y31 =>
  gSlice v31 fun a_32 l_32 c_32 =>
  uncons y31 fun v33 y33 =>
  gSlice v33 fun a_34 l_34 c_34 =>
  unnil y33 <| HC natdiv_Text.id #[.slice a_32 l_32 c_32] h29 fun v35 h36 =>
  gTup v35 fun y37 =>
  uncons y37 fun v38 y38 =>
  gStr v38 fun s_39 =>
  uncons y38 fun v40 y40 =>
  gInt .i64 v40 fun x_41 =>
  unnil y40 <| HC natdiv_Text.id #[.slice a_32 l_32 c_32] h36 fun v42 h43 =>
  gTup v42 fun y44 =>
  uncons y44 fun v45 y45 =>
  gStr v45 fun s_46 =>
  uncons y45 fun v47 y47 =>
  gInt .i64 v47 fun x_48 =>
  unnil y47 <| cond (x_41 != x_48) (R (.bool false) h43) (cond (!(s_39.toList == s_46.toList)) (R (.bool false) h43) (HC gnomonlaw03_kept.id #[.slice a1 l1 c1, .slice a_34 l_34 c_34, .int .i64 90] h43 fun v49 h50 =>
  gBool v49 fun b_51 =>
  cond (!b_51) (R (.bool false) h50) (D6.t R a7 l7 c7 a9 l9 c9 a_32 l_32 c_32 h50)))
def D3.g (R : Rt) (fr : Fr) (h : Hp) : Prop := gSlice (fr 1) fun a1 l1 c1 => gSlice (fr 7) fun a7 l7 c7 => gSlice (fr 9) fun a9 l9 c9 => D3.t R a1 l1 c1 a7 l7 c7 a9 l9 c9 h
theorem D3.ok (R : Rt) (fr : Fr) (h : Hp) (g : D3.g R fr h) : den prog E (cAt C [true, true, true, true, true, true]) (retQ E [.tmp 4] R) fr h := by
  obtain ⟨a1, l1, c1, e1, g⟩ := gSlice_elim g
  obtain ⟨a7, l7, c7, e7, g⟩ := gSlice_elim g
  obtain ⟨a9, l9, c9, e9, g⟩ := gSlice_elim g
  exact den_cut 4 (r := (cAt C [true, true, true, true, true, true, true, true, true, true])) (by kernel_rfl) (W10.ok R) (den_enter [(1, .slice a1 l1 c1), (7, .slice a7 l7 c7), (9, .slice a9 l9 c9)] ⟨e1, e7, e9, trivial⟩ (by kernel_rfl) g)
def D2.t (R : Rt) (s0 : ByteArray) (a1 : Option Addr) (l1 : Nat) (c1 : Nat) (h : Hp) : Prop :=
  HC natdiv_Read.id #[.string s0] h fun v12 h13 =>
  gTup v12 fun y14 =>
  uncons y14 fun v15 y15 =>
  gSlice v15 fun a_16 l_16 c_16 =>
  uncons y15 fun v17 y17 =>
  gInt .i64 v17 fun x_18 =>
  unnil y17 <| HC natdiv_Read.id #[.string s0] h13 fun v19 h20 =>
  gTup v19 fun y21 =>
  uncons y21 fun v22 y22 =>
  gSlice v22 fun a_23 l_23 c_23 =>
  uncons y22 fun v24 y24 =>
  gInt .i64 v24 fun x_25 =>
  unnil y24 <| cond (x_18 != x_25) (R (.bool false) h20) (HQC gnomonref01_Same.id #[.slice a_16 l_16 c_16, .slice a_23 l_23 c_23] h20 fun v26 =>
  gBool v26 fun b_27 =>
  cond (!b_27) (R (.bool false) h20) (D3.t R a1 l1 c1 a_16 l_16 c_16 a_23 l_23 c_23 h20))
def D2.g (R : Rt) (fr : Fr) (h : Hp) : Prop := gStr (fr 0) fun s0 => gSlice (fr 1) fun a1 l1 c1 => D2.t R s0 a1 l1 c1 h
theorem D2.ok (R : Rt) (fr : Fr) (h : Hp) (g : D2.g R fr h) : den prog E (cAt C [true, true, true]) (retQ E [.tmp 4] R) fr h := by
  obtain ⟨s0, e0, g⟩ := gStr_elim g
  obtain ⟨a1, l1, c1, e1, g⟩ := gSlice_elim g
  exact den_cut 3 (r := (cAt C [true, true, true, true, true, true])) (by kernel_rfl) (D3.ok R) (den_enter [(0, .string s0), (1, .slice a1 l1 c1)] ⟨e0, e1, trivial⟩ (by kernel_rfl) g)
def D1.t (R : Rt) (s0 : ByteArray) (a1 : Option Addr) (l1 : Nat) (c1 : Nat) (h : Hp) : Prop :=
  HC natdiv_Read.id #[.string (⟨#[48, 48, 52, 48]⟩ : ByteArray)] h fun v1 h2 =>
  gTup v1 fun y3 =>
  uncons y3 fun v4 y4 =>
  gSlice v4 fun a_5 l_5 c_5 =>
  uncons y4 fun v6 y6 =>
  gInt .i64 v6 fun x_7 =>
  unnil y6 <| cond (x_7 != 0) (R (.bool false) h2) (boxK h2 27 [.int .u64 40] fun q8 h9 =>
  HQC gnomonref01_Same.id #[.slice a_5 l_5 c_5, .slice (some q8) 1 1] h9 fun v10 =>
  gBool v10 fun b_11 =>
  cond (!b_11) (R (.bool false) h9) (D2.t R s0 a1 l1 c1 h9))
def D1.g (R : Rt) (fr : Fr) (h : Hp) : Prop := gStr (fr 0) fun s0 => gSlice (fr 1) fun a1 l1 c1 => D1.t R s0 a1 l1 c1 h
theorem D1.ok (R : Rt) (fr : Fr) (h : Hp) (g : D1.g R fr h) : den prog E C (retQ E [.tmp 4] R) fr h := by
  obtain ⟨s0, e0, g⟩ := gStr_elim g
  obtain ⟨a1, l1, c1, e1, g⟩ := gSlice_elim g
  exact den_cut 3 (r := (cAt C [true, true, true])) (by kernel_rfl) (D2.ok R) (den_enter [(0, .string s0), (1, .slice a1 l1 c1)] ⟨e0, e1, trivial⟩ (by kernel_rfl) g)
def t (s0 : ByteArray) (a1 : Option Addr) (l1 : Nat) (c1 : Nat) (h : Hp) (R : Rt) : Prop := D1.t R s0 a1 l1 c1 h
theorem ok {s0 : ByteArray} {a1 : Option Addr} {l1 : Nat} {c1 : Nat} {h : Hp} {R : Rt} (g : t s0 a1 l1 c1 h R) : HC id #[.string s0, .slice a1 l1 c1] h R :=
  calls_of_den' envOk (c := C) (rs := [.tmp 4]) Try.func6 (by kernel_rfl) (by kernel_rfl) (by kernel_rfl) (args := [.string s0, .slice a1 l1 c1]) (by kernel_rfl) (D1.ok R _ h (gStr_intro rfl (gSlice_intro rfl (g))))
end gnomonlaw03_NatdivReadMemory




namespace natdiv_Read
noncomputable def C : Code := bodyOf Try.f13
def D2.t (R : Rt) (a4 : Option Addr) (l4 : Nat) (c4 : Nat) (h : Hp) : Prop :=
  R (.tuple #[.slice a4 l4 c4, .int .i64 0]) h
def D2.g (R : Rt) (fr : Fr) (h : Hp) : Prop := gSlice (fr 4) fun a4 l4 c4 => D2.t R a4 l4 c4 h
theorem D2.ok (R : Rt) (fr : Fr) (h : Hp) (g : D2.g R fr h) : den prog E (cAt C [true, true, true, true, true, true, true]) (retQ E [.tmp 2, .tmp 3] R) fr h := by
  obtain ⟨a4, l4, c4, e4, g⟩ := gSlice_elim g
  exact den_enter [(4, .slice a4 l4 c4)] ⟨e4, trivial⟩ (by kernel_rfl) g
def L4.g (N : ByteArray → Option Addr → Nat → Nat → Int → Int → Addr → Hp → Prop) (fr : Fr) (h : Hp) : Prop := gStr (fr 0) fun s0 => gSlice (fr 4) fun a4 l4 c4 => gInt .u64 (fr 5) fun x5 => gInt .u64 (fr 6) fun x6 => gPtrS (fr 15) fun q15 => N s0 a4 l4 c4 x5 x6 q15 h
def D5.t (R : Rt) (N4 : ByteArray → Option Addr → Nat → Nat → Int → Int → Addr → Hp → Prop) (s0 : ByteArray) (a4 : Option Addr) (l4 : Nat) (c4 : Nat) (x5 : Int) (x6 : Int) (q15 : Addr) (h : Hp) : Prop :=
  nxK h q15 (fun n3 m3 h4 =>
  cond (decide (m3 < 48)) (R (.tuple #[.slice none 0 0, .int .i64 8]) h4) (cond (decide (m3 > 57)) (R (.tuple #[.slice none 0 0, .int .i64 8]) h4) (letK (IntKind.u64.wrap (x5 * 10)) fun n5 =>
  letK (IntKind.i32.wrap (m3 - 48)) fun n6 =>
  letK (IntKind.u64.wrap n6) fun n7 =>
  letK (IntKind.u64.wrap (n5 + n7)) fun n8 =>
  letK (IntKind.u64.wrap (x6 * 10)) fun n9 =>
  cond (n9 == 10000000000000000000) (HC nat_MulWord.id #[.slice a4 l4 c4, .int .u64 n9] h4 fun v10 h11 =>
  gTup v10 fun y12 =>
  uncons y12 fun v13 y13 =>
  gSlice v13 fun a_14 l_14 c_14 =>
  uncons y13 fun v15 y15 =>
  gInt .i64 v15 fun x_16 =>
  unnil y15 <| HC nat_Word.id #[.int .u64 n8] h11 fun v17 h18 =>
  gSlice v17 fun a_19 l_19 c_19 =>
  HC nat_Add.id #[.slice a_14 l_14 c_14, .slice a_19 l_19 c_19] h18 fun v20 h21 =>
  gTup v20 fun y22 =>
  uncons y22 fun v23 y23 =>
  gSlice v23 fun a_24 l_24 c_24 =>
  uncons y23 fun v25 y25 =>
  gInt .i64 v25 fun x_26 =>
  unnil y25 <| N4 s0 a_24 l_24 c_24 0 1 q15 h21) (letK (IntKind.i64.wrap ((((s0.size : Nat) : Int)) - 1)) fun n27 =>
  cond (n3 == n27) (HC nat_MulWord.id #[.slice a4 l4 c4, .int .u64 n9] h4 fun v28 h29 =>
  gTup v28 fun y30 =>
  uncons y30 fun v31 y31 =>
  gSlice v31 fun a_32 l_32 c_32 =>
  uncons y31 fun v33 y33 =>
  gInt .i64 v33 fun x_34 =>
  unnil y33 <| HC nat_Word.id #[.int .u64 n8] h29 fun v35 h36 =>
  gSlice v35 fun a_37 l_37 c_37 =>
  HC nat_Add.id #[.slice a_32 l_32 c_32, .slice a_37 l_37 c_37] h36 fun v38 h39 =>
  gTup v38 fun y40 =>
  uncons y40 fun v41 y41 =>
  gSlice v41 fun a_42 l_42 c_42 =>
  uncons y41 fun v43 y43 =>
  gInt .i64 v43 fun x_44 =>
  unnil y43 <| N4 s0 a_42 l_42 c_42 0 1 q15 h39) (N4 s0 a4 l4 c4 n8 n9 q15 h4))))) (D2.t R a4 l4 c4 h)
def D5.g (R : Rt) (N4 : ByteArray → Option Addr → Nat → Nat → Int → Int → Addr → Hp → Prop) (fr : Fr) (h : Hp) : Prop := gStr (fr 0) fun s0 => gSlice (fr 4) fun a4 l4 c4 => gInt .u64 (fr 5) fun x5 => gInt .u64 (fr 6) fun x6 => gPtrS (fr 15) fun q15 => D5.t R N4 s0 a4 l4 c4 x5 x6 q15 h
theorem D5.ok (R : Rt) (N4 : ByteArray → Option Addr → Nat → Nat → Int → Int → Addr → Hp → Prop) (fr : Fr) (h : Hp) (g : D5.g R N4 fr h) : den prog E (cAt C [true, true, true, true, true, true, false, true, false, false]) (Ex.then (L4.g N4) (Ex.inBlock 0 (Ex.then (D2.g R) (retQ E [.tmp 2, .tmp 3] R)))) fr h := by
  obtain ⟨s0, e0, g⟩ := gStr_elim g
  obtain ⟨a4, l4, c4, e4, g⟩ := gSlice_elim g
  obtain ⟨x5, e5, g⟩ := gInt_elim g
  obtain ⟨x6, e6, g⟩ := gInt_elim g
  obtain ⟨q15, e15, g⟩ := gPtrS_elim g
  exact den_enter [(0, .string s0), (4, .slice a4 l4 c4), (5, .int .u64 x5), (6, .int .u64 x6), (15, .pointer (some q15))] ⟨e0, e4, e5, e6, e15, trivial⟩ (by kernel_rfl) g
def L4.t (R : Rt) : Nat → ByteArray → Option Addr → Nat → Nat → Int → Int → Addr → Hp → Prop
  | 0 => fun _ _ _ _ _ _ _ _ => False
  | n + 1 => fun s0 a4 l4 c4 x5 x6 q15 h => D5.t R (L4.t R n) s0 a4 l4 c4 x5 x6 q15 h
theorem L4.ok (R : Rt) (fr : Fr) (h : Hp) (g : L4.g (fun s0 a4 l4 c4 x5 x6 q15 h => ∃ n, L4.t R n s0 a4 l4 c4 x5 x6 q15 h) fr h) : den prog E (cAt C [true, true, true, true, true, true, false, true, false]) (Ex.inBlock 0 (Ex.then (D2.g R) (retQ E [.tmp 2, .tmp 3] R))) fr h := by
  obtain ⟨s0, e0, g⟩ := gStr_elim g
  obtain ⟨a4, l4, c4, e4, g⟩ := gSlice_elim g
  obtain ⟨x5, e5, g⟩ := gInt_elim g
  obtain ⟨x6, e6, g⟩ := gInt_elim g
  obtain ⟨q15, e15, g⟩ := gPtrS_elim g
  obtain ⟨n, g⟩ := g
  refine loop_ok (fun n => L4.g (L4.t R n)) (b := (cAt C [true, true, true, true, true, true, false, true, false, false])) (by kernel_rfl) (fun fr h g => ?_) (fun n => D5.ok R (L4.t R n)) n fr h (gStr_intro e0 (gSlice_intro e4 (gInt_intro e5 (gInt_intro e6 (gPtrS_intro e15 (g))))))
  obtain ⟨s0, e0, g⟩ := gStr_elim g
  obtain ⟨a4, l4, c4, e4, g⟩ := gSlice_elim g
  obtain ⟨x5, e5, g⟩ := gInt_elim g
  obtain ⟨x6, e6, g⟩ := gInt_elim g
  obtain ⟨q15, e15, g⟩ := gPtrS_elim g
  exact g
theorem B6.ok (R : Rt) (fr : Fr) (h : Hp) (g : L4.g (fun s0 a4 l4 c4 x5 x6 q15 h => ∃ n, L4.t R n s0 a4 l4 c4 x5 x6 q15 h) fr h) : den prog E (cAt C [true, true, true, true, true, true, false, true]) (Ex.then (D2.g R) (retQ E [.tmp 2, .tmp 3] R)) fr h :=
  den_block (by kernel_rfl) (L4.ok R fr h g)
def D3.t (R : Rt) (s0 : ByteArray) (a4 : Option Addr) (l4 : Nat) (c4 : Nat) (x5 : Int) (x6 : Int) (h : Hp) : Prop :=
  rgK h s0 fun q1 h2 => (∃ n, L4.t R n s0 a4 l4 c4 x5 x6 q1 h2)
def D3.g (R : Rt) (fr : Fr) (h : Hp) : Prop := gStr (fr 0) fun s0 => gSlice (fr 4) fun a4 l4 c4 => gInt .u64 (fr 5) fun x5 => gInt .u64 (fr 6) fun x6 => D3.t R s0 a4 l4 c4 x5 x6 h
theorem D3.ok (R : Rt) (fr : Fr) (h : Hp) (g : D3.g R fr h) : den prog E (cAt C [true, true, true, true, true, true, false]) (Ex.then (D2.g R) (retQ E [.tmp 2, .tmp 3] R)) fr h := by
  obtain ⟨s0, e0, g⟩ := gStr_elim g
  obtain ⟨a4, l4, c4, e4, g⟩ := gSlice_elim g
  obtain ⟨x5, e5, g⟩ := gInt_elim g
  obtain ⟨x6, e6, g⟩ := gInt_elim g
  exact den_cut 1 (r := (cAt C [true, true, true, true, true, true, false, true])) (by kernel_rfl) (B6.ok R) (den_enter [(0, .string s0), (4, .slice a4 l4 c4), (5, .int .u64 x5), (6, .int .u64 x6)] ⟨e0, e4, e5, e6, trivial⟩ (by kernel_rfl) g)
theorem W7.ok (R : Rt) (fr : Fr) (h : Hp) (g : D3.g R fr h) : den prog E (cAt C [true, true, true, true, true, true]) (retQ E [.tmp 2, .tmp 3] R) fr h :=
  den_then (by kernel_rfl) (D2.ok R) (D3.ok R fr h g)
def D1.t (R : Rt) (s0 : ByteArray) (h : Hp) : Prop :=
  cond (decide ((((s0.size : Nat) : Int)) > 4900)) (R (.tuple #[.slice none 0 0, .int .i64 7]) h) (cond (s0.toList == (⟨#[]⟩ : ByteArray).toList) (R (.tuple #[.slice none 0 0, .int .i64 8]) h) (D3.t R s0 none 0 0 0 1 h))
def D1.g (R : Rt) (fr : Fr) (h : Hp) : Prop := gStr (fr 0) fun s0 => D1.t R s0 h
theorem D1.ok (R : Rt) (fr : Fr) (h : Hp) (g : D1.g R fr h) : den prog E C (retQ E [.tmp 2, .tmp 3] R) fr h := by
  obtain ⟨s0, e0, g⟩ := gStr_elim g
  exact den_cut 6 (r := (cAt C [true, true, true, true, true, true])) (by kernel_rfl) (W7.ok R) (den_enter [(0, .string s0)] ⟨e0, trivial⟩ (by kernel_rfl) g)
def t (s0 : ByteArray) (h : Hp) (R : Rt) : Prop := D1.t R s0 h
theorem ok {s0 : ByteArray} {h : Hp} {R : Rt} (g : t s0 h R) : HC id #[.string s0] h R :=
  calls_of_den' envOk (c := C) (rs := [.tmp 2, .tmp 3]) Try.func13 (by kernel_rfl) (by kernel_rfl) (by kernel_rfl) (args := [.string s0]) (by kernel_rfl) (D1.ok R _ h (gStr_intro rfl (g)))
end natdiv_Read

namespace gnomonref01_Same
noncomputable def C : Code := bodyOf Try.f14
def D2.t (R : Rt)  (h : Hp) : Prop :=
  R (.bool true) h
def D2.g (R : Rt) (fr : Fr) (h : Hp) : Prop := D2.t R  h
theorem D2.ok (R : Rt) (fr : Fr) (h : Hp) (g : D2.g R fr h) : den prog E (cAt C [true, true, true]) (retQ E [.tmp 4] R) fr h := by
  exact den_enter [] trivial (by kernel_rfl) g
def L4.g (N : Option Addr → Nat → Nat → Option Addr → Nat → Nat → Int → Hp → Prop) (fr : Fr) (h : Hp) : Prop := gSlice (fr 0) fun a0 l0 c0 => gSlice (fr 1) fun a1 l1 c1 => gInt .i64 (fr 5) fun x5 => N a0 l0 c0 a1 l1 c1 x5 h
def D5.t (R : Rt) (N4 : Option Addr → Nat → Nat → Option Addr → Nat → Nat → Int → Hp → Prop) (a0 : Option Addr) (l0 : Nat) (c0 : Nat) (a1 : Option Addr) (l1 : Nat) (c1 : Nat) (x5 : Int) (h : Hp) : Prop :=
  cond (decide (x5 < (((l0 : Nat) : Int)))) (idxK a0 l0 x5 1 fun q1 =>
  ldK h q1 fun v2 =>
  gInt .u64 v2 fun x_3 =>
  idxK a1 l1 x5 1 fun q4 =>
  ldK h q4 fun v5 =>
  gInt .u64 v5 fun x_6 =>
  cond (x_3 != x_6) (R (.bool false) h) (letK (IntKind.i64.wrap (x5 + 1)) fun n7 =>
  N4 a0 l0 c0 a1 l1 c1 n7 h)) (D2.t R h)
def D5.g (R : Rt) (N4 : Option Addr → Nat → Nat → Option Addr → Nat → Nat → Int → Hp → Prop) (fr : Fr) (h : Hp) : Prop := gSlice (fr 0) fun a0 l0 c0 => gSlice (fr 1) fun a1 l1 c1 => gInt .i64 (fr 5) fun x5 => D5.t R N4 a0 l0 c0 a1 l1 c1 x5 h
theorem D5.ok (R : Rt) (N4 : Option Addr → Nat → Nat → Option Addr → Nat → Nat → Int → Hp → Prop) (fr : Fr) (h : Hp) (g : D5.g R N4 fr h) : den prog E (cAt C [true, true, false, true, false, false]) (Ex.then (L4.g N4) (Ex.inBlock 0 (Ex.then (D2.g R) (retQ E [.tmp 4] R)))) fr h := by
  obtain ⟨a0, l0, c0, e0, g⟩ := gSlice_elim g
  obtain ⟨a1, l1, c1, e1, g⟩ := gSlice_elim g
  obtain ⟨x5, e5, g⟩ := gInt_elim g
  exact den_enter [(0, .slice a0 l0 c0), (1, .slice a1 l1 c1), (5, .int .i64 x5)] ⟨e0, e1, e5, trivial⟩ (by kernel_rfl) g
def L4.t (R : Rt) : Nat → Option Addr → Nat → Nat → Option Addr → Nat → Nat → Int → Hp → Prop
  | 0 => fun _ _ _ _ _ _ _ _ => False
  | n + 1 => fun a0 l0 c0 a1 l1 c1 x5 h => D5.t R (L4.t R n) a0 l0 c0 a1 l1 c1 x5 h
theorem L4.ok (R : Rt) (fr : Fr) (h : Hp) (g : L4.g (fun a0 l0 c0 a1 l1 c1 x5 h => ∃ n, L4.t R n a0 l0 c0 a1 l1 c1 x5 h) fr h) : den prog E (cAt C [true, true, false, true, false]) (Ex.inBlock 0 (Ex.then (D2.g R) (retQ E [.tmp 4] R))) fr h := by
  obtain ⟨a0, l0, c0, e0, g⟩ := gSlice_elim g
  obtain ⟨a1, l1, c1, e1, g⟩ := gSlice_elim g
  obtain ⟨x5, e5, g⟩ := gInt_elim g
  obtain ⟨n, g⟩ := g
  refine loop_ok (fun n => L4.g (L4.t R n)) (b := (cAt C [true, true, false, true, false, false])) (by kernel_rfl) (fun fr h g => ?_) (fun n => D5.ok R (L4.t R n)) n fr h (gSlice_intro e0 (gSlice_intro e1 (gInt_intro e5 (g))))
  obtain ⟨a0, l0, c0, e0, g⟩ := gSlice_elim g
  obtain ⟨a1, l1, c1, e1, g⟩ := gSlice_elim g
  obtain ⟨x5, e5, g⟩ := gInt_elim g
  exact g
theorem B6.ok (R : Rt) (fr : Fr) (h : Hp) (g : L4.g (fun a0 l0 c0 a1 l1 c1 x5 h => ∃ n, L4.t R n a0 l0 c0 a1 l1 c1 x5 h) fr h) : den prog E (cAt C [true, true, false, true]) (Ex.then (D2.g R) (retQ E [.tmp 4] R)) fr h :=
  den_block (by kernel_rfl) (L4.ok R fr h g)
def D3.t (R : Rt) (a0 : Option Addr) (l0 : Nat) (c0 : Nat) (a1 : Option Addr) (l1 : Nat) (c1 : Nat) (h : Hp) : Prop :=
  (∃ n, L4.t R n a0 l0 c0 a1 l1 c1 0 h)
def D3.g (R : Rt) (fr : Fr) (h : Hp) : Prop := gSlice (fr 0) fun a0 l0 c0 => gSlice (fr 1) fun a1 l1 c1 => D3.t R a0 l0 c0 a1 l1 c1 h
theorem D3.ok (R : Rt) (fr : Fr) (h : Hp) (g : D3.g R fr h) : den prog E (cAt C [true, true, false]) (Ex.then (D2.g R) (retQ E [.tmp 4] R)) fr h := by
  obtain ⟨a0, l0, c0, e0, g⟩ := gSlice_elim g
  obtain ⟨a1, l1, c1, e1, g⟩ := gSlice_elim g
  exact den_cut 1 (r := (cAt C [true, true, false, true])) (by kernel_rfl) (B6.ok R) (den_enter [(0, .slice a0 l0 c0), (1, .slice a1 l1 c1)] ⟨e0, e1, trivial⟩ (by kernel_rfl) g)
theorem W7.ok (R : Rt) (fr : Fr) (h : Hp) (g : D3.g R fr h) : den prog E (cAt C [true, true]) (retQ E [.tmp 4] R) fr h :=
  den_then (by kernel_rfl) (D2.ok R) (D3.ok R fr h g)
def D1.t (R : Rt) (a0 : Option Addr) (l0 : Nat) (c0 : Nat) (a1 : Option Addr) (l1 : Nat) (c1 : Nat) (h : Hp) : Prop :=
  cond ((((l0 : Nat) : Int)) != (((l1 : Nat) : Int))) (R (.bool false) h) (D3.t R a0 l0 c0 a1 l1 c1 h)
def D1.g (R : Rt) (fr : Fr) (h : Hp) : Prop := gSlice (fr 0) fun a0 l0 c0 => gSlice (fr 1) fun a1 l1 c1 => D1.t R a0 l0 c0 a1 l1 c1 h
theorem D1.ok (R : Rt) (fr : Fr) (h : Hp) (g : D1.g R fr h) : den prog E C (retQ E [.tmp 4] R) fr h := by
  obtain ⟨a0, l0, c0, e0, g⟩ := gSlice_elim g
  obtain ⟨a1, l1, c1, e1, g⟩ := gSlice_elim g
  exact den_cut 2 (r := (cAt C [true, true])) (by kernel_rfl) (W7.ok R) (den_enter [(0, .slice a0 l0 c0), (1, .slice a1 l1 c1)] ⟨e0, e1, trivial⟩ (by kernel_rfl) g)
def t (a0 : Option Addr) (l0 : Nat) (c0 : Nat) (a1 : Option Addr) (l1 : Nat) (c1 : Nat) (h : Hp) (R : Rt) : Prop := D1.t R a0 l0 c0 a1 l1 c1 h
theorem ok {a0 : Option Addr} {l0 : Nat} {c0 : Nat} {a1 : Option Addr} {l1 : Nat} {c1 : Nat} {h : Hp} {R : Rt} (g : t a0 l0 c0 a1 l1 c1 h R) : HC id #[.slice a0 l0 c0, .slice a1 l1 c1] h R :=
  calls_of_den' envOk (c := C) (rs := [.tmp 4]) Try.func14 (by kernel_rfl) (by kernel_rfl) (by kernel_rfl) (args := [.slice a0 l0 c0, .slice a1 l1 c1]) (by kernel_rfl) (D1.ok R _ h (gSlice_intro rfl (gSlice_intro rfl (g))))
end gnomonref01_Same


namespace natdiv_Text
noncomputable def C : Code := bodyOf Try.f16
def D3.t (R : Rt) (q8 : Addr) (h : Hp) : Prop :=
  HC strings_Builder_Len.id #[.pointer (some q8)] h fun v9 h10 =>
  gInt .i64 v9 fun x_11 =>
  cond (x_11 == 0) (R (.tuple #[.string (⟨#[48]⟩ : ByteArray), .int .i64 0]) h10) (HC strings_Builder_Len.id #[.pointer (some q8)] h10 fun v12 h13 =>
  gInt .i64 v12 fun x_14 =>
  cond (decide (x_14 > 4900)) (R (.tuple #[.string (⟨#[]⟩ : ByteArray), .int .i64 5]) h13) (HC strings_Builder_String.id #[.pointer (some q8)] h13 fun v15 h16 =>
  gStr v15 fun s_17 =>
  R (.tuple #[.string s_17, .int .i64 0]) h16))
def D3.g (R : Rt) (fr : Fr) (h : Hp) : Prop := gPtrS (fr 8) fun q8 => D3.t R q8 h
theorem D3.ok (R : Rt) (fr : Fr) (h : Hp) (g : D3.g R fr h) : den prog E (cAt C [true, true, true, true, true, true, true]) (retQ E [.tmp 2, .tmp 3] R) fr h := by
  obtain ⟨q8, e8, g⟩ := gPtrS_elim g
  exact den_enter [(8, .pointer (some q8))] ⟨e8, trivial⟩ (by kernel_rfl) g
def L5.g (N : Option Addr → Nat → Nat → Addr → Int → Int → Hp → Prop) (fr : Fr) (h : Hp) : Prop := gSlice (fr 4) fun a4 l4 c4 => gPtrS (fr 8) fun q8 => gInt .i64 (fr 40) fun x40 => gInt .i64 (fr 41) fun x41 => N a4 l4 c4 q8 x40 x41 h
def D6.t (R : Rt) (N5 : Option Addr → Nat → Nat → Addr → Int → Int → Hp → Prop) (a4 : Option Addr) (l4 : Nat) (c4 : Nat) (q8 : Addr) (x40 : Int) (x41 : Int) (h : Hp) : Prop :=
  cond (decide (x41 < x40)) (letK (IntKind.i64.wrap ((((l4 : Nat) : Int)) - 1)) fun n18 =>
  letK (IntKind.i64.wrap (n18 - x41)) fun n19 =>
  idxK a4 l4 n19 1 fun q20 =>
  ldK h q20 fun v21 =>
  gInt .u8 v21 fun x_22 =>
  cond (x_22 != 48) (HC strings_Builder_WriteByte.id #[.pointer (some q8), .int .u8 x_22] h fun v23 h24 =>
  letK (IntKind.i64.wrap (x41 + 1)) fun n25 =>
  N5 a4 l4 c4 q8 x40 n25 h24) (HC strings_Builder_Len.id #[.pointer (some q8)] h fun v26 h27 =>
  gInt .i64 v26 fun x_28 =>
  cond (decide (x_28 > 0)) (HC strings_Builder_WriteByte.id #[.pointer (some q8), .int .u8 x_22] h27 fun v29 h30 =>
  letK (IntKind.i64.wrap (x41 + 1)) fun n31 =>
  N5 a4 l4 c4 q8 x40 n31 h30) (letK (IntKind.i64.wrap (x41 + 1)) fun n32 =>
  N5 a4 l4 c4 q8 x40 n32 h27))) (D3.t R q8 h)
def D6.g (R : Rt) (N5 : Option Addr → Nat → Nat → Addr → Int → Int → Hp → Prop) (fr : Fr) (h : Hp) : Prop := gSlice (fr 4) fun a4 l4 c4 => gPtrS (fr 8) fun q8 => gInt .i64 (fr 40) fun x40 => gInt .i64 (fr 41) fun x41 => D6.t R N5 a4 l4 c4 q8 x40 x41 h
theorem D6.ok (R : Rt) (N5 : Option Addr → Nat → Nat → Addr → Int → Int → Hp → Prop) (fr : Fr) (h : Hp) (g : D6.g R N5 fr h) : den prog E (cAt C [true, true, true, true, true, true, false, true, false, false]) (Ex.then (L5.g N5) (Ex.inBlock 4 (Ex.then (D3.g R) (retQ E [.tmp 2, .tmp 3] R)))) fr h := by
  obtain ⟨a4, l4, c4, e4, g⟩ := gSlice_elim g
  obtain ⟨q8, e8, g⟩ := gPtrS_elim g
  obtain ⟨x40, e40, g⟩ := gInt_elim g
  obtain ⟨x41, e41, g⟩ := gInt_elim g
  exact den_enter [(4, .slice a4 l4 c4), (8, .pointer (some q8)), (40, .int .i64 x40), (41, .int .i64 x41)] ⟨e4, e8, e40, e41, trivial⟩ (by kernel_rfl) g
def L5.t (R : Rt) : Nat → Option Addr → Nat → Nat → Addr → Int → Int → Hp → Prop
  | 0 => fun _ _ _ _ _ _ _ => False
  | n + 1 => fun a4 l4 c4 q8 x40 x41 h => D6.t R (L5.t R n) a4 l4 c4 q8 x40 x41 h
theorem L5.ok (R : Rt) (fr : Fr) (h : Hp) (g : L5.g (fun a4 l4 c4 q8 x40 x41 h => ∃ n, L5.t R n a4 l4 c4 q8 x40 x41 h) fr h) : den prog E (cAt C [true, true, true, true, true, true, false, true, false]) (Ex.inBlock 4 (Ex.then (D3.g R) (retQ E [.tmp 2, .tmp 3] R))) fr h := by
  obtain ⟨a4, l4, c4, e4, g⟩ := gSlice_elim g
  obtain ⟨q8, e8, g⟩ := gPtrS_elim g
  obtain ⟨x40, e40, g⟩ := gInt_elim g
  obtain ⟨x41, e41, g⟩ := gInt_elim g
  obtain ⟨n, g⟩ := g
  refine loop_ok (fun n => L5.g (L5.t R n)) (b := (cAt C [true, true, true, true, true, true, false, true, false, false])) (by kernel_rfl) (fun fr h g => ?_) (fun n => D6.ok R (L5.t R n)) n fr h (gSlice_intro e4 (gPtrS_intro e8 (gInt_intro e40 (gInt_intro e41 (g)))))
  obtain ⟨a4, l4, c4, e4, g⟩ := gSlice_elim g
  obtain ⟨q8, e8, g⟩ := gPtrS_elim g
  obtain ⟨x40, e40, g⟩ := gInt_elim g
  obtain ⟨x41, e41, g⟩ := gInt_elim g
  exact g
theorem B7.ok (R : Rt) (fr : Fr) (h : Hp) (g : L5.g (fun a4 l4 c4 q8 x40 x41 h => ∃ n, L5.t R n a4 l4 c4 q8 x40 x41 h) fr h) : den prog E (cAt C [true, true, true, true, true, true, false, true]) (Ex.then (D3.g R) (retQ E [.tmp 2, .tmp 3] R)) fr h :=
  den_block (by kernel_rfl) (L5.ok R fr h g)
def D4.t (R : Rt) (a4 : Option Addr) (l4 : Nat) (c4 : Nat) (q8 : Addr) (h : Hp) : Prop :=
  (∃ n, L5.t R n a4 l4 c4 q8 (((l4 : Nat) : Int)) 0 h)
def D4.g (R : Rt) (fr : Fr) (h : Hp) : Prop := gSlice (fr 4) fun a4 l4 c4 => gPtrS (fr 8) fun q8 => D4.t R a4 l4 c4 q8 h
theorem D4.ok (R : Rt) (fr : Fr) (h : Hp) (g : D4.g R fr h) : den prog E (cAt C [true, true, true, true, true, true, false]) (Ex.then (D3.g R) (retQ E [.tmp 2, .tmp 3] R)) fr h := by
  obtain ⟨a4, l4, c4, e4, g⟩ := gSlice_elim g
  obtain ⟨q8, e8, g⟩ := gPtrS_elim g
  exact den_cut 1 (r := (cAt C [true, true, true, true, true, true, false, true])) (by kernel_rfl) (B7.ok R) (den_enter [(4, .slice a4 l4 c4), (8, .pointer (some q8))] ⟨e4, e8, trivial⟩ (by kernel_rfl) g)
theorem W8.ok (R : Rt) (fr : Fr) (h : Hp) (g : D4.g R fr h) : den prog E (cAt C [true, true, true, true, true, true]) (retQ E [.tmp 2, .tmp 3] R) fr h :=
  den_then (by kernel_rfl) (D3.ok R) (D4.ok R fr h g)
def D2.t (R : Rt) (a4 : Option Addr) (l4 : Nat) (c4 : Nat) (h : Hp) : Prop :=
  boxK h 70 T70.zs fun q7 h8 => D4.t R a4 l4 c4 q7 h8
def D2.g (R : Rt) (fr : Fr) (h : Hp) : Prop := gSlice (fr 4) fun a4 l4 c4 => D2.t R a4 l4 c4 h
theorem D2.ok (R : Rt) (fr : Fr) (h : Hp) (g : D2.g R fr h) : den prog E (cAt C [true, true, true, true, true]) (retQ E [.tmp 2, .tmp 3] R) fr h := by
  obtain ⟨a4, l4, c4, e4, g⟩ := gSlice_elim g
  exact den_cut 1 (r := (cAt C [true, true, true, true, true, true])) (by kernel_rfl) (W8.ok R) (den_enter [(4, .slice a4 l4 c4)] ⟨e4, trivial⟩ (by kernel_rfl) g)
def L9.g (N : Option Addr → Nat → Nat → Option Addr → Nat → Nat → Hp → Prop) (fr : Fr) (h : Hp) : Prop := gSlice (fr 0) fun a0 l0 c0 => gSlice (fr 4) fun a4 l4 c4 => N a0 l0 c0 a4 l4 c4 h
def D12.t (R : Rt) (N9 : Option Addr → Nat → Nat → Option Addr → Nat → Nat → Hp → Prop) (a4 : Option Addr) (l4 : Nat) (c4 : Nat) (a5 : Option Addr) (l5 : Nat) (c5 : Nat) (h : Hp) : Prop :=
  N9 a5 l5 c5 a4 l4 c4 h
def D12.g (R : Rt) (N9 : Option Addr → Nat → Nat → Option Addr → Nat → Nat → Hp → Prop) (fr : Fr) (h : Hp) : Prop := gSlice (fr 4) fun a4 l4 c4 => gSlice (fr 5) fun a5 l5 c5 => D12.t R N9 a4 l4 c4 a5 l5 c5 h
theorem D12.ok (R : Rt) (N9 : Option Addr → Nat → Nat → Option Addr → Nat → Nat → Hp → Prop) (fr : Fr) (h : Hp) (g : D12.g R N9 fr h) : den prog E (cAt C [true, true, true, true, false, false, false, true, false, true, true]) (Ex.inBlock 1 (Ex.then (L9.g N9) (Ex.inBlock 0 (Ex.then (D2.g R) (retQ E [.tmp 2, .tmp 3] R))))) fr h := by
  obtain ⟨a4, l4, c4, e4, g⟩ := gSlice_elim g
  obtain ⟨a5, l5, c5, e5, g⟩ := gSlice_elim g
  exact den_enter [(4, .slice a4 l4 c4), (5, .slice a5 l5 c5)] ⟨e4, e5, trivial⟩ (by kernel_rfl) g
def L14.g (N : Option Addr → Nat → Nat → Option Addr → Nat → Nat → Int → Int → Hp → Prop) (fr : Fr) (h : Hp) : Prop := gSlice (fr 4) fun a4 l4 c4 => gSlice (fr 5) fun a5 l5 c5 => gInt .u64 (fr 6) fun x6 => gInt .i64 (fr 26) fun x26 => N a4 l4 c4 a5 l5 c5 x6 x26 h
def D15.t (R : Rt) (N9 : Option Addr → Nat → Nat → Option Addr → Nat → Nat → Hp → Prop) (N14 : Option Addr → Nat → Nat → Option Addr → Nat → Nat → Int → Int → Hp → Prop) (a4 : Option Addr) (l4 : Nat) (c4 : Nat) (a5 : Option Addr) (l5 : Nat) (c5 : Nat) (x6 : Int) (x26 : Int) (h : Hp) : Prop :=
  cond (decide (x26 < 19)) ((10 : Int) ≠ 0 ∧ letK (Int.tmod x6 10) fun n42 =>
  letK (IntKind.u64.wrap (48 + n42)) fun n43 =>
  letK (IntKind.u8.wrap n43) fun n44 =>
  boxK h 5 [.int .u8 n44] fun q45 h46 =>
  apK h46 5 T5 a4 l4 c4 (.slice (some q45) 1 1) fun a_47 l_47 c_47 h47 =>
  (10 : Int) ≠ 0 ∧ letK (IntKind.u64.wrap (Int.tdiv x6 10)) fun n48 =>
  letK (IntKind.i64.wrap (x26 + 1)) fun n49 =>
  N14 a_47 l_47 c_47 a5 l5 c5 n48 n49 h47) (D12.t R N9 a4 l4 c4 a5 l5 c5 h)
def D15.g (R : Rt) (N9 : Option Addr → Nat → Nat → Option Addr → Nat → Nat → Hp → Prop) (N14 : Option Addr → Nat → Nat → Option Addr → Nat → Nat → Int → Int → Hp → Prop) (fr : Fr) (h : Hp) : Prop := gSlice (fr 4) fun a4 l4 c4 => gSlice (fr 5) fun a5 l5 c5 => gInt .u64 (fr 6) fun x6 => gInt .i64 (fr 26) fun x26 => D15.t R N9 N14 a4 l4 c4 a5 l5 c5 x6 x26 h
theorem D15.ok (R : Rt) (N9 : Option Addr → Nat → Nat → Option Addr → Nat → Nat → Hp → Prop) (N14 : Option Addr → Nat → Nat → Option Addr → Nat → Nat → Int → Int → Hp → Prop) (fr : Fr) (h : Hp) (g : D15.g R N9 N14 fr h) : den prog E (cAt C [true, true, true, true, false, false, false, true, false, true, false, true, false, false]) (Ex.then (L14.g N14) (Ex.inBlock 2 (Ex.then (D12.g R N9) (Ex.inBlock 1 (Ex.then (L9.g N9) (Ex.inBlock 0 (Ex.then (D2.g R) (retQ E [.tmp 2, .tmp 3] R)))))))) fr h := by
  obtain ⟨a4, l4, c4, e4, g⟩ := gSlice_elim g
  obtain ⟨a5, l5, c5, e5, g⟩ := gSlice_elim g
  obtain ⟨x6, e6, g⟩ := gInt_elim g
  obtain ⟨x26, e26, g⟩ := gInt_elim g
  exact den_enter [(4, .slice a4 l4 c4), (5, .slice a5 l5 c5), (6, .int .u64 x6), (26, .int .i64 x26)] ⟨e4, e5, e6, e26, trivial⟩ (by kernel_rfl) g
def L14.t (R : Rt) (N9 : Option Addr → Nat → Nat → Option Addr → Nat → Nat → Hp → Prop) : Nat → Option Addr → Nat → Nat → Option Addr → Nat → Nat → Int → Int → Hp → Prop
  | 0 => fun _ _ _ _ _ _ _ _ _ => False
  | n + 1 => fun a4 l4 c4 a5 l5 c5 x6 x26 h => D15.t R N9 (L14.t R N9 n) a4 l4 c4 a5 l5 c5 x6 x26 h
theorem L14.ok (R : Rt) (N9 : Option Addr → Nat → Nat → Option Addr → Nat → Nat → Hp → Prop) (fr : Fr) (h : Hp) (g : L14.g (fun a4 l4 c4 a5 l5 c5 x6 x26 h => ∃ n, L14.t R N9 n a4 l4 c4 a5 l5 c5 x6 x26 h) fr h) : den prog E (cAt C [true, true, true, true, false, false, false, true, false, true, false, true, false]) (Ex.inBlock 2 (Ex.then (D12.g R N9) (Ex.inBlock 1 (Ex.then (L9.g N9) (Ex.inBlock 0 (Ex.then (D2.g R) (retQ E [.tmp 2, .tmp 3] R))))))) fr h := by
  obtain ⟨a4, l4, c4, e4, g⟩ := gSlice_elim g
  obtain ⟨a5, l5, c5, e5, g⟩ := gSlice_elim g
  obtain ⟨x6, e6, g⟩ := gInt_elim g
  obtain ⟨x26, e26, g⟩ := gInt_elim g
  obtain ⟨n, g⟩ := g
  refine loop_ok (fun n => L14.g (L14.t R N9 n)) (b := (cAt C [true, true, true, true, false, false, false, true, false, true, false, true, false, false])) (by kernel_rfl) (fun fr h g => ?_) (fun n => D15.ok R N9 (L14.t R N9 n)) n fr h (gSlice_intro e4 (gSlice_intro e5 (gInt_intro e6 (gInt_intro e26 (g)))))
  obtain ⟨a4, l4, c4, e4, g⟩ := gSlice_elim g
  obtain ⟨a5, l5, c5, e5, g⟩ := gSlice_elim g
  obtain ⟨x6, e6, g⟩ := gInt_elim g
  obtain ⟨x26, e26, g⟩ := gInt_elim g
  exact g
theorem B16.ok (R : Rt) (N9 : Option Addr → Nat → Nat → Option Addr → Nat → Nat → Hp → Prop) (fr : Fr) (h : Hp) (g : L14.g (fun a4 l4 c4 a5 l5 c5 x6 x26 h => ∃ n, L14.t R N9 n a4 l4 c4 a5 l5 c5 x6 x26 h) fr h) : den prog E (cAt C [true, true, true, true, false, false, false, true, false, true, false, true]) (Ex.then (D12.g R N9) (Ex.inBlock 1 (Ex.then (L9.g N9) (Ex.inBlock 0 (Ex.then (D2.g R) (retQ E [.tmp 2, .tmp 3] R)))))) fr h :=
  den_block (by kernel_rfl) (L14.ok R N9 fr h g)
def D13.t (R : Rt) (N9 : Option Addr → Nat → Nat → Option Addr → Nat → Nat → Hp → Prop) (a4 : Option Addr) (l4 : Nat) (c4 : Nat) (a5 : Option Addr) (l5 : Nat) (c5 : Nat) (x6 : Int) (h : Hp) : Prop :=
  (∃ n, L14.t R N9 n a4 l4 c4 a5 l5 c5 x6 0 h)
def D13.g (R : Rt) (N9 : Option Addr → Nat → Nat → Option Addr → Nat → Nat → Hp → Prop) (fr : Fr) (h : Hp) : Prop := gSlice (fr 4) fun a4 l4 c4 => gSlice (fr 5) fun a5 l5 c5 => gInt .u64 (fr 6) fun x6 => D13.t R N9 a4 l4 c4 a5 l5 c5 x6 h
theorem D13.ok (R : Rt) (N9 : Option Addr → Nat → Nat → Option Addr → Nat → Nat → Hp → Prop) (fr : Fr) (h : Hp) (g : D13.g R N9 fr h) : den prog E (cAt C [true, true, true, true, false, false, false, true, false, true, false]) (Ex.then (D12.g R N9) (Ex.inBlock 1 (Ex.then (L9.g N9) (Ex.inBlock 0 (Ex.then (D2.g R) (retQ E [.tmp 2, .tmp 3] R)))))) fr h := by
  obtain ⟨a4, l4, c4, e4, g⟩ := gSlice_elim g
  obtain ⟨a5, l5, c5, e5, g⟩ := gSlice_elim g
  obtain ⟨x6, e6, g⟩ := gInt_elim g
  exact den_cut 1 (r := (cAt C [true, true, true, true, false, false, false, true, false, true, false, true])) (by kernel_rfl) (B16.ok R N9) (den_enter [(4, .slice a4 l4 c4), (5, .slice a5 l5 c5), (6, .int .u64 x6)] ⟨e4, e5, e6, trivial⟩ (by kernel_rfl) g)
theorem W17.ok (R : Rt) (N9 : Option Addr → Nat → Nat → Option Addr → Nat → Nat → Hp → Prop) (fr : Fr) (h : Hp) (g : D13.g R N9 fr h) : den prog E (cAt C [true, true, true, true, false, false, false, true, false, true]) (Ex.inBlock 1 (Ex.then (L9.g N9) (Ex.inBlock 0 (Ex.then (D2.g R) (retQ E [.tmp 2, .tmp 3] R))))) fr h :=
  den_then (by kernel_rfl) (D12.ok R N9) (D13.ok R N9 fr h g)
def D11.t (R : Rt) (N9 : Option Addr → Nat → Nat → Option Addr → Nat → Nat → Hp → Prop) (a0 : Option Addr) (l0 : Nat) (c0 : Nat) (a4 : Option Addr) (l4 : Nat) (c4 : Nat) (h : Hp) : Prop :=
  HC nat_DivWord.id #[.slice a0 l0 c0, .int .u64 10000000000000000000] h fun v33 h34 =>
  gTup v33 fun y35 =>
  uncons y35 fun v36 y36 =>
  gSlice v36 fun a_37 l_37 c_37 =>
  uncons y36 fun v38 y38 =>
  gInt .u64 v38 fun x_39 =>
  uncons y38 fun v40 y40 =>
  gInt .i64 v40 fun x_41 =>
  unnil y40 <| D13.t R N9 a4 l4 c4 a_37 l_37 c_37 x_39 h34
def D11.g (R : Rt) (N9 : Option Addr → Nat → Nat → Option Addr → Nat → Nat → Hp → Prop) (fr : Fr) (h : Hp) : Prop := gSlice (fr 0) fun a0 l0 c0 => gSlice (fr 4) fun a4 l4 c4 => D11.t R N9 a0 l0 c0 a4 l4 c4 h
theorem D11.ok (R : Rt) (N9 : Option Addr → Nat → Nat → Option Addr → Nat → Nat → Hp → Prop) (fr : Fr) (h : Hp) (g : D11.g R N9 fr h) : den prog E (cAt C [true, true, true, true, false, false, false, true, false]) (Ex.inBlock 1 (Ex.then (L9.g N9) (Ex.inBlock 0 (Ex.then (D2.g R) (retQ E [.tmp 2, .tmp 3] R))))) fr h := by
  obtain ⟨a0, l0, c0, e0, g⟩ := gSlice_elim g
  obtain ⟨a4, l4, c4, e4, g⟩ := gSlice_elim g
  exact den_cut 1 (r := (cAt C [true, true, true, true, false, false, false, true, false, true])) (by kernel_rfl) (W17.ok R N9) (den_enter [(0, .slice a0 l0 c0), (4, .slice a4 l4 c4)] ⟨e0, e4, trivial⟩ (by kernel_rfl) g)
theorem B18.ok (R : Rt) (N9 : Option Addr → Nat → Nat → Option Addr → Nat → Nat → Hp → Prop) (fr : Fr) (h : Hp) (g : D11.g R N9 fr h) : den prog E (cAt C [true, true, true, true, false, false, false, true]) (Ex.then (L9.g N9) (Ex.inBlock 0 (Ex.then (D2.g R) (retQ E [.tmp 2, .tmp 3] R)))) fr h :=
  den_block (by kernel_rfl) (D11.ok R N9 fr h g)
def D10.t (R : Rt) (N9 : Option Addr → Nat → Nat → Option Addr → Nat → Nat → Hp → Prop) (a0 : Option Addr) (l0 : Nat) (c0 : Nat) (a4 : Option Addr) (l4 : Nat) (c4 : Nat) (h : Hp) : Prop :=
  cond (decide ((((l0 : Nat) : Int)) > 0)) (D11.t R N9 a0 l0 c0 a4 l4 c4 h) (D2.t R a4 l4 c4 h)
def D10.g (R : Rt) (N9 : Option Addr → Nat → Nat → Option Addr → Nat → Nat → Hp → Prop) (fr : Fr) (h : Hp) : Prop := gSlice (fr 0) fun a0 l0 c0 => gSlice (fr 4) fun a4 l4 c4 => D10.t R N9 a0 l0 c0 a4 l4 c4 h
theorem D10.ok (R : Rt) (N9 : Option Addr → Nat → Nat → Option Addr → Nat → Nat → Hp → Prop) (fr : Fr) (h : Hp) (g : D10.g R N9 fr h) : den prog E (cAt C [true, true, true, true, false, false, false]) (Ex.then (L9.g N9) (Ex.inBlock 0 (Ex.then (D2.g R) (retQ E [.tmp 2, .tmp 3] R)))) fr h := by
  obtain ⟨a0, l0, c0, e0, g⟩ := gSlice_elim g
  obtain ⟨a4, l4, c4, e4, g⟩ := gSlice_elim g
  exact den_cut 1 (r := (cAt C [true, true, true, true, false, false, false, true])) (by kernel_rfl) (B18.ok R N9) (den_enter [(0, .slice a0 l0 c0), (4, .slice a4 l4 c4)] ⟨e0, e4, trivial⟩ (by kernel_rfl) g)
def L9.t (R : Rt) : Nat → Option Addr → Nat → Nat → Option Addr → Nat → Nat → Hp → Prop
  | 0 => fun _ _ _ _ _ _ _ => False
  | n + 1 => fun a0 l0 c0 a4 l4 c4 h => D10.t R (L9.t R n) a0 l0 c0 a4 l4 c4 h
theorem L9.ok (R : Rt) (fr : Fr) (h : Hp) (g : L9.g (fun a0 l0 c0 a4 l4 c4 h => ∃ n, L9.t R n a0 l0 c0 a4 l4 c4 h) fr h) : den prog E (cAt C [true, true, true, true, false, false]) (Ex.inBlock 0 (Ex.then (D2.g R) (retQ E [.tmp 2, .tmp 3] R))) fr h := by
  obtain ⟨a0, l0, c0, e0, g⟩ := gSlice_elim g
  obtain ⟨a4, l4, c4, e4, g⟩ := gSlice_elim g
  obtain ⟨n, g⟩ := g
  refine loop_ok (fun n => L9.g (L9.t R n)) (b := (cAt C [true, true, true, true, false, false, false])) (by kernel_rfl) (fun fr h g => ?_) (fun n => D10.ok R (L9.t R n)) n fr h (gSlice_intro e0 (gSlice_intro e4 (g)))
  obtain ⟨a0, l0, c0, e0, g⟩ := gSlice_elim g
  obtain ⟨a4, l4, c4, e4, g⟩ := gSlice_elim g
  exact g
theorem B19.ok (R : Rt) (fr : Fr) (h : Hp) (g : L9.g (fun a0 l0 c0 a4 l4 c4 h => ∃ n, L9.t R n a0 l0 c0 a4 l4 c4 h) fr h) : den prog E (cAt C [true, true, true, true, false]) (Ex.then (D2.g R) (retQ E [.tmp 2, .tmp 3] R)) fr h :=
  den_block (by kernel_rfl) (L9.ok R fr h g)
theorem W20.ok (R : Rt) (fr : Fr) (h : Hp) (g : L9.g (fun a0 l0 c0 a4 l4 c4 h => ∃ n, L9.t R n a0 l0 c0 a4 l4 c4 h) fr h) : den prog E (cAt C [true, true, true, true]) (retQ E [.tmp 2, .tmp 3] R) fr h :=
  den_then (by kernel_rfl) (D2.ok R) (B19.ok R fr h g)
def D1.t (R : Rt) (a0 : Option Addr) (l0 : Nat) (c0 : Nat) (h : Hp) : Prop :=
  HC nat_Form.id #[.slice a0 l0 c0] h fun v1 h2 =>
  gBool v1 fun b_3 =>
  cond (!b_3) (R (.tuple #[.string (⟨#[]⟩ : ByteArray), .int .i64 2]) h2) (HC nat_Bits.id #[.slice a0 l0 c0] h2 fun v4 h5 =>
  gInt .i64 v4 fun x_6 =>
  cond (decide (x_6 > 16278)) (R (.tuple #[.string (⟨#[]⟩ : ByteArray), .int .i64 5]) h5) ((∃ n, L9.t R n a0 l0 c0 none 0 0 h5)))
def D1.g (R : Rt) (fr : Fr) (h : Hp) : Prop := gSlice (fr 0) fun a0 l0 c0 => D1.t R a0 l0 c0 h
theorem D1.ok (R : Rt) (fr : Fr) (h : Hp) (g : D1.g R fr h) : den prog E C (retQ E [.tmp 2, .tmp 3] R) fr h := by
  obtain ⟨a0, l0, c0, e0, g⟩ := gSlice_elim g
  exact den_cut 4 (r := (cAt C [true, true, true, true])) (by kernel_rfl) (W20.ok R) (den_enter [(0, .slice a0 l0 c0)] ⟨e0, trivial⟩ (by kernel_rfl) g)
def t (a0 : Option Addr) (l0 : Nat) (c0 : Nat) (h : Hp) (R : Rt) : Prop := D1.t R a0 l0 c0 h
theorem ok {a0 : Option Addr} {l0 : Nat} {c0 : Nat} {h : Hp} {R : Rt} (g : t a0 l0 c0 h R) : HC id #[.slice a0 l0 c0] h R :=
  calls_of_den' envOk (c := C) (rs := [.tmp 2, .tmp 3]) Try.func16 (by kernel_rfl) (by kernel_rfl) (by kernel_rfl) (args := [.slice a0 l0 c0]) (by kernel_rfl) (D1.ok R _ h (gSlice_intro rfl (g)))
end natdiv_Text




namespace gnomonlaw03_roomy
noncomputable def C : Code := bodyOf Try.f20
def D2.t (R : Rt) (a0 : Option Addr) (l0 : Nat) (c0 : Nat) (a6 : Option Addr) (l6 : Nat) (c6 : Nat) (h : Hp) : Prop :=
  slK 1 a6 l6 c6 none (some (.int .i64 (((l0 : Nat) : Int)))) none fun a_5 l_5 c_5 =>
  R (.tuple #[.slice a_5 l_5 c_5, .slice a6 l6 c6]) h
def D2.g (R : Rt) (fr : Fr) (h : Hp) : Prop := gSlice (fr 0) fun a0 l0 c0 => gSlice (fr 6) fun a6 l6 c6 => D2.t R a0 l0 c0 a6 l6 c6 h
theorem D2.ok (R : Rt) (fr : Fr) (h : Hp) (g : D2.g R fr h) : den prog E (cAt C [true, true, true, true]) (retQ E [.tmp 4, .tmp 5] R) fr h := by
  obtain ⟨a0, l0, c0, e0, g⟩ := gSlice_elim g
  obtain ⟨a6, l6, c6, e6, g⟩ := gSlice_elim g
  exact den_enter [(0, .slice a0 l0 c0), (6, .slice a6 l6 c6)] ⟨e0, e6, trivial⟩ (by kernel_rfl) g
def L4.g (N : Option Addr → Nat → Nat → Int → Option Addr → Nat → Nat → Int → Hp → Prop) (fr : Fr) (h : Hp) : Prop := gSlice (fr 0) fun a0 l0 c0 => gInt .i64 (fr 1) fun x1 => gSlice (fr 6) fun a6 l6 c6 => gInt .i64 (fr 7) fun x7 => N a0 l0 c0 x1 a6 l6 c6 x7 h
def D5.t (R : Rt) (N4 : Option Addr → Nat → Nat → Int → Option Addr → Nat → Nat → Int → Hp → Prop) (a0 : Option Addr) (l0 : Nat) (c0 : Nat) (x1 : Int) (a6 : Option Addr) (l6 : Nat) (c6 : Nat) (x7 : Int) (h : Hp) : Prop :=
  cond (decide (x7 < 6)) (letK (IntKind.i64.wrap (300000 + x7)) fun n6 =>
  HQC gnomonlaw03_mark.id #[.int .i64 x1, .int .i64 n6] h fun v7 =>
  gInt .u64 v7 fun x_8 =>
  boxK h 27 [.int .u64 x_8] fun q9 h10 =>
  apK h10 27 T27 a6 l6 c6 (.slice (some q9) 1 1) fun a_11 l_11 c_11 h11 =>
  letK (IntKind.i64.wrap (x7 + 1)) fun n12 =>
  N4 a0 l0 c0 x1 a_11 l_11 c_11 n12 h11) (D2.t R a0 l0 c0 a6 l6 c6 h)
def D5.g (R : Rt) (N4 : Option Addr → Nat → Nat → Int → Option Addr → Nat → Nat → Int → Hp → Prop) (fr : Fr) (h : Hp) : Prop := gSlice (fr 0) fun a0 l0 c0 => gInt .i64 (fr 1) fun x1 => gSlice (fr 6) fun a6 l6 c6 => gInt .i64 (fr 7) fun x7 => D5.t R N4 a0 l0 c0 x1 a6 l6 c6 x7 h
theorem D5.ok (R : Rt) (N4 : Option Addr → Nat → Nat → Int → Option Addr → Nat → Nat → Int → Hp → Prop) (fr : Fr) (h : Hp) (g : D5.g R N4 fr h) : den prog E (cAt C [true, true, true, false, true, false, false]) (Ex.then (L4.g N4) (Ex.inBlock 0 (Ex.then (D2.g R) (retQ E [.tmp 4, .tmp 5] R)))) fr h := by
  obtain ⟨a0, l0, c0, e0, g⟩ := gSlice_elim g
  obtain ⟨x1, e1, g⟩ := gInt_elim g
  obtain ⟨a6, l6, c6, e6, g⟩ := gSlice_elim g
  obtain ⟨x7, e7, g⟩ := gInt_elim g
  exact den_enter [(0, .slice a0 l0 c0), (1, .int .i64 x1), (6, .slice a6 l6 c6), (7, .int .i64 x7)] ⟨e0, e1, e6, e7, trivial⟩ (by kernel_rfl) g
def L4.t (R : Rt) : Nat → Option Addr → Nat → Nat → Int → Option Addr → Nat → Nat → Int → Hp → Prop
  | 0 => fun _ _ _ _ _ _ _ _ _ => False
  | n + 1 => fun a0 l0 c0 x1 a6 l6 c6 x7 h => D5.t R (L4.t R n) a0 l0 c0 x1 a6 l6 c6 x7 h
theorem L4.ok (R : Rt) (fr : Fr) (h : Hp) (g : L4.g (fun a0 l0 c0 x1 a6 l6 c6 x7 h => ∃ n, L4.t R n a0 l0 c0 x1 a6 l6 c6 x7 h) fr h) : den prog E (cAt C [true, true, true, false, true, false]) (Ex.inBlock 0 (Ex.then (D2.g R) (retQ E [.tmp 4, .tmp 5] R))) fr h := by
  obtain ⟨a0, l0, c0, e0, g⟩ := gSlice_elim g
  obtain ⟨x1, e1, g⟩ := gInt_elim g
  obtain ⟨a6, l6, c6, e6, g⟩ := gSlice_elim g
  obtain ⟨x7, e7, g⟩ := gInt_elim g
  obtain ⟨n, g⟩ := g
  refine loop_ok (fun n => L4.g (L4.t R n)) (b := (cAt C [true, true, true, false, true, false, false])) (by kernel_rfl) (fun fr h g => ?_) (fun n => D5.ok R (L4.t R n)) n fr h (gSlice_intro e0 (gInt_intro e1 (gSlice_intro e6 (gInt_intro e7 (g)))))
  obtain ⟨a0, l0, c0, e0, g⟩ := gSlice_elim g
  obtain ⟨x1, e1, g⟩ := gInt_elim g
  obtain ⟨a6, l6, c6, e6, g⟩ := gSlice_elim g
  obtain ⟨x7, e7, g⟩ := gInt_elim g
  exact g
theorem B6.ok (R : Rt) (fr : Fr) (h : Hp) (g : L4.g (fun a0 l0 c0 x1 a6 l6 c6 x7 h => ∃ n, L4.t R n a0 l0 c0 x1 a6 l6 c6 x7 h) fr h) : den prog E (cAt C [true, true, true, false, true]) (Ex.then (D2.g R) (retQ E [.tmp 4, .tmp 5] R)) fr h :=
  den_block (by kernel_rfl) (L4.ok R fr h g)
def D3.t (R : Rt) (a0 : Option Addr) (l0 : Nat) (c0 : Nat) (x1 : Int) (a6 : Option Addr) (l6 : Nat) (c6 : Nat) (h : Hp) : Prop :=
  (∃ n, L4.t R n a0 l0 c0 x1 a6 l6 c6 0 h)
def D3.g (R : Rt) (fr : Fr) (h : Hp) : Prop := gSlice (fr 0) fun a0 l0 c0 => gInt .i64 (fr 1) fun x1 => gSlice (fr 6) fun a6 l6 c6 => D3.t R a0 l0 c0 x1 a6 l6 c6 h
theorem D3.ok (R : Rt) (fr : Fr) (h : Hp) (g : D3.g R fr h) : den prog E (cAt C [true, true, true, false]) (Ex.then (D2.g R) (retQ E [.tmp 4, .tmp 5] R)) fr h := by
  obtain ⟨a0, l0, c0, e0, g⟩ := gSlice_elim g
  obtain ⟨x1, e1, g⟩ := gInt_elim g
  obtain ⟨a6, l6, c6, e6, g⟩ := gSlice_elim g
  exact den_cut 1 (r := (cAt C [true, true, true, false, true])) (by kernel_rfl) (B6.ok R) (den_enter [(0, .slice a0 l0 c0), (1, .int .i64 x1), (6, .slice a6 l6 c6)] ⟨e0, e1, e6, trivial⟩ (by kernel_rfl) g)
theorem W7.ok (R : Rt) (fr : Fr) (h : Hp) (g : D3.g R fr h) : den prog E (cAt C [true, true, true]) (retQ E [.tmp 4, .tmp 5] R) fr h :=
  den_then (by kernel_rfl) (D2.ok R) (D3.ok R fr h g)
def D1.t (R : Rt) (a0 : Option Addr) (l0 : Nat) (c0 : Nat) (x1 : Int) (h : Hp) : Prop :=
  letK (IntKind.i64.wrap ((((l0 : Nat) : Int)) + 6)) fun n1 =>
  mkK h 27 T27 0 n1 fun q2 h3 =>
  apK h3 27 T27 (some q2) ((0 : Int).toNat) n1.toNat (.slice a0 l0 c0) fun a_4 l_4 c_4 h4 =>
  D3.t R a0 l0 c0 x1 a_4 l_4 c_4 h4
def D1.g (R : Rt) (fr : Fr) (h : Hp) : Prop := gSlice (fr 0) fun a0 l0 c0 => gInt .i64 (fr 1) fun x1 => D1.t R a0 l0 c0 x1 h
theorem D1.ok (R : Rt) (fr : Fr) (h : Hp) (g : D1.g R fr h) : den prog E C (retQ E [.tmp 4, .tmp 5] R) fr h := by
  obtain ⟨a0, l0, c0, e0, g⟩ := gSlice_elim g
  obtain ⟨x1, e1, g⟩ := gInt_elim g
  exact den_cut 3 (r := (cAt C [true, true, true])) (by kernel_rfl) (W7.ok R) (den_enter [(0, .slice a0 l0 c0), (1, .int .i64 x1)] ⟨e0, e1, trivial⟩ (by kernel_rfl) g)
def t (a0 : Option Addr) (l0 : Nat) (c0 : Nat) (x1 : Int) (h : Hp) (R : Rt) : Prop := D1.t R a0 l0 c0 x1 h
theorem ok {a0 : Option Addr} {l0 : Nat} {c0 : Nat} {x1 : Int} {h : Hp} {R : Rt} (g : t a0 l0 c0 x1 h R) : HC id #[.slice a0 l0 c0, .int .i64 x1] h R :=
  calls_of_den' envOk (c := C) (rs := [.tmp 4, .tmp 5]) Try.func20 (by kernel_rfl) (by kernel_rfl) (by kernel_rfl) (args := [.slice a0 l0 c0, .int .i64 x1]) (by kernel_rfl) (D1.ok R _ h (gSlice_intro rfl (gInt_intro rfl (g))))
end gnomonlaw03_roomy

namespace gnomonlaw03_kept
noncomputable def C : Code := bodyOf Try.f21
def D2.t (R : Rt) (a0 : Option Addr) (l0 : Nat) (c0 : Nat) (a1 : Option Addr) (l1 : Nat) (c1 : Nat) (h : Hp) : Prop :=
  letK (IntKind.i64.wrap ((((l0 : Nat) : Int)) + 6)) fun n1 => R (.bool ((((l1 : Nat) : Int)) == n1)) h
def D2.g (R : Rt) (fr : Fr) (h : Hp) : Prop := gSlice (fr 0) fun a0 l0 c0 => gSlice (fr 1) fun a1 l1 c1 => D2.t R a0 l0 c0 a1 l1 c1 h
theorem D2.ok (R : Rt) (fr : Fr) (h : Hp) (g : D2.g R fr h) : den prog E (cAt C [true, true]) (retQ E [.tmp 6] R) fr h := by
  obtain ⟨a0, l0, c0, e0, g⟩ := gSlice_elim g
  obtain ⟨a1, l1, c1, e1, g⟩ := gSlice_elim g
  exact den_enter [(0, .slice a0 l0 c0), (1, .slice a1 l1 c1)] ⟨e0, e1, trivial⟩ (by kernel_rfl) g
def L4.g (N : Option Addr → Nat → Nat → Option Addr → Nat → Nat → Int → Int → Hp → Prop) (fr : Fr) (h : Hp) : Prop := gSlice (fr 0) fun a0 l0 c0 => gSlice (fr 1) fun a1 l1 c1 => gInt .i64 (fr 2) fun x2 => gInt .i64 (fr 7) fun x7 => N a0 l0 c0 a1 l1 c1 x2 x7 h
def D5.t (R : Rt) (N4 : Option Addr → Nat → Nat → Option Addr → Nat → Nat → Int → Int → Hp → Prop) (a0 : Option Addr) (l0 : Nat) (c0 : Nat) (a1 : Option Addr) (l1 : Nat) (c1 : Nat) (x2 : Int) (x7 : Int) (h : Hp) : Prop :=
  cond (decide (x7 < (((l1 : Nat) : Int)))) (cond (decide (x7 < (((l0 : Nat) : Int)))) (idxK a1 l1 x7 1 fun q2 =>
  ldK h q2 fun v3 =>
  gInt .u64 v3 fun x_4 =>
  idxK a0 l0 x7 1 fun q5 =>
  ldK h q5 fun v6 =>
  gInt .u64 v6 fun x_7 =>
  cond (x_4 != x_7) (R (.bool false) h) (cond (decide (x7 ≥ (((l0 : Nat) : Int)))) (idxK a1 l1 x7 1 fun q8 =>
  ldK h q8 fun v9 =>
  gInt .u64 v9 fun x_10 =>
  letK (IntKind.i64.wrap (300000 + x7)) fun n11 =>
  letK (IntKind.i64.wrap (n11 - (((l0 : Nat) : Int)))) fun n12 =>
  HQC gnomonlaw03_mark.id #[.int .i64 x2, .int .i64 n12] h fun v13 =>
  gInt .u64 v13 fun x_14 =>
  cond (x_10 != x_14) (R (.bool false) h) (letK (IntKind.i64.wrap (x7 + 1)) fun n15 =>
  N4 a0 l0 c0 a1 l1 c1 x2 n15 h)) (letK (IntKind.i64.wrap (x7 + 1)) fun n16 =>
  N4 a0 l0 c0 a1 l1 c1 x2 n16 h))) (cond (decide (x7 ≥ (((l0 : Nat) : Int)))) (idxK a1 l1 x7 1 fun q17 =>
  ldK h q17 fun v18 =>
  gInt .u64 v18 fun x_19 =>
  letK (IntKind.i64.wrap (300000 + x7)) fun n20 =>
  letK (IntKind.i64.wrap (n20 - (((l0 : Nat) : Int)))) fun n21 =>
  HQC gnomonlaw03_mark.id #[.int .i64 x2, .int .i64 n21] h fun v22 =>
  gInt .u64 v22 fun x_23 =>
  cond (x_19 != x_23) (R (.bool false) h) (letK (IntKind.i64.wrap (x7 + 1)) fun n24 =>
  N4 a0 l0 c0 a1 l1 c1 x2 n24 h)) (letK (IntKind.i64.wrap (x7 + 1)) fun n25 =>
  N4 a0 l0 c0 a1 l1 c1 x2 n25 h))) (D2.t R a0 l0 c0 a1 l1 c1 h)
def D5.g (R : Rt) (N4 : Option Addr → Nat → Nat → Option Addr → Nat → Nat → Int → Int → Hp → Prop) (fr : Fr) (h : Hp) : Prop := gSlice (fr 0) fun a0 l0 c0 => gSlice (fr 1) fun a1 l1 c1 => gInt .i64 (fr 2) fun x2 => gInt .i64 (fr 7) fun x7 => D5.t R N4 a0 l0 c0 a1 l1 c1 x2 x7 h
theorem D5.ok (R : Rt) (N4 : Option Addr → Nat → Nat → Option Addr → Nat → Nat → Int → Int → Hp → Prop) (fr : Fr) (h : Hp) (g : D5.g R N4 fr h) : den prog E (cAt C [true, false, true, false, false]) (Ex.then (L4.g N4) (Ex.inBlock 0 (Ex.then (D2.g R) (retQ E [.tmp 6] R)))) fr h := by
  obtain ⟨a0, l0, c0, e0, g⟩ := gSlice_elim g
  obtain ⟨a1, l1, c1, e1, g⟩ := gSlice_elim g
  obtain ⟨x2, e2, g⟩ := gInt_elim g
  obtain ⟨x7, e7, g⟩ := gInt_elim g
  exact den_enter [(0, .slice a0 l0 c0), (1, .slice a1 l1 c1), (2, .int .i64 x2), (7, .int .i64 x7)] ⟨e0, e1, e2, e7, trivial⟩ (by kernel_rfl) g
def L4.t (R : Rt) : Nat → Option Addr → Nat → Nat → Option Addr → Nat → Nat → Int → Int → Hp → Prop
  | 0 => fun _ _ _ _ _ _ _ _ _ => False
  | n + 1 => fun a0 l0 c0 a1 l1 c1 x2 x7 h => D5.t R (L4.t R n) a0 l0 c0 a1 l1 c1 x2 x7 h
theorem L4.ok (R : Rt) (fr : Fr) (h : Hp) (g : L4.g (fun a0 l0 c0 a1 l1 c1 x2 x7 h => ∃ n, L4.t R n a0 l0 c0 a1 l1 c1 x2 x7 h) fr h) : den prog E (cAt C [true, false, true, false]) (Ex.inBlock 0 (Ex.then (D2.g R) (retQ E [.tmp 6] R))) fr h := by
  obtain ⟨a0, l0, c0, e0, g⟩ := gSlice_elim g
  obtain ⟨a1, l1, c1, e1, g⟩ := gSlice_elim g
  obtain ⟨x2, e2, g⟩ := gInt_elim g
  obtain ⟨x7, e7, g⟩ := gInt_elim g
  obtain ⟨n, g⟩ := g
  refine loop_ok (fun n => L4.g (L4.t R n)) (b := (cAt C [true, false, true, false, false])) (by kernel_rfl) (fun fr h g => ?_) (fun n => D5.ok R (L4.t R n)) n fr h (gSlice_intro e0 (gSlice_intro e1 (gInt_intro e2 (gInt_intro e7 (g)))))
  obtain ⟨a0, l0, c0, e0, g⟩ := gSlice_elim g
  obtain ⟨a1, l1, c1, e1, g⟩ := gSlice_elim g
  obtain ⟨x2, e2, g⟩ := gInt_elim g
  obtain ⟨x7, e7, g⟩ := gInt_elim g
  exact g
theorem B6.ok (R : Rt) (fr : Fr) (h : Hp) (g : L4.g (fun a0 l0 c0 a1 l1 c1 x2 x7 h => ∃ n, L4.t R n a0 l0 c0 a1 l1 c1 x2 x7 h) fr h) : den prog E (cAt C [true, false, true]) (Ex.then (D2.g R) (retQ E [.tmp 6] R)) fr h :=
  den_block (by kernel_rfl) (L4.ok R fr h g)
def D3.t (R : Rt) (a0 : Option Addr) (l0 : Nat) (c0 : Nat) (a1 : Option Addr) (l1 : Nat) (c1 : Nat) (x2 : Int) (h : Hp) : Prop :=
  (∃ n, L4.t R n a0 l0 c0 a1 l1 c1 x2 0 h)
def D3.g (R : Rt) (fr : Fr) (h : Hp) : Prop := gSlice (fr 0) fun a0 l0 c0 => gSlice (fr 1) fun a1 l1 c1 => gInt .i64 (fr 2) fun x2 => D3.t R a0 l0 c0 a1 l1 c1 x2 h
theorem D3.ok (R : Rt) (fr : Fr) (h : Hp) (g : D3.g R fr h) : den prog E (cAt C [true, false]) (Ex.then (D2.g R) (retQ E [.tmp 6] R)) fr h := by
  obtain ⟨a0, l0, c0, e0, g⟩ := gSlice_elim g
  obtain ⟨a1, l1, c1, e1, g⟩ := gSlice_elim g
  obtain ⟨x2, e2, g⟩ := gInt_elim g
  exact den_cut 1 (r := (cAt C [true, false, true])) (by kernel_rfl) (B6.ok R) (den_enter [(0, .slice a0 l0 c0), (1, .slice a1 l1 c1), (2, .int .i64 x2)] ⟨e0, e1, e2, trivial⟩ (by kernel_rfl) g)
theorem W7.ok (R : Rt) (fr : Fr) (h : Hp) (g : D3.g R fr h) : den prog E (cAt C [true]) (retQ E [.tmp 6] R) fr h :=
  den_then (by kernel_rfl) (D2.ok R) (D3.ok R fr h g)
def D1.t (R : Rt) (a0 : Option Addr) (l0 : Nat) (c0 : Nat) (a1 : Option Addr) (l1 : Nat) (c1 : Nat) (x2 : Int) (h : Hp) : Prop :=
  D3.t R a0 l0 c0 a1 l1 c1 x2 h
def D1.g (R : Rt) (fr : Fr) (h : Hp) : Prop := gSlice (fr 0) fun a0 l0 c0 => gSlice (fr 1) fun a1 l1 c1 => gInt .i64 (fr 2) fun x2 => D1.t R a0 l0 c0 a1 l1 c1 x2 h
theorem D1.ok (R : Rt) (fr : Fr) (h : Hp) (g : D1.g R fr h) : den prog E C (retQ E [.tmp 6] R) fr h := by
  obtain ⟨a0, l0, c0, e0, g⟩ := gSlice_elim g
  obtain ⟨a1, l1, c1, e1, g⟩ := gSlice_elim g
  obtain ⟨x2, e2, g⟩ := gInt_elim g
  exact den_cut 1 (r := (cAt C [true])) (by kernel_rfl) (W7.ok R) (den_enter [(0, .slice a0 l0 c0), (1, .slice a1 l1 c1), (2, .int .i64 x2)] ⟨e0, e1, e2, trivial⟩ (by kernel_rfl) g)
def t (a0 : Option Addr) (l0 : Nat) (c0 : Nat) (a1 : Option Addr) (l1 : Nat) (c1 : Nat) (x2 : Int) (h : Hp) (R : Rt) : Prop := D1.t R a0 l0 c0 a1 l1 c1 x2 h
theorem ok {a0 : Option Addr} {l0 : Nat} {c0 : Nat} {a1 : Option Addr} {l1 : Nat} {c1 : Nat} {x2 : Int} {h : Hp} {R : Rt} (g : t a0 l0 c0 a1 l1 c1 x2 h R) : HC id #[.slice a0 l0 c0, .slice a1 l1 c1, .int .i64 x2] h R :=
  calls_of_den' envOk (c := C) (rs := [.tmp 6]) Try.func21 (by kernel_rfl) (by kernel_rfl) (by kernel_rfl) (args := [.slice a0 l0 c0, .slice a1 l1 c1, .int .i64 x2]) (by kernel_rfl) (D1.ok R _ h (gSlice_intro rfl (gSlice_intro rfl (gInt_intro rfl (g)))))
end gnomonlaw03_kept

namespace gnomonlaw03_mark
noncomputable def C : Code := bodyOf Try.f22
def D1.t (R : Rt) (x0 : Int) (x1 : Int) (h : Hp) : Prop :=
  letK (IntKind.i64.wrap (x0 + 1)) fun n1 =>
  letK (IntKind.u64.wrap n1) fun n2 =>
  letK (IntKind.u64.wrap (n2 * 1000003)) fun n3 =>
  letK (IntKind.u64.wrap x1) fun n4 =>
  letK (IntKind.u64.wrap (n4 * 7919)) fun n5 =>
  letK (IntKind.u64.wrap (n3 + n5)) fun n6 =>
  letK (IntKind.u64.wrap (n6 + 6485183463413514240)) fun n7 =>
  R (.int .u64 n7) h
def D1.g (R : Rt) (fr : Fr) (h : Hp) : Prop := gInt .i64 (fr 0) fun x0 => gInt .i64 (fr 1) fun x1 => D1.t R x0 x1 h
theorem D1.ok (R : Rt) (fr : Fr) (h : Hp) (g : D1.g R fr h) : den prog E C (retQ E [.tmp 4] R) fr h := by
  obtain ⟨x0, e0, g⟩ := gInt_elim g
  obtain ⟨x1, e1, g⟩ := gInt_elim g
  exact den_enter [(0, .int .i64 x0), (1, .int .i64 x1)] ⟨e0, e1, trivial⟩ (by kernel_rfl) g
def t (x0 : Int) (x1 : Int) (h : Hp) (R : Rt) : Prop := D1.t R x0 x1 h
theorem ok {x0 : Int} {x1 : Int} {h : Hp} {R : Rt} (g : t x0 x1 h R) : HC id #[.int .i64 x0, .int .i64 x1] h R :=
  calls_of_den' envOk (c := C) (rs := [.tmp 4]) Try.func22 (by kernel_rfl) (by kernel_rfl) (by kernel_rfl) (args := [.int .i64 x0, .int .i64 x1]) (by kernel_rfl) (D1.ok R _ h (gInt_intro rfl (gInt_intro rfl (g))))
end gnomonlaw03_mark

namespace gnomonlaw03_apart
noncomputable def C : Code := bodyOf Try.f23
def D4.t (R : Rt)  (h : Hp) : Prop :=
  R (.bool true) h
def D4.g (R : Rt) (fr : Fr) (h : Hp) : Prop := D4.t R  h
theorem D4.ok (R : Rt) (fr : Fr) (h : Hp) (g : D4.g R fr h) : den prog E (cAt C [true, true, true, true, true, true, true, true]) (retQ E [.tmp 2] R) fr h := by
  exact den_enter [] trivial (by kernel_rfl) g
def L6.g (N : Option Addr → Nat → Nat → Option Addr → Nat → Nat → Int → Hp → Prop) (fr : Fr) (h : Hp) : Prop := gSlice (fr 0) fun a0 l0 c0 => gSlice (fr 5) fun a5 l5 c5 => gInt .i64 (fr 15) fun x15 => N a0 l0 c0 a5 l5 c5 x15 h
def D8.t (R : Rt) (N6 : Option Addr → Nat → Nat → Option Addr → Nat → Nat → Int → Hp → Prop) (a0 : Option Addr) (l0 : Nat) (c0 : Nat) (a5 : Option Addr) (l5 : Nat) (c5 : Nat) (x15 : Int) (h : Hp) : Prop :=
  letK (IntKind.i64.wrap (x15 + 1)) fun n5 => N6 a0 l0 c0 a5 l5 c5 n5 h
def D8.g (R : Rt) (N6 : Option Addr → Nat → Nat → Option Addr → Nat → Nat → Int → Hp → Prop) (fr : Fr) (h : Hp) : Prop := gSlice (fr 0) fun a0 l0 c0 => gSlice (fr 5) fun a5 l5 c5 => gInt .i64 (fr 15) fun x15 => D8.t R N6 a0 l0 c0 a5 l5 c5 x15 h
theorem D8.ok (R : Rt) (N6 : Option Addr → Nat → Nat → Option Addr → Nat → Nat → Int → Hp → Prop) (fr : Fr) (h : Hp) (g : D8.g R N6 fr h) : den prog E (cAt C [true, true, true, true, true, true, true, false, true, false, false, true, true]) (Ex.then (L6.g N6) (Ex.inBlock 16 (Ex.then (D4.g R) (retQ E [.tmp 2] R)))) fr h := by
  obtain ⟨a0, l0, c0, e0, g⟩ := gSlice_elim g
  obtain ⟨a5, l5, c5, e5, g⟩ := gSlice_elim g
  obtain ⟨x15, e15, g⟩ := gInt_elim g
  exact den_enter [(0, .slice a0 l0 c0), (5, .slice a5 l5 c5), (15, .int .i64 x15)] ⟨e0, e5, e15, trivial⟩ (by kernel_rfl) g
def L10.g (N : Option Addr → Nat → Nat → Option Addr → Nat → Nat → Int → Int → Int → Hp → Prop) (fr : Fr) (h : Hp) : Prop := gSlice (fr 0) fun a0 l0 c0 => gSlice (fr 5) fun a5 l5 c5 => gInt .i64 (fr 15) fun x15 => gInt .i64 (fr 16) fun x16 => gInt .i64 (fr 17) fun x17 => N a0 l0 c0 a5 l5 c5 x15 x16 x17 h
def D11.t (R : Rt) (N6 : Option Addr → Nat → Nat → Option Addr → Nat → Nat → Int → Hp → Prop) (N10 : Option Addr → Nat → Nat → Option Addr → Nat → Nat → Int → Int → Int → Hp → Prop) (a0 : Option Addr) (l0 : Nat) (c0 : Nat) (a5 : Option Addr) (l5 : Nat) (c5 : Nat) (x15 : Int) (x16 : Int) (x17 : Int) (h : Hp) : Prop :=
  letK (IntKind.i64.wrap (x16 + 64)) fun n9 =>
  cond (decide (x17 < n9)) (cond (decide (x17 < x16)) (idxK a0 l0 x15 1 fun q10 =>
  ldK h q10 fun v11 =>
  gSlice v11 fun a_12 l_12 c_12 =>
  idxK a_12 l_12 x17 1 fun q13 =>
  ldK h q13 fun v14 =>
  gInt .u64 v14 fun x_15 =>
  HQC gnomonlaw03_mark.id #[.int .i64 x15, .int .i64 x17] h fun v16 =>
  gInt .u64 v16 fun x_17 =>
  cond (x_15 != x_17) (R (.bool false) h) (cond (decide (x17 ≥ x16)) (idxK a5 l5 x15 1 fun q18 =>
  ldK h q18 fun v19 =>
  gSlice v19 fun a_20 l_20 c_20 =>
  idxK a_20 l_20 x17 1 fun q21 =>
  ldK h q21 fun v22 =>
  gInt .u64 v22 fun x_23 =>
  letK (IntKind.i64.wrap (200000 + x17)) fun n24 =>
  letK (IntKind.i64.wrap (n24 - x16)) fun n25 =>
  HQC gnomonlaw03_mark.id #[.int .i64 x15, .int .i64 n25] h fun v26 =>
  gInt .u64 v26 fun x_27 =>
  cond (x_23 != x_27) (R (.bool false) h) (letK (IntKind.i64.wrap (x17 + 1)) fun n28 =>
  N10 a0 l0 c0 a5 l5 c5 x15 x16 n28 h)) (letK (IntKind.i64.wrap (x17 + 1)) fun n29 =>
  N10 a0 l0 c0 a5 l5 c5 x15 x16 n29 h))) (cond (decide (x17 ≥ x16)) (idxK a5 l5 x15 1 fun q30 =>
  ldK h q30 fun v31 =>
  gSlice v31 fun a_32 l_32 c_32 =>
  idxK a_32 l_32 x17 1 fun q33 =>
  ldK h q33 fun v34 =>
  gInt .u64 v34 fun x_35 =>
  letK (IntKind.i64.wrap (200000 + x17)) fun n36 =>
  letK (IntKind.i64.wrap (n36 - x16)) fun n37 =>
  HQC gnomonlaw03_mark.id #[.int .i64 x15, .int .i64 n37] h fun v38 =>
  gInt .u64 v38 fun x_39 =>
  cond (x_35 != x_39) (R (.bool false) h) (letK (IntKind.i64.wrap (x17 + 1)) fun n40 =>
  N10 a0 l0 c0 a5 l5 c5 x15 x16 n40 h)) (letK (IntKind.i64.wrap (x17 + 1)) fun n41 =>
  N10 a0 l0 c0 a5 l5 c5 x15 x16 n41 h))) (D8.t R N6 a0 l0 c0 a5 l5 c5 x15 h)
def D11.g (R : Rt) (N6 : Option Addr → Nat → Nat → Option Addr → Nat → Nat → Int → Hp → Prop) (N10 : Option Addr → Nat → Nat → Option Addr → Nat → Nat → Int → Int → Int → Hp → Prop) (fr : Fr) (h : Hp) : Prop := gSlice (fr 0) fun a0 l0 c0 => gSlice (fr 5) fun a5 l5 c5 => gInt .i64 (fr 15) fun x15 => gInt .i64 (fr 16) fun x16 => gInt .i64 (fr 17) fun x17 => D11.t R N6 N10 a0 l0 c0 a5 l5 c5 x15 x16 x17 h
theorem D11.ok (R : Rt) (N6 : Option Addr → Nat → Nat → Option Addr → Nat → Nat → Int → Hp → Prop) (N10 : Option Addr → Nat → Nat → Option Addr → Nat → Nat → Int → Int → Int → Hp → Prop) (fr : Fr) (h : Hp) (g : D11.g R N6 N10 fr h) : den prog E (cAt C [true, true, true, true, true, true, true, false, true, false, false, true, false, false, true, true, false, false]) (Ex.then (L10.g N10) (Ex.inBlock 18 (Ex.inBlock 17 (Ex.then (D8.g R N6) (Ex.then (L6.g N6) (Ex.inBlock 16 (Ex.then (D4.g R) (retQ E [.tmp 2] R)))))))) fr h := by
  obtain ⟨a0, l0, c0, e0, g⟩ := gSlice_elim g
  obtain ⟨a5, l5, c5, e5, g⟩ := gSlice_elim g
  obtain ⟨x15, e15, g⟩ := gInt_elim g
  obtain ⟨x16, e16, g⟩ := gInt_elim g
  obtain ⟨x17, e17, g⟩ := gInt_elim g
  exact den_enter [(0, .slice a0 l0 c0), (5, .slice a5 l5 c5), (15, .int .i64 x15), (16, .int .i64 x16), (17, .int .i64 x17)] ⟨e0, e5, e15, e16, e17, trivial⟩ (by kernel_rfl) g
def L10.t (R : Rt) (N6 : Option Addr → Nat → Nat → Option Addr → Nat → Nat → Int → Hp → Prop) : Nat → Option Addr → Nat → Nat → Option Addr → Nat → Nat → Int → Int → Int → Hp → Prop
  | 0 => fun _ _ _ _ _ _ _ _ _ _ => False
  | n + 1 => fun a0 l0 c0 a5 l5 c5 x15 x16 x17 h => D11.t R N6 (L10.t R N6 n) a0 l0 c0 a5 l5 c5 x15 x16 x17 h
theorem L10.ok (R : Rt) (N6 : Option Addr → Nat → Nat → Option Addr → Nat → Nat → Int → Hp → Prop) (fr : Fr) (h : Hp) (g : L10.g (fun a0 l0 c0 a5 l5 c5 x15 x16 x17 h => ∃ n, L10.t R N6 n a0 l0 c0 a5 l5 c5 x15 x16 x17 h) fr h) : den prog E (cAt C [true, true, true, true, true, true, true, false, true, false, false, true, false, false, true, true, false]) (Ex.inBlock 18 (Ex.inBlock 17 (Ex.then (D8.g R N6) (Ex.then (L6.g N6) (Ex.inBlock 16 (Ex.then (D4.g R) (retQ E [.tmp 2] R))))))) fr h := by
  obtain ⟨a0, l0, c0, e0, g⟩ := gSlice_elim g
  obtain ⟨a5, l5, c5, e5, g⟩ := gSlice_elim g
  obtain ⟨x15, e15, g⟩ := gInt_elim g
  obtain ⟨x16, e16, g⟩ := gInt_elim g
  obtain ⟨x17, e17, g⟩ := gInt_elim g
  obtain ⟨n, g⟩ := g
  refine loop_ok (fun n => L10.g (L10.t R N6 n)) (b := (cAt C [true, true, true, true, true, true, true, false, true, false, false, true, false, false, true, true, false, false])) (by kernel_rfl) (fun fr h g => ?_) (fun n => D11.ok R N6 (L10.t R N6 n)) n fr h (gSlice_intro e0 (gSlice_intro e5 (gInt_intro e15 (gInt_intro e16 (gInt_intro e17 (g))))))
  obtain ⟨a0, l0, c0, e0, g⟩ := gSlice_elim g
  obtain ⟨a5, l5, c5, e5, g⟩ := gSlice_elim g
  obtain ⟨x15, e15, g⟩ := gInt_elim g
  obtain ⟨x16, e16, g⟩ := gInt_elim g
  obtain ⟨x17, e17, g⟩ := gInt_elim g
  exact g
theorem B12.ok (R : Rt) (N6 : Option Addr → Nat → Nat → Option Addr → Nat → Nat → Int → Hp → Prop) (fr : Fr) (h : Hp) (g : L10.g (fun a0 l0 c0 a5 l5 c5 x15 x16 x17 h => ∃ n, L10.t R N6 n a0 l0 c0 a5 l5 c5 x15 x16 x17 h) fr h) : den prog E (cAt C [true, true, true, true, true, true, true, false, true, false, false, true, false, false, true, true]) (Ex.inBlock 17 (Ex.then (D8.g R N6) (Ex.then (L6.g N6) (Ex.inBlock 16 (Ex.then (D4.g R) (retQ E [.tmp 2] R)))))) fr h :=
  den_block (by kernel_rfl) (L10.ok R N6 fr h g)
def D9.t (R : Rt) (N6 : Option Addr → Nat → Nat → Option Addr → Nat → Nat → Int → Hp → Prop) (a0 : Option Addr) (l0 : Nat) (c0 : Nat) (a5 : Option Addr) (l5 : Nat) (c5 : Nat) (x15 : Int) (h : Hp) : Prop :=
  idxK a0 l0 x15 1 fun q6 =>
  ldK h q6 fun v7 =>
  gSlice v7 fun a_8 l_8 c_8 =>
  (∃ n, L10.t R N6 n a0 l0 c0 a5 l5 c5 x15 (((l_8 : Nat) : Int)) 0 h)
def D9.g (R : Rt) (N6 : Option Addr → Nat → Nat → Option Addr → Nat → Nat → Int → Hp → Prop) (fr : Fr) (h : Hp) : Prop := gSlice (fr 0) fun a0 l0 c0 => gSlice (fr 5) fun a5 l5 c5 => gInt .i64 (fr 15) fun x15 => D9.t R N6 a0 l0 c0 a5 l5 c5 x15 h
theorem D9.ok (R : Rt) (N6 : Option Addr → Nat → Nat → Option Addr → Nat → Nat → Int → Hp → Prop) (fr : Fr) (h : Hp) (g : D9.g R N6 fr h) : den prog E (cAt C [true, true, true, true, true, true, true, false, true, false, false, true, false, false]) (Ex.inBlock 17 (Ex.then (D8.g R N6) (Ex.then (L6.g N6) (Ex.inBlock 16 (Ex.then (D4.g R) (retQ E [.tmp 2] R)))))) fr h := by
  obtain ⟨a0, l0, c0, e0, g⟩ := gSlice_elim g
  obtain ⟨a5, l5, c5, e5, g⟩ := gSlice_elim g
  obtain ⟨x15, e15, g⟩ := gInt_elim g
  exact den_cut 2 (r := (cAt C [true, true, true, true, true, true, true, false, true, false, false, true, false, false, true, true])) (by kernel_rfl) (B12.ok R N6) (den_enter [(0, .slice a0 l0 c0), (5, .slice a5 l5 c5), (15, .int .i64 x15)] ⟨e0, e5, e15, trivial⟩ (by kernel_rfl) g)
theorem B13.ok (R : Rt) (N6 : Option Addr → Nat → Nat → Option Addr → Nat → Nat → Int → Hp → Prop) (fr : Fr) (h : Hp) (g : D9.g R N6 fr h) : den prog E (cAt C [true, true, true, true, true, true, true, false, true, false, false, true, false]) (Ex.then (D8.g R N6) (Ex.then (L6.g N6) (Ex.inBlock 16 (Ex.then (D4.g R) (retQ E [.tmp 2] R))))) fr h :=
  den_block (by kernel_rfl) (D9.ok R N6 fr h g)
theorem W14.ok (R : Rt) (N6 : Option Addr → Nat → Nat → Option Addr → Nat → Nat → Int → Hp → Prop) (fr : Fr) (h : Hp) (g : D9.g R N6 fr h) : den prog E (cAt C [true, true, true, true, true, true, true, false, true, false, false, true]) (Ex.then (L6.g N6) (Ex.inBlock 16 (Ex.then (D4.g R) (retQ E [.tmp 2] R)))) fr h :=
  den_then (by kernel_rfl) (D8.ok R N6) (B13.ok R N6 fr h g)
def D7.t (R : Rt) (N6 : Option Addr → Nat → Nat → Option Addr → Nat → Nat → Int → Hp → Prop) (a0 : Option Addr) (l0 : Nat) (c0 : Nat) (a5 : Option Addr) (l5 : Nat) (c5 : Nat) (x15 : Int) (h : Hp) : Prop :=
  cond (decide (x15 < (((l0 : Nat) : Int)))) (D9.t R N6 a0 l0 c0 a5 l5 c5 x15 h) (D4.t R h)
def D7.g (R : Rt) (N6 : Option Addr → Nat → Nat → Option Addr → Nat → Nat → Int → Hp → Prop) (fr : Fr) (h : Hp) : Prop := gSlice (fr 0) fun a0 l0 c0 => gSlice (fr 5) fun a5 l5 c5 => gInt .i64 (fr 15) fun x15 => D7.t R N6 a0 l0 c0 a5 l5 c5 x15 h
theorem D7.ok (R : Rt) (N6 : Option Addr → Nat → Nat → Option Addr → Nat → Nat → Int → Hp → Prop) (fr : Fr) (h : Hp) (g : D7.g R N6 fr h) : den prog E (cAt C [true, true, true, true, true, true, true, false, true, false, false]) (Ex.then (L6.g N6) (Ex.inBlock 16 (Ex.then (D4.g R) (retQ E [.tmp 2] R)))) fr h := by
  obtain ⟨a0, l0, c0, e0, g⟩ := gSlice_elim g
  obtain ⟨a5, l5, c5, e5, g⟩ := gSlice_elim g
  obtain ⟨x15, e15, g⟩ := gInt_elim g
  exact den_cut 1 (r := (cAt C [true, true, true, true, true, true, true, false, true, false, false, true])) (by kernel_rfl) (W14.ok R N6) (den_enter [(0, .slice a0 l0 c0), (5, .slice a5 l5 c5), (15, .int .i64 x15)] ⟨e0, e5, e15, trivial⟩ (by kernel_rfl) g)
def L6.t (R : Rt) : Nat → Option Addr → Nat → Nat → Option Addr → Nat → Nat → Int → Hp → Prop
  | 0 => fun _ _ _ _ _ _ _ _ => False
  | n + 1 => fun a0 l0 c0 a5 l5 c5 x15 h => D7.t R (L6.t R n) a0 l0 c0 a5 l5 c5 x15 h
theorem L6.ok (R : Rt) (fr : Fr) (h : Hp) (g : L6.g (fun a0 l0 c0 a5 l5 c5 x15 h => ∃ n, L6.t R n a0 l0 c0 a5 l5 c5 x15 h) fr h) : den prog E (cAt C [true, true, true, true, true, true, true, false, true, false]) (Ex.inBlock 16 (Ex.then (D4.g R) (retQ E [.tmp 2] R))) fr h := by
  obtain ⟨a0, l0, c0, e0, g⟩ := gSlice_elim g
  obtain ⟨a5, l5, c5, e5, g⟩ := gSlice_elim g
  obtain ⟨x15, e15, g⟩ := gInt_elim g
  obtain ⟨n, g⟩ := g
  refine loop_ok (fun n => L6.g (L6.t R n)) (b := (cAt C [true, true, true, true, true, true, true, false, true, false, false])) (by kernel_rfl) (fun fr h g => ?_) (fun n => D7.ok R (L6.t R n)) n fr h (gSlice_intro e0 (gSlice_intro e5 (gInt_intro e15 (g))))
  obtain ⟨a0, l0, c0, e0, g⟩ := gSlice_elim g
  obtain ⟨a5, l5, c5, e5, g⟩ := gSlice_elim g
  obtain ⟨x15, e15, g⟩ := gInt_elim g
  exact g
theorem B15.ok (R : Rt) (fr : Fr) (h : Hp) (g : L6.g (fun a0 l0 c0 a5 l5 c5 x15 h => ∃ n, L6.t R n a0 l0 c0 a5 l5 c5 x15 h) fr h) : den prog E (cAt C [true, true, true, true, true, true, true, false, true]) (Ex.then (D4.g R) (retQ E [.tmp 2] R)) fr h :=
  den_block (by kernel_rfl) (L6.ok R fr h g)
def D5.t (R : Rt) (a0 : Option Addr) (l0 : Nat) (c0 : Nat) (a5 : Option Addr) (l5 : Nat) (c5 : Nat) (h : Hp) : Prop :=
  (∃ n, L6.t R n a0 l0 c0 a5 l5 c5 0 h)
def D5.g (R : Rt) (fr : Fr) (h : Hp) : Prop := gSlice (fr 0) fun a0 l0 c0 => gSlice (fr 5) fun a5 l5 c5 => D5.t R a0 l0 c0 a5 l5 c5 h
theorem D5.ok (R : Rt) (fr : Fr) (h : Hp) (g : D5.g R fr h) : den prog E (cAt C [true, true, true, true, true, true, true, false]) (Ex.then (D4.g R) (retQ E [.tmp 2] R)) fr h := by
  obtain ⟨a0, l0, c0, e0, g⟩ := gSlice_elim g
  obtain ⟨a5, l5, c5, e5, g⟩ := gSlice_elim g
  exact den_cut 1 (r := (cAt C [true, true, true, true, true, true, true, false, true])) (by kernel_rfl) (B15.ok R) (den_enter [(0, .slice a0 l0 c0), (5, .slice a5 l5 c5)] ⟨e0, e5, trivial⟩ (by kernel_rfl) g)
theorem W16.ok (R : Rt) (fr : Fr) (h : Hp) (g : D5.g R fr h) : den prog E (cAt C [true, true, true, true, true, true, true]) (retQ E [.tmp 2] R) fr h :=
  den_then (by kernel_rfl) (D4.ok R) (D5.ok R fr h g)
def L18.g (N : Option Addr → Nat → Nat → Option Addr → Nat → Nat → Option Addr → Nat → Nat → Int → Hp → Prop) (fr : Fr) (h : Hp) : Prop := gSlice (fr 0) fun a0 l0 c0 => gSlice (fr 5) fun a5 l5 c5 => gSlice (fr 12) fun a12 l12 c12 => gInt .i64 (fr 13) fun x13 => N a0 l0 c0 a5 l5 c5 a12 l12 c12 x13 h
def D20.t (R : Rt) (N18 : Option Addr → Nat → Nat → Option Addr → Nat → Nat → Option Addr → Nat → Nat → Int → Hp → Prop) (a0 : Option Addr) (l0 : Nat) (c0 : Nat) (a5 : Option Addr) (l5 : Nat) (c5 : Nat) (a12 : Option Addr) (l12 : Nat) (c12 : Nat) (x13 : Int) (h : Hp) : Prop :=
  letK (IntKind.i64.wrap (x13 + 1)) fun n42 => N18 a0 l0 c0 a5 l5 c5 a12 l12 c12 n42 h
def D20.g (R : Rt) (N18 : Option Addr → Nat → Nat → Option Addr → Nat → Nat → Option Addr → Nat → Nat → Int → Hp → Prop) (fr : Fr) (h : Hp) : Prop := gSlice (fr 0) fun a0 l0 c0 => gSlice (fr 5) fun a5 l5 c5 => gSlice (fr 12) fun a12 l12 c12 => gInt .i64 (fr 13) fun x13 => D20.t R N18 a0 l0 c0 a5 l5 c5 a12 l12 c12 x13 h
theorem D20.ok (R : Rt) (N18 : Option Addr → Nat → Nat → Option Addr → Nat → Nat → Option Addr → Nat → Nat → Int → Hp → Prop) (fr : Fr) (h : Hp) (g : D20.g R N18 fr h) : den prog E (cAt C [true, true, true, true, true, true, false, true, false, false, true, true]) (Ex.then (L18.g N18) (Ex.inBlock 12 (Ex.then (D5.g R) (retQ E [.tmp 2] R)))) fr h := by
  obtain ⟨a0, l0, c0, e0, g⟩ := gSlice_elim g
  obtain ⟨a5, l5, c5, e5, g⟩ := gSlice_elim g
  obtain ⟨a12, l12, c12, e12, g⟩ := gSlice_elim g
  obtain ⟨x13, e13, g⟩ := gInt_elim g
  exact den_enter [(0, .slice a0 l0 c0), (5, .slice a5 l5 c5), (12, .slice a12 l12 c12), (13, .int .i64 x13)] ⟨e0, e5, e12, e13, trivial⟩ (by kernel_rfl) g
def D21.t (R : Rt) (N18 : Option Addr → Nat → Nat → Option Addr → Nat → Nat → Option Addr → Nat → Nat → Int → Hp → Prop) (a0 : Option Addr) (l0 : Nat) (c0 : Nat) (a5 : Option Addr) (l5 : Nat) (c5 : Nat) (a12 : Option Addr) (l12 : Nat) (c12 : Nat) (x13 : Int) (h : Hp) : Prop :=
  idxK a0 l0 x13 1 fun q43 =>
  ldK h q43 fun v44 =>
  gSlice v44 fun a_45 l_45 c_45 =>
  apK h 27 T27 a_45 l_45 c_45 (.slice a12 l12 c12) fun a_46 l_46 c_46 h46 =>
  idxK a5 l5 x13 1 fun q47 =>
  stK h46 q47 (.slice a_46 l_46 c_46) fun h48 =>
  D20.t R N18 a0 l0 c0 a5 l5 c5 a12 l12 c12 x13 h48
def D21.g (R : Rt) (N18 : Option Addr → Nat → Nat → Option Addr → Nat → Nat → Option Addr → Nat → Nat → Int → Hp → Prop) (fr : Fr) (h : Hp) : Prop := gSlice (fr 0) fun a0 l0 c0 => gSlice (fr 5) fun a5 l5 c5 => gSlice (fr 12) fun a12 l12 c12 => gInt .i64 (fr 13) fun x13 => D21.t R N18 a0 l0 c0 a5 l5 c5 a12 l12 c12 x13 h
theorem D21.ok (R : Rt) (N18 : Option Addr → Nat → Nat → Option Addr → Nat → Nat → Option Addr → Nat → Nat → Int → Hp → Prop) (fr : Fr) (h : Hp) (g : D21.g R N18 fr h) : den prog E (cAt C [true, true, true, true, true, true, false, true, false, false, true, false, false, true]) (Ex.inBlock 13 (Ex.then (D20.g R N18) (Ex.then (L18.g N18) (Ex.inBlock 12 (Ex.then (D5.g R) (retQ E [.tmp 2] R)))))) fr h := by
  obtain ⟨a0, l0, c0, e0, g⟩ := gSlice_elim g
  obtain ⟨a5, l5, c5, e5, g⟩ := gSlice_elim g
  obtain ⟨a12, l12, c12, e12, g⟩ := gSlice_elim g
  obtain ⟨x13, e13, g⟩ := gInt_elim g
  exact den_enter [(0, .slice a0 l0 c0), (5, .slice a5 l5 c5), (12, .slice a12 l12 c12), (13, .int .i64 x13)] ⟨e0, e5, e12, e13, trivial⟩ (by kernel_rfl) g
def L23.g (N : Option Addr → Nat → Nat → Option Addr → Nat → Nat → Option Addr → Nat → Nat → Int → Int → Hp → Prop) (fr : Fr) (h : Hp) : Prop := gSlice (fr 0) fun a0 l0 c0 => gSlice (fr 5) fun a5 l5 c5 => gSlice (fr 12) fun a12 l12 c12 => gInt .i64 (fr 13) fun x13 => gInt .i64 (fr 14) fun x14 => N a0 l0 c0 a5 l5 c5 a12 l12 c12 x13 x14 h
def D24.t (R : Rt) (N18 : Option Addr → Nat → Nat → Option Addr → Nat → Nat → Option Addr → Nat → Nat → Int → Hp → Prop) (N23 : Option Addr → Nat → Nat → Option Addr → Nat → Nat → Option Addr → Nat → Nat → Int → Int → Hp → Prop) (a0 : Option Addr) (l0 : Nat) (c0 : Nat) (a5 : Option Addr) (l5 : Nat) (c5 : Nat) (a12 : Option Addr) (l12 : Nat) (c12 : Nat) (x13 : Int) (x14 : Int) (h : Hp) : Prop :=
  cond (decide (x14 < 64)) (letK (IntKind.i64.wrap (200000 + x14)) fun n49 =>
  HQC gnomonlaw03_mark.id #[.int .i64 x13, .int .i64 n49] h fun v50 =>
  gInt .u64 v50 fun x_51 =>
  idxK a12 l12 x14 1 fun q52 =>
  stK h q52 (.int .u64 x_51) fun h53 =>
  letK (IntKind.i64.wrap (x14 + 1)) fun n54 =>
  N23 a0 l0 c0 a5 l5 c5 a12 l12 c12 x13 n54 h53) (D21.t R N18 a0 l0 c0 a5 l5 c5 a12 l12 c12 x13 h)
def D24.g (R : Rt) (N18 : Option Addr → Nat → Nat → Option Addr → Nat → Nat → Option Addr → Nat → Nat → Int → Hp → Prop) (N23 : Option Addr → Nat → Nat → Option Addr → Nat → Nat → Option Addr → Nat → Nat → Int → Int → Hp → Prop) (fr : Fr) (h : Hp) : Prop := gSlice (fr 0) fun a0 l0 c0 => gSlice (fr 5) fun a5 l5 c5 => gSlice (fr 12) fun a12 l12 c12 => gInt .i64 (fr 13) fun x13 => gInt .i64 (fr 14) fun x14 => D24.t R N18 N23 a0 l0 c0 a5 l5 c5 a12 l12 c12 x13 x14 h
theorem D24.ok (R : Rt) (N18 : Option Addr → Nat → Nat → Option Addr → Nat → Nat → Option Addr → Nat → Nat → Int → Hp → Prop) (N23 : Option Addr → Nat → Nat → Option Addr → Nat → Nat → Option Addr → Nat → Nat → Int → Int → Hp → Prop) (fr : Fr) (h : Hp) (g : D24.g R N18 N23 fr h) : den prog E (cAt C [true, true, true, true, true, true, false, true, false, false, true, false, false, false, true, false, false]) (Ex.then (L23.g N23) (Ex.inBlock 14 (Ex.then (D21.g R N18) (Ex.inBlock 13 (Ex.then (D20.g R N18) (Ex.then (L18.g N18) (Ex.inBlock 12 (Ex.then (D5.g R) (retQ E [.tmp 2] R))))))))) fr h := by
  obtain ⟨a0, l0, c0, e0, g⟩ := gSlice_elim g
  obtain ⟨a5, l5, c5, e5, g⟩ := gSlice_elim g
  obtain ⟨a12, l12, c12, e12, g⟩ := gSlice_elim g
  obtain ⟨x13, e13, g⟩ := gInt_elim g
  obtain ⟨x14, e14, g⟩ := gInt_elim g
  exact den_enter [(0, .slice a0 l0 c0), (5, .slice a5 l5 c5), (12, .slice a12 l12 c12), (13, .int .i64 x13), (14, .int .i64 x14)] ⟨e0, e5, e12, e13, e14, trivial⟩ (by kernel_rfl) g
def L23.t (R : Rt) (N18 : Option Addr → Nat → Nat → Option Addr → Nat → Nat → Option Addr → Nat → Nat → Int → Hp → Prop) : Nat → Option Addr → Nat → Nat → Option Addr → Nat → Nat → Option Addr → Nat → Nat → Int → Int → Hp → Prop
  | 0 => fun _ _ _ _ _ _ _ _ _ _ _ _ => False
  | n + 1 => fun a0 l0 c0 a5 l5 c5 a12 l12 c12 x13 x14 h => D24.t R N18 (L23.t R N18 n) a0 l0 c0 a5 l5 c5 a12 l12 c12 x13 x14 h
theorem L23.ok (R : Rt) (N18 : Option Addr → Nat → Nat → Option Addr → Nat → Nat → Option Addr → Nat → Nat → Int → Hp → Prop) (fr : Fr) (h : Hp) (g : L23.g (fun a0 l0 c0 a5 l5 c5 a12 l12 c12 x13 x14 h => ∃ n, L23.t R N18 n a0 l0 c0 a5 l5 c5 a12 l12 c12 x13 x14 h) fr h) : den prog E (cAt C [true, true, true, true, true, true, false, true, false, false, true, false, false, false, true, false]) (Ex.inBlock 14 (Ex.then (D21.g R N18) (Ex.inBlock 13 (Ex.then (D20.g R N18) (Ex.then (L18.g N18) (Ex.inBlock 12 (Ex.then (D5.g R) (retQ E [.tmp 2] R)))))))) fr h := by
  obtain ⟨a0, l0, c0, e0, g⟩ := gSlice_elim g
  obtain ⟨a5, l5, c5, e5, g⟩ := gSlice_elim g
  obtain ⟨a12, l12, c12, e12, g⟩ := gSlice_elim g
  obtain ⟨x13, e13, g⟩ := gInt_elim g
  obtain ⟨x14, e14, g⟩ := gInt_elim g
  obtain ⟨n, g⟩ := g
  refine loop_ok (fun n => L23.g (L23.t R N18 n)) (b := (cAt C [true, true, true, true, true, true, false, true, false, false, true, false, false, false, true, false, false])) (by kernel_rfl) (fun fr h g => ?_) (fun n => D24.ok R N18 (L23.t R N18 n)) n fr h (gSlice_intro e0 (gSlice_intro e5 (gSlice_intro e12 (gInt_intro e13 (gInt_intro e14 (g))))))
  obtain ⟨a0, l0, c0, e0, g⟩ := gSlice_elim g
  obtain ⟨a5, l5, c5, e5, g⟩ := gSlice_elim g
  obtain ⟨a12, l12, c12, e12, g⟩ := gSlice_elim g
  obtain ⟨x13, e13, g⟩ := gInt_elim g
  obtain ⟨x14, e14, g⟩ := gInt_elim g
  exact g
theorem B25.ok (R : Rt) (N18 : Option Addr → Nat → Nat → Option Addr → Nat → Nat → Option Addr → Nat → Nat → Int → Hp → Prop) (fr : Fr) (h : Hp) (g : L23.g (fun a0 l0 c0 a5 l5 c5 a12 l12 c12 x13 x14 h => ∃ n, L23.t R N18 n a0 l0 c0 a5 l5 c5 a12 l12 c12 x13 x14 h) fr h) : den prog E (cAt C [true, true, true, true, true, true, false, true, false, false, true, false, false, false, true]) (Ex.then (D21.g R N18) (Ex.inBlock 13 (Ex.then (D20.g R N18) (Ex.then (L18.g N18) (Ex.inBlock 12 (Ex.then (D5.g R) (retQ E [.tmp 2] R))))))) fr h :=
  den_block (by kernel_rfl) (L23.ok R N18 fr h g)
def D22.t (R : Rt) (N18 : Option Addr → Nat → Nat → Option Addr → Nat → Nat → Option Addr → Nat → Nat → Int → Hp → Prop) (a0 : Option Addr) (l0 : Nat) (c0 : Nat) (a5 : Option Addr) (l5 : Nat) (c5 : Nat) (a12 : Option Addr) (l12 : Nat) (c12 : Nat) (x13 : Int) (h : Hp) : Prop :=
  (∃ n, L23.t R N18 n a0 l0 c0 a5 l5 c5 a12 l12 c12 x13 0 h)
def D22.g (R : Rt) (N18 : Option Addr → Nat → Nat → Option Addr → Nat → Nat → Option Addr → Nat → Nat → Int → Hp → Prop) (fr : Fr) (h : Hp) : Prop := gSlice (fr 0) fun a0 l0 c0 => gSlice (fr 5) fun a5 l5 c5 => gSlice (fr 12) fun a12 l12 c12 => gInt .i64 (fr 13) fun x13 => D22.t R N18 a0 l0 c0 a5 l5 c5 a12 l12 c12 x13 h
theorem D22.ok (R : Rt) (N18 : Option Addr → Nat → Nat → Option Addr → Nat → Nat → Option Addr → Nat → Nat → Int → Hp → Prop) (fr : Fr) (h : Hp) (g : D22.g R N18 fr h) : den prog E (cAt C [true, true, true, true, true, true, false, true, false, false, true, false, false, false]) (Ex.then (D21.g R N18) (Ex.inBlock 13 (Ex.then (D20.g R N18) (Ex.then (L18.g N18) (Ex.inBlock 12 (Ex.then (D5.g R) (retQ E [.tmp 2] R))))))) fr h := by
  obtain ⟨a0, l0, c0, e0, g⟩ := gSlice_elim g
  obtain ⟨a5, l5, c5, e5, g⟩ := gSlice_elim g
  obtain ⟨a12, l12, c12, e12, g⟩ := gSlice_elim g
  obtain ⟨x13, e13, g⟩ := gInt_elim g
  exact den_cut 1 (r := (cAt C [true, true, true, true, true, true, false, true, false, false, true, false, false, false, true])) (by kernel_rfl) (B25.ok R N18) (den_enter [(0, .slice a0 l0 c0), (5, .slice a5 l5 c5), (12, .slice a12 l12 c12), (13, .int .i64 x13)] ⟨e0, e5, e12, e13, trivial⟩ (by kernel_rfl) g)
theorem W26.ok (R : Rt) (N18 : Option Addr → Nat → Nat → Option Addr → Nat → Nat → Option Addr → Nat → Nat → Int → Hp → Prop) (fr : Fr) (h : Hp) (g : D22.g R N18 fr h) : den prog E (cAt C [true, true, true, true, true, true, false, true, false, false, true, false, false]) (Ex.inBlock 13 (Ex.then (D20.g R N18) (Ex.then (L18.g N18) (Ex.inBlock 12 (Ex.then (D5.g R) (retQ E [.tmp 2] R)))))) fr h :=
  den_then (by kernel_rfl) (D21.ok R N18) (D22.ok R N18 fr h g)
theorem B27.ok (R : Rt) (N18 : Option Addr → Nat → Nat → Option Addr → Nat → Nat → Option Addr → Nat → Nat → Int → Hp → Prop) (fr : Fr) (h : Hp) (g : D22.g R N18 fr h) : den prog E (cAt C [true, true, true, true, true, true, false, true, false, false, true, false]) (Ex.then (D20.g R N18) (Ex.then (L18.g N18) (Ex.inBlock 12 (Ex.then (D5.g R) (retQ E [.tmp 2] R))))) fr h :=
  den_block (by kernel_rfl) (W26.ok R N18 fr h g)
theorem W28.ok (R : Rt) (N18 : Option Addr → Nat → Nat → Option Addr → Nat → Nat → Option Addr → Nat → Nat → Int → Hp → Prop) (fr : Fr) (h : Hp) (g : D22.g R N18 fr h) : den prog E (cAt C [true, true, true, true, true, true, false, true, false, false, true]) (Ex.then (L18.g N18) (Ex.inBlock 12 (Ex.then (D5.g R) (retQ E [.tmp 2] R)))) fr h :=
  den_then (by kernel_rfl) (D20.ok R N18) (B27.ok R N18 fr h g)
def D19.t (R : Rt) (N18 : Option Addr → Nat → Nat → Option Addr → Nat → Nat → Option Addr → Nat → Nat → Int → Hp → Prop) (a0 : Option Addr) (l0 : Nat) (c0 : Nat) (a5 : Option Addr) (l5 : Nat) (c5 : Nat) (a12 : Option Addr) (l12 : Nat) (c12 : Nat) (x13 : Int) (h : Hp) : Prop :=
  cond (decide (x13 < (((l0 : Nat) : Int)))) (D22.t R N18 a0 l0 c0 a5 l5 c5 a12 l12 c12 x13 h) (D5.t R a0 l0 c0 a5 l5 c5 h)
def D19.g (R : Rt) (N18 : Option Addr → Nat → Nat → Option Addr → Nat → Nat → Option Addr → Nat → Nat → Int → Hp → Prop) (fr : Fr) (h : Hp) : Prop := gSlice (fr 0) fun a0 l0 c0 => gSlice (fr 5) fun a5 l5 c5 => gSlice (fr 12) fun a12 l12 c12 => gInt .i64 (fr 13) fun x13 => D19.t R N18 a0 l0 c0 a5 l5 c5 a12 l12 c12 x13 h
theorem D19.ok (R : Rt) (N18 : Option Addr → Nat → Nat → Option Addr → Nat → Nat → Option Addr → Nat → Nat → Int → Hp → Prop) (fr : Fr) (h : Hp) (g : D19.g R N18 fr h) : den prog E (cAt C [true, true, true, true, true, true, false, true, false, false]) (Ex.then (L18.g N18) (Ex.inBlock 12 (Ex.then (D5.g R) (retQ E [.tmp 2] R)))) fr h := by
  obtain ⟨a0, l0, c0, e0, g⟩ := gSlice_elim g
  obtain ⟨a5, l5, c5, e5, g⟩ := gSlice_elim g
  obtain ⟨a12, l12, c12, e12, g⟩ := gSlice_elim g
  obtain ⟨x13, e13, g⟩ := gInt_elim g
  exact den_cut 1 (r := (cAt C [true, true, true, true, true, true, false, true, false, false, true])) (by kernel_rfl) (W28.ok R N18) (den_enter [(0, .slice a0 l0 c0), (5, .slice a5 l5 c5), (12, .slice a12 l12 c12), (13, .int .i64 x13)] ⟨e0, e5, e12, e13, trivial⟩ (by kernel_rfl) g)
def L18.t (R : Rt) : Nat → Option Addr → Nat → Nat → Option Addr → Nat → Nat → Option Addr → Nat → Nat → Int → Hp → Prop
  | 0 => fun _ _ _ _ _ _ _ _ _ _ _ => False
  | n + 1 => fun a0 l0 c0 a5 l5 c5 a12 l12 c12 x13 h => D19.t R (L18.t R n) a0 l0 c0 a5 l5 c5 a12 l12 c12 x13 h
theorem L18.ok (R : Rt) (fr : Fr) (h : Hp) (g : L18.g (fun a0 l0 c0 a5 l5 c5 a12 l12 c12 x13 h => ∃ n, L18.t R n a0 l0 c0 a5 l5 c5 a12 l12 c12 x13 h) fr h) : den prog E (cAt C [true, true, true, true, true, true, false, true, false]) (Ex.inBlock 12 (Ex.then (D5.g R) (retQ E [.tmp 2] R))) fr h := by
  obtain ⟨a0, l0, c0, e0, g⟩ := gSlice_elim g
  obtain ⟨a5, l5, c5, e5, g⟩ := gSlice_elim g
  obtain ⟨a12, l12, c12, e12, g⟩ := gSlice_elim g
  obtain ⟨x13, e13, g⟩ := gInt_elim g
  obtain ⟨n, g⟩ := g
  refine loop_ok (fun n => L18.g (L18.t R n)) (b := (cAt C [true, true, true, true, true, true, false, true, false, false])) (by kernel_rfl) (fun fr h g => ?_) (fun n => D19.ok R (L18.t R n)) n fr h (gSlice_intro e0 (gSlice_intro e5 (gSlice_intro e12 (gInt_intro e13 (g)))))
  obtain ⟨a0, l0, c0, e0, g⟩ := gSlice_elim g
  obtain ⟨a5, l5, c5, e5, g⟩ := gSlice_elim g
  obtain ⟨a12, l12, c12, e12, g⟩ := gSlice_elim g
  obtain ⟨x13, e13, g⟩ := gInt_elim g
  exact g
theorem B29.ok (R : Rt) (fr : Fr) (h : Hp) (g : L18.g (fun a0 l0 c0 a5 l5 c5 a12 l12 c12 x13 h => ∃ n, L18.t R n a0 l0 c0 a5 l5 c5 a12 l12 c12 x13 h) fr h) : den prog E (cAt C [true, true, true, true, true, true, false, true]) (Ex.then (D5.g R) (retQ E [.tmp 2] R)) fr h :=
  den_block (by kernel_rfl) (L18.ok R fr h g)
def D17.t (R : Rt) (a0 : Option Addr) (l0 : Nat) (c0 : Nat) (a5 : Option Addr) (l5 : Nat) (c5 : Nat) (a12 : Option Addr) (l12 : Nat) (c12 : Nat) (h : Hp) : Prop :=
  (∃ n, L18.t R n a0 l0 c0 a5 l5 c5 a12 l12 c12 0 h)
def D17.g (R : Rt) (fr : Fr) (h : Hp) : Prop := gSlice (fr 0) fun a0 l0 c0 => gSlice (fr 5) fun a5 l5 c5 => gSlice (fr 12) fun a12 l12 c12 => D17.t R a0 l0 c0 a5 l5 c5 a12 l12 c12 h
theorem D17.ok (R : Rt) (fr : Fr) (h : Hp) (g : D17.g R fr h) : den prog E (cAt C [true, true, true, true, true, true, false]) (Ex.then (D5.g R) (retQ E [.tmp 2] R)) fr h := by
  obtain ⟨a0, l0, c0, e0, g⟩ := gSlice_elim g
  obtain ⟨a5, l5, c5, e5, g⟩ := gSlice_elim g
  obtain ⟨a12, l12, c12, e12, g⟩ := gSlice_elim g
  exact den_cut 1 (r := (cAt C [true, true, true, true, true, true, false, true])) (by kernel_rfl) (B29.ok R) (den_enter [(0, .slice a0 l0 c0), (5, .slice a5 l5 c5), (12, .slice a12 l12 c12)] ⟨e0, e5, e12, trivial⟩ (by kernel_rfl) g)
theorem W30.ok (R : Rt) (fr : Fr) (h : Hp) (g : D17.g R fr h) : den prog E (cAt C [true, true, true, true, true, true]) (retQ E [.tmp 2] R) fr h :=
  den_then (by kernel_rfl) (W16.ok R) (D17.ok R fr h g)
def D3.t (R : Rt) (a0 : Option Addr) (l0 : Nat) (c0 : Nat) (a5 : Option Addr) (l5 : Nat) (c5 : Nat) (h : Hp) : Prop :=
  mkK h 27 T27 64 64 fun q3 h4 => D17.t R a0 l0 c0 a5 l5 c5 (some q3) ((64 : Int).toNat) ((64 : Int).toNat) h4
def D3.g (R : Rt) (fr : Fr) (h : Hp) : Prop := gSlice (fr 0) fun a0 l0 c0 => gSlice (fr 5) fun a5 l5 c5 => D3.t R a0 l0 c0 a5 l5 c5 h
theorem D3.ok (R : Rt) (fr : Fr) (h : Hp) (g : D3.g R fr h) : den prog E (cAt C [true, true, true, true, true]) (retQ E [.tmp 2] R) fr h := by
  obtain ⟨a0, l0, c0, e0, g⟩ := gSlice_elim g
  obtain ⟨a5, l5, c5, e5, g⟩ := gSlice_elim g
  exact den_cut 1 (r := (cAt C [true, true, true, true, true, true])) (by kernel_rfl) (W30.ok R) (den_enter [(0, .slice a0 l0 c0), (5, .slice a5 l5 c5)] ⟨e0, e5, trivial⟩ (by kernel_rfl) g)
def L32.g (N : Option Addr → Nat → Nat → Option Addr → Nat → Nat → Int → Hp → Prop) (fr : Fr) (h : Hp) : Prop := gSlice (fr 0) fun a0 l0 c0 => gSlice (fr 5) fun a5 l5 c5 => gInt .i64 (fr 9) fun x9 => N a0 l0 c0 a5 l5 c5 x9 h
def D34.t (R : Rt) (N32 : Option Addr → Nat → Nat → Option Addr → Nat → Nat → Int → Hp → Prop) (a0 : Option Addr) (l0 : Nat) (c0 : Nat) (a5 : Option Addr) (l5 : Nat) (c5 : Nat) (x9 : Int) (h : Hp) : Prop :=
  letK (IntKind.i64.wrap (x9 + 1)) fun n55 => N32 a0 l0 c0 a5 l5 c5 n55 h
def D34.g (R : Rt) (N32 : Option Addr → Nat → Nat → Option Addr → Nat → Nat → Int → Hp → Prop) (fr : Fr) (h : Hp) : Prop := gSlice (fr 0) fun a0 l0 c0 => gSlice (fr 5) fun a5 l5 c5 => gInt .i64 (fr 9) fun x9 => D34.t R N32 a0 l0 c0 a5 l5 c5 x9 h
theorem D34.ok (R : Rt) (N32 : Option Addr → Nat → Nat → Option Addr → Nat → Nat → Int → Hp → Prop) (fr : Fr) (h : Hp) (g : D34.g R N32 fr h) : den prog E (cAt C [true, true, true, true, false, true, false, false, true, true]) (Ex.then (L32.g N32) (Ex.inBlock 8 (Ex.then (D3.g R) (retQ E [.tmp 2] R)))) fr h := by
  obtain ⟨a0, l0, c0, e0, g⟩ := gSlice_elim g
  obtain ⟨a5, l5, c5, e5, g⟩ := gSlice_elim g
  obtain ⟨x9, e9, g⟩ := gInt_elim g
  exact den_enter [(0, .slice a0 l0 c0), (5, .slice a5 l5 c5), (9, .int .i64 x9)] ⟨e0, e5, e9, trivial⟩ (by kernel_rfl) g
def L36.g (N : Option Addr → Nat → Nat → Option Addr → Nat → Nat → Int → Int → Int → Hp → Prop) (fr : Fr) (h : Hp) : Prop := gSlice (fr 0) fun a0 l0 c0 => gSlice (fr 5) fun a5 l5 c5 => gInt .i64 (fr 9) fun x9 => gInt .i64 (fr 10) fun x10 => gInt .i64 (fr 11) fun x11 => N a0 l0 c0 a5 l5 c5 x9 x10 x11 h
def D37.t (R : Rt) (N32 : Option Addr → Nat → Nat → Option Addr → Nat → Nat → Int → Hp → Prop) (N36 : Option Addr → Nat → Nat → Option Addr → Nat → Nat → Int → Int → Int → Hp → Prop) (a0 : Option Addr) (l0 : Nat) (c0 : Nat) (a5 : Option Addr) (l5 : Nat) (c5 : Nat) (x9 : Int) (x10 : Int) (x11 : Int) (h : Hp) : Prop :=
  letK (IntKind.i64.wrap (x10 + 16)) fun n59 =>
  cond (decide (x11 < n59)) (cond (decide (x11 < x10)) (idxK a0 l0 x9 1 fun q60 =>
  ldK h q60 fun v61 =>
  gSlice v61 fun a_62 l_62 c_62 =>
  idxK a_62 l_62 x11 1 fun q63 =>
  ldK h q63 fun v64 =>
  gInt .u64 v64 fun x_65 =>
  HQC gnomonlaw03_mark.id #[.int .i64 x9, .int .i64 x11] h fun v66 =>
  gInt .u64 v66 fun x_67 =>
  cond (x_65 != x_67) (R (.bool false) h) (idxK a5 l5 x9 1 fun q68 =>
  ldK h q68 fun v69 =>
  gSlice v69 fun a_70 l_70 c_70 =>
  idxK a_70 l_70 x11 1 fun q71 =>
  ldK h q71 fun v72 =>
  gInt .u64 v72 fun x_73 =>
  HQC gnomonlaw03_mark.id #[.int .i64 x9, .int .i64 x11] h fun v74 =>
  gInt .u64 v74 fun x_75 =>
  cond (x_73 != x_75) (R (.bool false) h) (cond (decide (x11 ≥ x10)) (idxK a5 l5 x9 1 fun q76 =>
  ldK h q76 fun v77 =>
  gSlice v77 fun a_78 l_78 c_78 =>
  idxK a_78 l_78 x11 1 fun q79 =>
  ldK h q79 fun v80 =>
  gInt .u64 v80 fun x_81 =>
  letK (IntKind.i64.wrap (100000 + x11)) fun n82 =>
  letK (IntKind.i64.wrap (n82 - x10)) fun n83 =>
  HQC gnomonlaw03_mark.id #[.int .i64 x9, .int .i64 n83] h fun v84 =>
  gInt .u64 v84 fun x_85 =>
  cond (x_81 != x_85) (R (.bool false) h) (letK (IntKind.i64.wrap (x11 + 1)) fun n86 =>
  N36 a0 l0 c0 a5 l5 c5 x9 x10 n86 h)) (letK (IntKind.i64.wrap (x11 + 1)) fun n87 =>
  N36 a0 l0 c0 a5 l5 c5 x9 x10 n87 h)))) (cond (decide (x11 ≥ x10)) (idxK a5 l5 x9 1 fun q88 =>
  ldK h q88 fun v89 =>
  gSlice v89 fun a_90 l_90 c_90 =>
  idxK a_90 l_90 x11 1 fun q91 =>
  ldK h q91 fun v92 =>
  gInt .u64 v92 fun x_93 =>
  letK (IntKind.i64.wrap (100000 + x11)) fun n94 =>
  letK (IntKind.i64.wrap (n94 - x10)) fun n95 =>
  HQC gnomonlaw03_mark.id #[.int .i64 x9, .int .i64 n95] h fun v96 =>
  gInt .u64 v96 fun x_97 =>
  cond (x_93 != x_97) (R (.bool false) h) (letK (IntKind.i64.wrap (x11 + 1)) fun n98 =>
  N36 a0 l0 c0 a5 l5 c5 x9 x10 n98 h)) (letK (IntKind.i64.wrap (x11 + 1)) fun n99 =>
  N36 a0 l0 c0 a5 l5 c5 x9 x10 n99 h))) (D34.t R N32 a0 l0 c0 a5 l5 c5 x9 h)
def D37.g (R : Rt) (N32 : Option Addr → Nat → Nat → Option Addr → Nat → Nat → Int → Hp → Prop) (N36 : Option Addr → Nat → Nat → Option Addr → Nat → Nat → Int → Int → Int → Hp → Prop) (fr : Fr) (h : Hp) : Prop := gSlice (fr 0) fun a0 l0 c0 => gSlice (fr 5) fun a5 l5 c5 => gInt .i64 (fr 9) fun x9 => gInt .i64 (fr 10) fun x10 => gInt .i64 (fr 11) fun x11 => D37.t R N32 N36 a0 l0 c0 a5 l5 c5 x9 x10 x11 h
theorem D37.ok (R : Rt) (N32 : Option Addr → Nat → Nat → Option Addr → Nat → Nat → Int → Hp → Prop) (N36 : Option Addr → Nat → Nat → Option Addr → Nat → Nat → Int → Int → Int → Hp → Prop) (fr : Fr) (h : Hp) (g : D37.g R N32 N36 fr h) : den prog E (cAt C [true, true, true, true, false, true, false, false, true, false, false, true, true, false, false]) (Ex.then (L36.g N36) (Ex.inBlock 10 (Ex.inBlock 9 (Ex.then (D34.g R N32) (Ex.then (L32.g N32) (Ex.inBlock 8 (Ex.then (D3.g R) (retQ E [.tmp 2] R)))))))) fr h := by
  obtain ⟨a0, l0, c0, e0, g⟩ := gSlice_elim g
  obtain ⟨a5, l5, c5, e5, g⟩ := gSlice_elim g
  obtain ⟨x9, e9, g⟩ := gInt_elim g
  obtain ⟨x10, e10, g⟩ := gInt_elim g
  obtain ⟨x11, e11, g⟩ := gInt_elim g
  exact den_enter [(0, .slice a0 l0 c0), (5, .slice a5 l5 c5), (9, .int .i64 x9), (10, .int .i64 x10), (11, .int .i64 x11)] ⟨e0, e5, e9, e10, e11, trivial⟩ (by kernel_rfl) g
def L36.t (R : Rt) (N32 : Option Addr → Nat → Nat → Option Addr → Nat → Nat → Int → Hp → Prop) : Nat → Option Addr → Nat → Nat → Option Addr → Nat → Nat → Int → Int → Int → Hp → Prop
  | 0 => fun _ _ _ _ _ _ _ _ _ _ => False
  | n + 1 => fun a0 l0 c0 a5 l5 c5 x9 x10 x11 h => D37.t R N32 (L36.t R N32 n) a0 l0 c0 a5 l5 c5 x9 x10 x11 h
theorem L36.ok (R : Rt) (N32 : Option Addr → Nat → Nat → Option Addr → Nat → Nat → Int → Hp → Prop) (fr : Fr) (h : Hp) (g : L36.g (fun a0 l0 c0 a5 l5 c5 x9 x10 x11 h => ∃ n, L36.t R N32 n a0 l0 c0 a5 l5 c5 x9 x10 x11 h) fr h) : den prog E (cAt C [true, true, true, true, false, true, false, false, true, false, false, true, true, false]) (Ex.inBlock 10 (Ex.inBlock 9 (Ex.then (D34.g R N32) (Ex.then (L32.g N32) (Ex.inBlock 8 (Ex.then (D3.g R) (retQ E [.tmp 2] R))))))) fr h := by
  obtain ⟨a0, l0, c0, e0, g⟩ := gSlice_elim g
  obtain ⟨a5, l5, c5, e5, g⟩ := gSlice_elim g
  obtain ⟨x9, e9, g⟩ := gInt_elim g
  obtain ⟨x10, e10, g⟩ := gInt_elim g
  obtain ⟨x11, e11, g⟩ := gInt_elim g
  obtain ⟨n, g⟩ := g
  refine loop_ok (fun n => L36.g (L36.t R N32 n)) (b := (cAt C [true, true, true, true, false, true, false, false, true, false, false, true, true, false, false])) (by kernel_rfl) (fun fr h g => ?_) (fun n => D37.ok R N32 (L36.t R N32 n)) n fr h (gSlice_intro e0 (gSlice_intro e5 (gInt_intro e9 (gInt_intro e10 (gInt_intro e11 (g))))))
  obtain ⟨a0, l0, c0, e0, g⟩ := gSlice_elim g
  obtain ⟨a5, l5, c5, e5, g⟩ := gSlice_elim g
  obtain ⟨x9, e9, g⟩ := gInt_elim g
  obtain ⟨x10, e10, g⟩ := gInt_elim g
  obtain ⟨x11, e11, g⟩ := gInt_elim g
  exact g
theorem B38.ok (R : Rt) (N32 : Option Addr → Nat → Nat → Option Addr → Nat → Nat → Int → Hp → Prop) (fr : Fr) (h : Hp) (g : L36.g (fun a0 l0 c0 a5 l5 c5 x9 x10 x11 h => ∃ n, L36.t R N32 n a0 l0 c0 a5 l5 c5 x9 x10 x11 h) fr h) : den prog E (cAt C [true, true, true, true, false, true, false, false, true, false, false, true, true]) (Ex.inBlock 9 (Ex.then (D34.g R N32) (Ex.then (L32.g N32) (Ex.inBlock 8 (Ex.then (D3.g R) (retQ E [.tmp 2] R)))))) fr h :=
  den_block (by kernel_rfl) (L36.ok R N32 fr h g)
def D35.t (R : Rt) (N32 : Option Addr → Nat → Nat → Option Addr → Nat → Nat → Int → Hp → Prop) (a0 : Option Addr) (l0 : Nat) (c0 : Nat) (a5 : Option Addr) (l5 : Nat) (c5 : Nat) (x9 : Int) (h : Hp) : Prop :=
  idxK a0 l0 x9 1 fun q56 =>
  ldK h q56 fun v57 =>
  gSlice v57 fun a_58 l_58 c_58 =>
  (∃ n, L36.t R N32 n a0 l0 c0 a5 l5 c5 x9 (((l_58 : Nat) : Int)) 0 h)
def D35.g (R : Rt) (N32 : Option Addr → Nat → Nat → Option Addr → Nat → Nat → Int → Hp → Prop) (fr : Fr) (h : Hp) : Prop := gSlice (fr 0) fun a0 l0 c0 => gSlice (fr 5) fun a5 l5 c5 => gInt .i64 (fr 9) fun x9 => D35.t R N32 a0 l0 c0 a5 l5 c5 x9 h
theorem D35.ok (R : Rt) (N32 : Option Addr → Nat → Nat → Option Addr → Nat → Nat → Int → Hp → Prop) (fr : Fr) (h : Hp) (g : D35.g R N32 fr h) : den prog E (cAt C [true, true, true, true, false, true, false, false, true, false, false]) (Ex.inBlock 9 (Ex.then (D34.g R N32) (Ex.then (L32.g N32) (Ex.inBlock 8 (Ex.then (D3.g R) (retQ E [.tmp 2] R)))))) fr h := by
  obtain ⟨a0, l0, c0, e0, g⟩ := gSlice_elim g
  obtain ⟨a5, l5, c5, e5, g⟩ := gSlice_elim g
  obtain ⟨x9, e9, g⟩ := gInt_elim g
  exact den_cut 2 (r := (cAt C [true, true, true, true, false, true, false, false, true, false, false, true, true])) (by kernel_rfl) (B38.ok R N32) (den_enter [(0, .slice a0 l0 c0), (5, .slice a5 l5 c5), (9, .int .i64 x9)] ⟨e0, e5, e9, trivial⟩ (by kernel_rfl) g)
theorem B39.ok (R : Rt) (N32 : Option Addr → Nat → Nat → Option Addr → Nat → Nat → Int → Hp → Prop) (fr : Fr) (h : Hp) (g : D35.g R N32 fr h) : den prog E (cAt C [true, true, true, true, false, true, false, false, true, false]) (Ex.then (D34.g R N32) (Ex.then (L32.g N32) (Ex.inBlock 8 (Ex.then (D3.g R) (retQ E [.tmp 2] R))))) fr h :=
  den_block (by kernel_rfl) (D35.ok R N32 fr h g)
theorem W40.ok (R : Rt) (N32 : Option Addr → Nat → Nat → Option Addr → Nat → Nat → Int → Hp → Prop) (fr : Fr) (h : Hp) (g : D35.g R N32 fr h) : den prog E (cAt C [true, true, true, true, false, true, false, false, true]) (Ex.then (L32.g N32) (Ex.inBlock 8 (Ex.then (D3.g R) (retQ E [.tmp 2] R)))) fr h :=
  den_then (by kernel_rfl) (D34.ok R N32) (B39.ok R N32 fr h g)
def D33.t (R : Rt) (N32 : Option Addr → Nat → Nat → Option Addr → Nat → Nat → Int → Hp → Prop) (a0 : Option Addr) (l0 : Nat) (c0 : Nat) (a5 : Option Addr) (l5 : Nat) (c5 : Nat) (x9 : Int) (h : Hp) : Prop :=
  cond (decide (x9 < (((l0 : Nat) : Int)))) (D35.t R N32 a0 l0 c0 a5 l5 c5 x9 h) (D3.t R a0 l0 c0 a5 l5 c5 h)
def D33.g (R : Rt) (N32 : Option Addr → Nat → Nat → Option Addr → Nat → Nat → Int → Hp → Prop) (fr : Fr) (h : Hp) : Prop := gSlice (fr 0) fun a0 l0 c0 => gSlice (fr 5) fun a5 l5 c5 => gInt .i64 (fr 9) fun x9 => D33.t R N32 a0 l0 c0 a5 l5 c5 x9 h
theorem D33.ok (R : Rt) (N32 : Option Addr → Nat → Nat → Option Addr → Nat → Nat → Int → Hp → Prop) (fr : Fr) (h : Hp) (g : D33.g R N32 fr h) : den prog E (cAt C [true, true, true, true, false, true, false, false]) (Ex.then (L32.g N32) (Ex.inBlock 8 (Ex.then (D3.g R) (retQ E [.tmp 2] R)))) fr h := by
  obtain ⟨a0, l0, c0, e0, g⟩ := gSlice_elim g
  obtain ⟨a5, l5, c5, e5, g⟩ := gSlice_elim g
  obtain ⟨x9, e9, g⟩ := gInt_elim g
  exact den_cut 1 (r := (cAt C [true, true, true, true, false, true, false, false, true])) (by kernel_rfl) (W40.ok R N32) (den_enter [(0, .slice a0 l0 c0), (5, .slice a5 l5 c5), (9, .int .i64 x9)] ⟨e0, e5, e9, trivial⟩ (by kernel_rfl) g)
def L32.t (R : Rt) : Nat → Option Addr → Nat → Nat → Option Addr → Nat → Nat → Int → Hp → Prop
  | 0 => fun _ _ _ _ _ _ _ _ => False
  | n + 1 => fun a0 l0 c0 a5 l5 c5 x9 h => D33.t R (L32.t R n) a0 l0 c0 a5 l5 c5 x9 h
theorem L32.ok (R : Rt) (fr : Fr) (h : Hp) (g : L32.g (fun a0 l0 c0 a5 l5 c5 x9 h => ∃ n, L32.t R n a0 l0 c0 a5 l5 c5 x9 h) fr h) : den prog E (cAt C [true, true, true, true, false, true, false]) (Ex.inBlock 8 (Ex.then (D3.g R) (retQ E [.tmp 2] R))) fr h := by
  obtain ⟨a0, l0, c0, e0, g⟩ := gSlice_elim g
  obtain ⟨a5, l5, c5, e5, g⟩ := gSlice_elim g
  obtain ⟨x9, e9, g⟩ := gInt_elim g
  obtain ⟨n, g⟩ := g
  refine loop_ok (fun n => L32.g (L32.t R n)) (b := (cAt C [true, true, true, true, false, true, false, false])) (by kernel_rfl) (fun fr h g => ?_) (fun n => D33.ok R (L32.t R n)) n fr h (gSlice_intro e0 (gSlice_intro e5 (gInt_intro e9 (g))))
  obtain ⟨a0, l0, c0, e0, g⟩ := gSlice_elim g
  obtain ⟨a5, l5, c5, e5, g⟩ := gSlice_elim g
  obtain ⟨x9, e9, g⟩ := gInt_elim g
  exact g
theorem B41.ok (R : Rt) (fr : Fr) (h : Hp) (g : L32.g (fun a0 l0 c0 a5 l5 c5 x9 h => ∃ n, L32.t R n a0 l0 c0 a5 l5 c5 x9 h) fr h) : den prog E (cAt C [true, true, true, true, false, true]) (Ex.then (D3.g R) (retQ E [.tmp 2] R)) fr h :=
  den_block (by kernel_rfl) (L32.ok R fr h g)
def D31.t (R : Rt) (a0 : Option Addr) (l0 : Nat) (c0 : Nat) (a5 : Option Addr) (l5 : Nat) (c5 : Nat) (h : Hp) : Prop :=
  (∃ n, L32.t R n a0 l0 c0 a5 l5 c5 0 h)
def D31.g (R : Rt) (fr : Fr) (h : Hp) : Prop := gSlice (fr 0) fun a0 l0 c0 => gSlice (fr 5) fun a5 l5 c5 => D31.t R a0 l0 c0 a5 l5 c5 h
theorem D31.ok (R : Rt) (fr : Fr) (h : Hp) (g : D31.g R fr h) : den prog E (cAt C [true, true, true, true, false]) (Ex.then (D3.g R) (retQ E [.tmp 2] R)) fr h := by
  obtain ⟨a0, l0, c0, e0, g⟩ := gSlice_elim g
  obtain ⟨a5, l5, c5, e5, g⟩ := gSlice_elim g
  exact den_cut 1 (r := (cAt C [true, true, true, true, false, true])) (by kernel_rfl) (B41.ok R) (den_enter [(0, .slice a0 l0 c0), (5, .slice a5 l5 c5)] ⟨e0, e5, trivial⟩ (by kernel_rfl) g)
theorem W42.ok (R : Rt) (fr : Fr) (h : Hp) (g : D31.g R fr h) : den prog E (cAt C [true, true, true, true]) (retQ E [.tmp 2] R) fr h :=
  den_then (by kernel_rfl) (D3.ok R) (D31.ok R fr h g)
def L44.g (N : Option Addr → Nat → Nat → Option Addr → Nat → Nat → Int → Hp → Prop) (fr : Fr) (h : Hp) : Prop := gSlice (fr 0) fun a0 l0 c0 => gSlice (fr 5) fun a5 l5 c5 => gInt .i64 (fr 6) fun x6 => N a0 l0 c0 a5 l5 c5 x6 h
def D46.t (R : Rt) (N44 : Option Addr → Nat → Nat → Option Addr → Nat → Nat → Int → Hp → Prop) (a0 : Option Addr) (l0 : Nat) (c0 : Nat) (a5 : Option Addr) (l5 : Nat) (c5 : Nat) (x6 : Int) (h : Hp) : Prop :=
  letK (IntKind.i64.wrap (x6 + 1)) fun n100 => N44 a0 l0 c0 a5 l5 c5 n100 h
def D46.g (R : Rt) (N44 : Option Addr → Nat → Nat → Option Addr → Nat → Nat → Int → Hp → Prop) (fr : Fr) (h : Hp) : Prop := gSlice (fr 0) fun a0 l0 c0 => gSlice (fr 5) fun a5 l5 c5 => gInt .i64 (fr 6) fun x6 => D46.t R N44 a0 l0 c0 a5 l5 c5 x6 h
theorem D46.ok (R : Rt) (N44 : Option Addr → Nat → Nat → Option Addr → Nat → Nat → Int → Hp → Prop) (fr : Fr) (h : Hp) (g : D46.g R N44 fr h) : den prog E (cAt C [true, true, true, false, true, false, false, true, true]) (Ex.then (L44.g N44) (Ex.inBlock 4 (Ex.then (D31.g R) (retQ E [.tmp 2] R)))) fr h := by
  obtain ⟨a0, l0, c0, e0, g⟩ := gSlice_elim g
  obtain ⟨a5, l5, c5, e5, g⟩ := gSlice_elim g
  obtain ⟨x6, e6, g⟩ := gInt_elim g
  exact den_enter [(0, .slice a0 l0 c0), (5, .slice a5 l5 c5), (6, .int .i64 x6)] ⟨e0, e5, e6, trivial⟩ (by kernel_rfl) g
def D48.t (R : Rt) (N44 : Option Addr → Nat → Nat → Option Addr → Nat → Nat → Int → Hp → Prop) (a0 : Option Addr) (l0 : Nat) (c0 : Nat) (a5 : Option Addr) (l5 : Nat) (c5 : Nat) (x6 : Int) (a7 : Option Addr) (l7 : Nat) (c7 : Nat) (h : Hp) : Prop :=
  idxK a5 l5 x6 1 fun q104 => stK h q104 (.slice a7 l7 c7) fun h105 => D46.t R N44 a0 l0 c0 a5 l5 c5 x6 h105
def D48.g (R : Rt) (N44 : Option Addr → Nat → Nat → Option Addr → Nat → Nat → Int → Hp → Prop) (fr : Fr) (h : Hp) : Prop := gSlice (fr 0) fun a0 l0 c0 => gSlice (fr 5) fun a5 l5 c5 => gInt .i64 (fr 6) fun x6 => gSlice (fr 7) fun a7 l7 c7 => D48.t R N44 a0 l0 c0 a5 l5 c5 x6 a7 l7 c7 h
theorem D48.ok (R : Rt) (N44 : Option Addr → Nat → Nat → Option Addr → Nat → Nat → Int → Hp → Prop) (fr : Fr) (h : Hp) (g : D48.g R N44 fr h) : den prog E (cAt C [true, true, true, false, true, false, false, true, false, false, true, true]) (Ex.inBlock 5 (Ex.then (D46.g R N44) (Ex.then (L44.g N44) (Ex.inBlock 4 (Ex.then (D31.g R) (retQ E [.tmp 2] R)))))) fr h := by
  obtain ⟨a0, l0, c0, e0, g⟩ := gSlice_elim g
  obtain ⟨a5, l5, c5, e5, g⟩ := gSlice_elim g
  obtain ⟨x6, e6, g⟩ := gInt_elim g
  obtain ⟨a7, l7, c7, e7, g⟩ := gSlice_elim g
  exact den_enter [(0, .slice a0 l0 c0), (5, .slice a5 l5 c5), (6, .int .i64 x6), (7, .slice a7 l7 c7)] ⟨e0, e5, e6, e7, trivial⟩ (by kernel_rfl) g
def L50.g (N : Option Addr → Nat → Nat → Option Addr → Nat → Nat → Int → Option Addr → Nat → Nat → Int → Hp → Prop) (fr : Fr) (h : Hp) : Prop := gSlice (fr 0) fun a0 l0 c0 => gSlice (fr 5) fun a5 l5 c5 => gInt .i64 (fr 6) fun x6 => gSlice (fr 7) fun a7 l7 c7 => gInt .i64 (fr 8) fun x8 => N a0 l0 c0 a5 l5 c5 x6 a7 l7 c7 x8 h
def D51.t (R : Rt) (N44 : Option Addr → Nat → Nat → Option Addr → Nat → Nat → Int → Hp → Prop) (N50 : Option Addr → Nat → Nat → Option Addr → Nat → Nat → Int → Option Addr → Nat → Nat → Int → Hp → Prop) (a0 : Option Addr) (l0 : Nat) (c0 : Nat) (a5 : Option Addr) (l5 : Nat) (c5 : Nat) (x6 : Int) (a7 : Option Addr) (l7 : Nat) (c7 : Nat) (x8 : Int) (h : Hp) : Prop :=
  cond (decide (x8 < 16)) (letK (IntKind.i64.wrap (100000 + x8)) fun n106 =>
  HQC gnomonlaw03_mark.id #[.int .i64 x6, .int .i64 n106] h fun v107 =>
  gInt .u64 v107 fun x_108 =>
  boxK h 27 [.int .u64 x_108] fun q109 h110 =>
  apK h110 27 T27 a7 l7 c7 (.slice (some q109) 1 1) fun a_111 l_111 c_111 h111 =>
  letK (IntKind.i64.wrap (x8 + 1)) fun n112 =>
  N50 a0 l0 c0 a5 l5 c5 x6 a_111 l_111 c_111 n112 h111) (D48.t R N44 a0 l0 c0 a5 l5 c5 x6 a7 l7 c7 h)
def D51.g (R : Rt) (N44 : Option Addr → Nat → Nat → Option Addr → Nat → Nat → Int → Hp → Prop) (N50 : Option Addr → Nat → Nat → Option Addr → Nat → Nat → Int → Option Addr → Nat → Nat → Int → Hp → Prop) (fr : Fr) (h : Hp) : Prop := gSlice (fr 0) fun a0 l0 c0 => gSlice (fr 5) fun a5 l5 c5 => gInt .i64 (fr 6) fun x6 => gSlice (fr 7) fun a7 l7 c7 => gInt .i64 (fr 8) fun x8 => D51.t R N44 N50 a0 l0 c0 a5 l5 c5 x6 a7 l7 c7 x8 h
theorem D51.ok (R : Rt) (N44 : Option Addr → Nat → Nat → Option Addr → Nat → Nat → Int → Hp → Prop) (N50 : Option Addr → Nat → Nat → Option Addr → Nat → Nat → Int → Option Addr → Nat → Nat → Int → Hp → Prop) (fr : Fr) (h : Hp) (g : D51.g R N44 N50 fr h) : den prog E (cAt C [true, true, true, false, true, false, false, true, false, false, true, false, true, false, false]) (Ex.then (L50.g N50) (Ex.inBlock 6 (Ex.then (D48.g R N44) (Ex.inBlock 5 (Ex.then (D46.g R N44) (Ex.then (L44.g N44) (Ex.inBlock 4 (Ex.then (D31.g R) (retQ E [.tmp 2] R))))))))) fr h := by
  obtain ⟨a0, l0, c0, e0, g⟩ := gSlice_elim g
  obtain ⟨a5, l5, c5, e5, g⟩ := gSlice_elim g
  obtain ⟨x6, e6, g⟩ := gInt_elim g
  obtain ⟨a7, l7, c7, e7, g⟩ := gSlice_elim g
  obtain ⟨x8, e8, g⟩ := gInt_elim g
  exact den_enter [(0, .slice a0 l0 c0), (5, .slice a5 l5 c5), (6, .int .i64 x6), (7, .slice a7 l7 c7), (8, .int .i64 x8)] ⟨e0, e5, e6, e7, e8, trivial⟩ (by kernel_rfl) g
def L50.t (R : Rt) (N44 : Option Addr → Nat → Nat → Option Addr → Nat → Nat → Int → Hp → Prop) : Nat → Option Addr → Nat → Nat → Option Addr → Nat → Nat → Int → Option Addr → Nat → Nat → Int → Hp → Prop
  | 0 => fun _ _ _ _ _ _ _ _ _ _ _ _ => False
  | n + 1 => fun a0 l0 c0 a5 l5 c5 x6 a7 l7 c7 x8 h => D51.t R N44 (L50.t R N44 n) a0 l0 c0 a5 l5 c5 x6 a7 l7 c7 x8 h
theorem L50.ok (R : Rt) (N44 : Option Addr → Nat → Nat → Option Addr → Nat → Nat → Int → Hp → Prop) (fr : Fr) (h : Hp) (g : L50.g (fun a0 l0 c0 a5 l5 c5 x6 a7 l7 c7 x8 h => ∃ n, L50.t R N44 n a0 l0 c0 a5 l5 c5 x6 a7 l7 c7 x8 h) fr h) : den prog E (cAt C [true, true, true, false, true, false, false, true, false, false, true, false, true, false]) (Ex.inBlock 6 (Ex.then (D48.g R N44) (Ex.inBlock 5 (Ex.then (D46.g R N44) (Ex.then (L44.g N44) (Ex.inBlock 4 (Ex.then (D31.g R) (retQ E [.tmp 2] R)))))))) fr h := by
  obtain ⟨a0, l0, c0, e0, g⟩ := gSlice_elim g
  obtain ⟨a5, l5, c5, e5, g⟩ := gSlice_elim g
  obtain ⟨x6, e6, g⟩ := gInt_elim g
  obtain ⟨a7, l7, c7, e7, g⟩ := gSlice_elim g
  obtain ⟨x8, e8, g⟩ := gInt_elim g
  obtain ⟨n, g⟩ := g
  refine loop_ok (fun n => L50.g (L50.t R N44 n)) (b := (cAt C [true, true, true, false, true, false, false, true, false, false, true, false, true, false, false])) (by kernel_rfl) (fun fr h g => ?_) (fun n => D51.ok R N44 (L50.t R N44 n)) n fr h (gSlice_intro e0 (gSlice_intro e5 (gInt_intro e6 (gSlice_intro e7 (gInt_intro e8 (g))))))
  obtain ⟨a0, l0, c0, e0, g⟩ := gSlice_elim g
  obtain ⟨a5, l5, c5, e5, g⟩ := gSlice_elim g
  obtain ⟨x6, e6, g⟩ := gInt_elim g
  obtain ⟨a7, l7, c7, e7, g⟩ := gSlice_elim g
  obtain ⟨x8, e8, g⟩ := gInt_elim g
  exact g
theorem B52.ok (R : Rt) (N44 : Option Addr → Nat → Nat → Option Addr → Nat → Nat → Int → Hp → Prop) (fr : Fr) (h : Hp) (g : L50.g (fun a0 l0 c0 a5 l5 c5 x6 a7 l7 c7 x8 h => ∃ n, L50.t R N44 n a0 l0 c0 a5 l5 c5 x6 a7 l7 c7 x8 h) fr h) : den prog E (cAt C [true, true, true, false, true, false, false, true, false, false, true, false, true]) (Ex.then (D48.g R N44) (Ex.inBlock 5 (Ex.then (D46.g R N44) (Ex.then (L44.g N44) (Ex.inBlock 4 (Ex.then (D31.g R) (retQ E [.tmp 2] R))))))) fr h :=
  den_block (by kernel_rfl) (L50.ok R N44 fr h g)
def D49.t (R : Rt) (N44 : Option Addr → Nat → Nat → Option Addr → Nat → Nat → Int → Hp → Prop) (a0 : Option Addr) (l0 : Nat) (c0 : Nat) (a5 : Option Addr) (l5 : Nat) (c5 : Nat) (x6 : Int) (a7 : Option Addr) (l7 : Nat) (c7 : Nat) (h : Hp) : Prop :=
  (∃ n, L50.t R N44 n a0 l0 c0 a5 l5 c5 x6 a7 l7 c7 0 h)
def D49.g (R : Rt) (N44 : Option Addr → Nat → Nat → Option Addr → Nat → Nat → Int → Hp → Prop) (fr : Fr) (h : Hp) : Prop := gSlice (fr 0) fun a0 l0 c0 => gSlice (fr 5) fun a5 l5 c5 => gInt .i64 (fr 6) fun x6 => gSlice (fr 7) fun a7 l7 c7 => D49.t R N44 a0 l0 c0 a5 l5 c5 x6 a7 l7 c7 h
theorem D49.ok (R : Rt) (N44 : Option Addr → Nat → Nat → Option Addr → Nat → Nat → Int → Hp → Prop) (fr : Fr) (h : Hp) (g : D49.g R N44 fr h) : den prog E (cAt C [true, true, true, false, true, false, false, true, false, false, true, false]) (Ex.then (D48.g R N44) (Ex.inBlock 5 (Ex.then (D46.g R N44) (Ex.then (L44.g N44) (Ex.inBlock 4 (Ex.then (D31.g R) (retQ E [.tmp 2] R))))))) fr h := by
  obtain ⟨a0, l0, c0, e0, g⟩ := gSlice_elim g
  obtain ⟨a5, l5, c5, e5, g⟩ := gSlice_elim g
  obtain ⟨x6, e6, g⟩ := gInt_elim g
  obtain ⟨a7, l7, c7, e7, g⟩ := gSlice_elim g
  exact den_cut 1 (r := (cAt C [true, true, true, false, true, false, false, true, false, false, true, false, true])) (by kernel_rfl) (B52.ok R N44) (den_enter [(0, .slice a0 l0 c0), (5, .slice a5 l5 c5), (6, .int .i64 x6), (7, .slice a7 l7 c7)] ⟨e0, e5, e6, e7, trivial⟩ (by kernel_rfl) g)
theorem W53.ok (R : Rt) (N44 : Option Addr → Nat → Nat → Option Addr → Nat → Nat → Int → Hp → Prop) (fr : Fr) (h : Hp) (g : D49.g R N44 fr h) : den prog E (cAt C [true, true, true, false, true, false, false, true, false, false, true]) (Ex.inBlock 5 (Ex.then (D46.g R N44) (Ex.then (L44.g N44) (Ex.inBlock 4 (Ex.then (D31.g R) (retQ E [.tmp 2] R)))))) fr h :=
  den_then (by kernel_rfl) (D48.ok R N44) (D49.ok R N44 fr h g)
def D47.t (R : Rt) (N44 : Option Addr → Nat → Nat → Option Addr → Nat → Nat → Int → Hp → Prop) (a0 : Option Addr) (l0 : Nat) (c0 : Nat) (a5 : Option Addr) (l5 : Nat) (c5 : Nat) (x6 : Int) (h : Hp) : Prop :=
  idxK a0 l0 x6 1 fun q101 =>
  ldK h q101 fun v102 =>
  gSlice v102 fun a_103 l_103 c_103 =>
  D49.t R N44 a0 l0 c0 a5 l5 c5 x6 a_103 l_103 c_103 h
def D47.g (R : Rt) (N44 : Option Addr → Nat → Nat → Option Addr → Nat → Nat → Int → Hp → Prop) (fr : Fr) (h : Hp) : Prop := gSlice (fr 0) fun a0 l0 c0 => gSlice (fr 5) fun a5 l5 c5 => gInt .i64 (fr 6) fun x6 => D47.t R N44 a0 l0 c0 a5 l5 c5 x6 h
theorem D47.ok (R : Rt) (N44 : Option Addr → Nat → Nat → Option Addr → Nat → Nat → Int → Hp → Prop) (fr : Fr) (h : Hp) (g : D47.g R N44 fr h) : den prog E (cAt C [true, true, true, false, true, false, false, true, false, false]) (Ex.inBlock 5 (Ex.then (D46.g R N44) (Ex.then (L44.g N44) (Ex.inBlock 4 (Ex.then (D31.g R) (retQ E [.tmp 2] R)))))) fr h := by
  obtain ⟨a0, l0, c0, e0, g⟩ := gSlice_elim g
  obtain ⟨a5, l5, c5, e5, g⟩ := gSlice_elim g
  obtain ⟨x6, e6, g⟩ := gInt_elim g
  exact den_cut 1 (r := (cAt C [true, true, true, false, true, false, false, true, false, false, true])) (by kernel_rfl) (W53.ok R N44) (den_enter [(0, .slice a0 l0 c0), (5, .slice a5 l5 c5), (6, .int .i64 x6)] ⟨e0, e5, e6, trivial⟩ (by kernel_rfl) g)
theorem B54.ok (R : Rt) (N44 : Option Addr → Nat → Nat → Option Addr → Nat → Nat → Int → Hp → Prop) (fr : Fr) (h : Hp) (g : D47.g R N44 fr h) : den prog E (cAt C [true, true, true, false, true, false, false, true, false]) (Ex.then (D46.g R N44) (Ex.then (L44.g N44) (Ex.inBlock 4 (Ex.then (D31.g R) (retQ E [.tmp 2] R))))) fr h :=
  den_block (by kernel_rfl) (D47.ok R N44 fr h g)
theorem W55.ok (R : Rt) (N44 : Option Addr → Nat → Nat → Option Addr → Nat → Nat → Int → Hp → Prop) (fr : Fr) (h : Hp) (g : D47.g R N44 fr h) : den prog E (cAt C [true, true, true, false, true, false, false, true]) (Ex.then (L44.g N44) (Ex.inBlock 4 (Ex.then (D31.g R) (retQ E [.tmp 2] R)))) fr h :=
  den_then (by kernel_rfl) (D46.ok R N44) (B54.ok R N44 fr h g)
def D45.t (R : Rt) (N44 : Option Addr → Nat → Nat → Option Addr → Nat → Nat → Int → Hp → Prop) (a0 : Option Addr) (l0 : Nat) (c0 : Nat) (a5 : Option Addr) (l5 : Nat) (c5 : Nat) (x6 : Int) (h : Hp) : Prop :=
  cond (decide (x6 < (((l0 : Nat) : Int)))) (D47.t R N44 a0 l0 c0 a5 l5 c5 x6 h) (D31.t R a0 l0 c0 a5 l5 c5 h)
def D45.g (R : Rt) (N44 : Option Addr → Nat → Nat → Option Addr → Nat → Nat → Int → Hp → Prop) (fr : Fr) (h : Hp) : Prop := gSlice (fr 0) fun a0 l0 c0 => gSlice (fr 5) fun a5 l5 c5 => gInt .i64 (fr 6) fun x6 => D45.t R N44 a0 l0 c0 a5 l5 c5 x6 h
theorem D45.ok (R : Rt) (N44 : Option Addr → Nat → Nat → Option Addr → Nat → Nat → Int → Hp → Prop) (fr : Fr) (h : Hp) (g : D45.g R N44 fr h) : den prog E (cAt C [true, true, true, false, true, false, false]) (Ex.then (L44.g N44) (Ex.inBlock 4 (Ex.then (D31.g R) (retQ E [.tmp 2] R)))) fr h := by
  obtain ⟨a0, l0, c0, e0, g⟩ := gSlice_elim g
  obtain ⟨a5, l5, c5, e5, g⟩ := gSlice_elim g
  obtain ⟨x6, e6, g⟩ := gInt_elim g
  exact den_cut 1 (r := (cAt C [true, true, true, false, true, false, false, true])) (by kernel_rfl) (W55.ok R N44) (den_enter [(0, .slice a0 l0 c0), (5, .slice a5 l5 c5), (6, .int .i64 x6)] ⟨e0, e5, e6, trivial⟩ (by kernel_rfl) g)
def L44.t (R : Rt) : Nat → Option Addr → Nat → Nat → Option Addr → Nat → Nat → Int → Hp → Prop
  | 0 => fun _ _ _ _ _ _ _ _ => False
  | n + 1 => fun a0 l0 c0 a5 l5 c5 x6 h => D45.t R (L44.t R n) a0 l0 c0 a5 l5 c5 x6 h
theorem L44.ok (R : Rt) (fr : Fr) (h : Hp) (g : L44.g (fun a0 l0 c0 a5 l5 c5 x6 h => ∃ n, L44.t R n a0 l0 c0 a5 l5 c5 x6 h) fr h) : den prog E (cAt C [true, true, true, false, true, false]) (Ex.inBlock 4 (Ex.then (D31.g R) (retQ E [.tmp 2] R))) fr h := by
  obtain ⟨a0, l0, c0, e0, g⟩ := gSlice_elim g
  obtain ⟨a5, l5, c5, e5, g⟩ := gSlice_elim g
  obtain ⟨x6, e6, g⟩ := gInt_elim g
  obtain ⟨n, g⟩ := g
  refine loop_ok (fun n => L44.g (L44.t R n)) (b := (cAt C [true, true, true, false, true, false, false])) (by kernel_rfl) (fun fr h g => ?_) (fun n => D45.ok R (L44.t R n)) n fr h (gSlice_intro e0 (gSlice_intro e5 (gInt_intro e6 (g))))
  obtain ⟨a0, l0, c0, e0, g⟩ := gSlice_elim g
  obtain ⟨a5, l5, c5, e5, g⟩ := gSlice_elim g
  obtain ⟨x6, e6, g⟩ := gInt_elim g
  exact g
theorem B56.ok (R : Rt) (fr : Fr) (h : Hp) (g : L44.g (fun a0 l0 c0 a5 l5 c5 x6 h => ∃ n, L44.t R n a0 l0 c0 a5 l5 c5 x6 h) fr h) : den prog E (cAt C [true, true, true, false, true]) (Ex.then (D31.g R) (retQ E [.tmp 2] R)) fr h :=
  den_block (by kernel_rfl) (L44.ok R fr h g)
def D43.t (R : Rt) (a0 : Option Addr) (l0 : Nat) (c0 : Nat) (a5 : Option Addr) (l5 : Nat) (c5 : Nat) (h : Hp) : Prop :=
  (∃ n, L44.t R n a0 l0 c0 a5 l5 c5 0 h)
def D43.g (R : Rt) (fr : Fr) (h : Hp) : Prop := gSlice (fr 0) fun a0 l0 c0 => gSlice (fr 5) fun a5 l5 c5 => D43.t R a0 l0 c0 a5 l5 c5 h
theorem D43.ok (R : Rt) (fr : Fr) (h : Hp) (g : D43.g R fr h) : den prog E (cAt C [true, true, true, false]) (Ex.then (D31.g R) (retQ E [.tmp 2] R)) fr h := by
  obtain ⟨a0, l0, c0, e0, g⟩ := gSlice_elim g
  obtain ⟨a5, l5, c5, e5, g⟩ := gSlice_elim g
  exact den_cut 1 (r := (cAt C [true, true, true, false, true])) (by kernel_rfl) (B56.ok R) (den_enter [(0, .slice a0 l0 c0), (5, .slice a5 l5 c5)] ⟨e0, e5, trivial⟩ (by kernel_rfl) g)
theorem W57.ok (R : Rt) (fr : Fr) (h : Hp) (g : D43.g R fr h) : den prog E (cAt C [true, true, true]) (retQ E [.tmp 2] R) fr h :=
  den_then (by kernel_rfl) (W42.ok R) (D43.ok R fr h g)
def D2.t (R : Rt) (a0 : Option Addr) (l0 : Nat) (c0 : Nat) (h : Hp) : Prop :=
  mkK h 22 T22 (((l0 : Nat) : Int)) (((l0 : Nat) : Int)) fun q1 h2 =>
  D43.t R a0 l0 c0 (some q1) ((((l0 : Nat) : Int)).toNat) ((((l0 : Nat) : Int)).toNat) h2
def D2.g (R : Rt) (fr : Fr) (h : Hp) : Prop := gSlice (fr 0) fun a0 l0 c0 => D2.t R a0 l0 c0 h
theorem D2.ok (R : Rt) (fr : Fr) (h : Hp) (g : D2.g R fr h) : den prog E (cAt C [true, true]) (retQ E [.tmp 2] R) fr h := by
  obtain ⟨a0, l0, c0, e0, g⟩ := gSlice_elim g
  exact den_cut 1 (r := (cAt C [true, true, true])) (by kernel_rfl) (W57.ok R) (den_enter [(0, .slice a0 l0 c0)] ⟨e0, trivial⟩ (by kernel_rfl) g)
def L59.g (N : Option Addr → Nat → Nat → Int → Hp → Prop) (fr : Fr) (h : Hp) : Prop := gSlice (fr 0) fun a0 l0 c0 => gInt .i64 (fr 3) fun x3 => N a0 l0 c0 x3 h
def D61.t (R : Rt) (N59 : Option Addr → Nat → Nat → Int → Hp → Prop) (a0 : Option Addr) (l0 : Nat) (c0 : Nat) (x3 : Int) (h : Hp) : Prop :=
  letK (IntKind.i64.wrap (x3 + 1)) fun n113 => N59 a0 l0 c0 n113 h
def D61.g (R : Rt) (N59 : Option Addr → Nat → Nat → Int → Hp → Prop) (fr : Fr) (h : Hp) : Prop := gSlice (fr 0) fun a0 l0 c0 => gInt .i64 (fr 3) fun x3 => D61.t R N59 a0 l0 c0 x3 h
theorem D61.ok (R : Rt) (N59 : Option Addr → Nat → Nat → Int → Hp → Prop) (fr : Fr) (h : Hp) (g : D61.g R N59 fr h) : den prog E (cAt C [true, false, true, false, false, true, true]) (Ex.then (L59.g N59) (Ex.inBlock 0 (Ex.then (D2.g R) (retQ E [.tmp 2] R)))) fr h := by
  obtain ⟨a0, l0, c0, e0, g⟩ := gSlice_elim g
  obtain ⟨x3, e3, g⟩ := gInt_elim g
  exact den_enter [(0, .slice a0 l0 c0), (3, .int .i64 x3)] ⟨e0, e3, trivial⟩ (by kernel_rfl) g
def L63.g (N : Option Addr → Nat → Nat → Int → Int → Hp → Prop) (fr : Fr) (h : Hp) : Prop := gSlice (fr 0) fun a0 l0 c0 => gInt .i64 (fr 3) fun x3 => gInt .i64 (fr 4) fun x4 => N a0 l0 c0 x3 x4 h
def D64.t (R : Rt) (N59 : Option Addr → Nat → Nat → Int → Hp → Prop) (N63 : Option Addr → Nat → Nat → Int → Int → Hp → Prop) (a0 : Option Addr) (l0 : Nat) (c0 : Nat) (x3 : Int) (x4 : Int) (h : Hp) : Prop :=
  idxK a0 l0 x3 1 fun q114 =>
  ldK h q114 fun v115 =>
  gSlice v115 fun a_116 l_116 c_116 =>
  cond (decide (x4 < (((l_116 : Nat) : Int)))) (idxK a0 l0 x3 1 fun q117 =>
  ldK h q117 fun v118 =>
  gSlice v118 fun a_119 l_119 c_119 =>
  HQC gnomonlaw03_mark.id #[.int .i64 x3, .int .i64 x4] h fun v120 =>
  gInt .u64 v120 fun x_121 =>
  idxK a_119 l_119 x4 1 fun q122 =>
  stK h q122 (.int .u64 x_121) fun h123 =>
  letK (IntKind.i64.wrap (x4 + 1)) fun n124 =>
  N63 a0 l0 c0 x3 n124 h123) (D61.t R N59 a0 l0 c0 x3 h)
def D64.g (R : Rt) (N59 : Option Addr → Nat → Nat → Int → Hp → Prop) (N63 : Option Addr → Nat → Nat → Int → Int → Hp → Prop) (fr : Fr) (h : Hp) : Prop := gSlice (fr 0) fun a0 l0 c0 => gInt .i64 (fr 3) fun x3 => gInt .i64 (fr 4) fun x4 => D64.t R N59 N63 a0 l0 c0 x3 x4 h
theorem D64.ok (R : Rt) (N59 : Option Addr → Nat → Nat → Int → Hp → Prop) (N63 : Option Addr → Nat → Nat → Int → Int → Hp → Prop) (fr : Fr) (h : Hp) (g : D64.g R N59 N63 fr h) : den prog E (cAt C [true, false, true, false, false, true, false, false, true, false, false]) (Ex.then (L63.g N63) (Ex.inBlock 2 (Ex.inBlock 1 (Ex.then (D61.g R N59) (Ex.then (L59.g N59) (Ex.inBlock 0 (Ex.then (D2.g R) (retQ E [.tmp 2] R)))))))) fr h := by
  obtain ⟨a0, l0, c0, e0, g⟩ := gSlice_elim g
  obtain ⟨x3, e3, g⟩ := gInt_elim g
  obtain ⟨x4, e4, g⟩ := gInt_elim g
  exact den_enter [(0, .slice a0 l0 c0), (3, .int .i64 x3), (4, .int .i64 x4)] ⟨e0, e3, e4, trivial⟩ (by kernel_rfl) g
def L63.t (R : Rt) (N59 : Option Addr → Nat → Nat → Int → Hp → Prop) : Nat → Option Addr → Nat → Nat → Int → Int → Hp → Prop
  | 0 => fun _ _ _ _ _ _ => False
  | n + 1 => fun a0 l0 c0 x3 x4 h => D64.t R N59 (L63.t R N59 n) a0 l0 c0 x3 x4 h
theorem L63.ok (R : Rt) (N59 : Option Addr → Nat → Nat → Int → Hp → Prop) (fr : Fr) (h : Hp) (g : L63.g (fun a0 l0 c0 x3 x4 h => ∃ n, L63.t R N59 n a0 l0 c0 x3 x4 h) fr h) : den prog E (cAt C [true, false, true, false, false, true, false, false, true, false]) (Ex.inBlock 2 (Ex.inBlock 1 (Ex.then (D61.g R N59) (Ex.then (L59.g N59) (Ex.inBlock 0 (Ex.then (D2.g R) (retQ E [.tmp 2] R))))))) fr h := by
  obtain ⟨a0, l0, c0, e0, g⟩ := gSlice_elim g
  obtain ⟨x3, e3, g⟩ := gInt_elim g
  obtain ⟨x4, e4, g⟩ := gInt_elim g
  obtain ⟨n, g⟩ := g
  refine loop_ok (fun n => L63.g (L63.t R N59 n)) (b := (cAt C [true, false, true, false, false, true, false, false, true, false, false])) (by kernel_rfl) (fun fr h g => ?_) (fun n => D64.ok R N59 (L63.t R N59 n)) n fr h (gSlice_intro e0 (gInt_intro e3 (gInt_intro e4 (g))))
  obtain ⟨a0, l0, c0, e0, g⟩ := gSlice_elim g
  obtain ⟨x3, e3, g⟩ := gInt_elim g
  obtain ⟨x4, e4, g⟩ := gInt_elim g
  exact g
theorem B65.ok (R : Rt) (N59 : Option Addr → Nat → Nat → Int → Hp → Prop) (fr : Fr) (h : Hp) (g : L63.g (fun a0 l0 c0 x3 x4 h => ∃ n, L63.t R N59 n a0 l0 c0 x3 x4 h) fr h) : den prog E (cAt C [true, false, true, false, false, true, false, false, true]) (Ex.inBlock 1 (Ex.then (D61.g R N59) (Ex.then (L59.g N59) (Ex.inBlock 0 (Ex.then (D2.g R) (retQ E [.tmp 2] R)))))) fr h :=
  den_block (by kernel_rfl) (L63.ok R N59 fr h g)
def D62.t (R : Rt) (N59 : Option Addr → Nat → Nat → Int → Hp → Prop) (a0 : Option Addr) (l0 : Nat) (c0 : Nat) (x3 : Int) (h : Hp) : Prop :=
  (∃ n, L63.t R N59 n a0 l0 c0 x3 0 h)
def D62.g (R : Rt) (N59 : Option Addr → Nat → Nat → Int → Hp → Prop) (fr : Fr) (h : Hp) : Prop := gSlice (fr 0) fun a0 l0 c0 => gInt .i64 (fr 3) fun x3 => D62.t R N59 a0 l0 c0 x3 h
theorem D62.ok (R : Rt) (N59 : Option Addr → Nat → Nat → Int → Hp → Prop) (fr : Fr) (h : Hp) (g : D62.g R N59 fr h) : den prog E (cAt C [true, false, true, false, false, true, false, false]) (Ex.inBlock 1 (Ex.then (D61.g R N59) (Ex.then (L59.g N59) (Ex.inBlock 0 (Ex.then (D2.g R) (retQ E [.tmp 2] R)))))) fr h := by
  obtain ⟨a0, l0, c0, e0, g⟩ := gSlice_elim g
  obtain ⟨x3, e3, g⟩ := gInt_elim g
  exact den_cut 1 (r := (cAt C [true, false, true, false, false, true, false, false, true])) (by kernel_rfl) (B65.ok R N59) (den_enter [(0, .slice a0 l0 c0), (3, .int .i64 x3)] ⟨e0, e3, trivial⟩ (by kernel_rfl) g)
theorem B66.ok (R : Rt) (N59 : Option Addr → Nat → Nat → Int → Hp → Prop) (fr : Fr) (h : Hp) (g : D62.g R N59 fr h) : den prog E (cAt C [true, false, true, false, false, true, false]) (Ex.then (D61.g R N59) (Ex.then (L59.g N59) (Ex.inBlock 0 (Ex.then (D2.g R) (retQ E [.tmp 2] R))))) fr h :=
  den_block (by kernel_rfl) (D62.ok R N59 fr h g)
theorem W67.ok (R : Rt) (N59 : Option Addr → Nat → Nat → Int → Hp → Prop) (fr : Fr) (h : Hp) (g : D62.g R N59 fr h) : den prog E (cAt C [true, false, true, false, false, true]) (Ex.then (L59.g N59) (Ex.inBlock 0 (Ex.then (D2.g R) (retQ E [.tmp 2] R)))) fr h :=
  den_then (by kernel_rfl) (D61.ok R N59) (B66.ok R N59 fr h g)
def D60.t (R : Rt) (N59 : Option Addr → Nat → Nat → Int → Hp → Prop) (a0 : Option Addr) (l0 : Nat) (c0 : Nat) (x3 : Int) (h : Hp) : Prop :=
  cond (decide (x3 < (((l0 : Nat) : Int)))) (D62.t R N59 a0 l0 c0 x3 h) (D2.t R a0 l0 c0 h)
def D60.g (R : Rt) (N59 : Option Addr → Nat → Nat → Int → Hp → Prop) (fr : Fr) (h : Hp) : Prop := gSlice (fr 0) fun a0 l0 c0 => gInt .i64 (fr 3) fun x3 => D60.t R N59 a0 l0 c0 x3 h
theorem D60.ok (R : Rt) (N59 : Option Addr → Nat → Nat → Int → Hp → Prop) (fr : Fr) (h : Hp) (g : D60.g R N59 fr h) : den prog E (cAt C [true, false, true, false, false]) (Ex.then (L59.g N59) (Ex.inBlock 0 (Ex.then (D2.g R) (retQ E [.tmp 2] R)))) fr h := by
  obtain ⟨a0, l0, c0, e0, g⟩ := gSlice_elim g
  obtain ⟨x3, e3, g⟩ := gInt_elim g
  exact den_cut 1 (r := (cAt C [true, false, true, false, false, true])) (by kernel_rfl) (W67.ok R N59) (den_enter [(0, .slice a0 l0 c0), (3, .int .i64 x3)] ⟨e0, e3, trivial⟩ (by kernel_rfl) g)
def L59.t (R : Rt) : Nat → Option Addr → Nat → Nat → Int → Hp → Prop
  | 0 => fun _ _ _ _ _ => False
  | n + 1 => fun a0 l0 c0 x3 h => D60.t R (L59.t R n) a0 l0 c0 x3 h
theorem L59.ok (R : Rt) (fr : Fr) (h : Hp) (g : L59.g (fun a0 l0 c0 x3 h => ∃ n, L59.t R n a0 l0 c0 x3 h) fr h) : den prog E (cAt C [true, false, true, false]) (Ex.inBlock 0 (Ex.then (D2.g R) (retQ E [.tmp 2] R))) fr h := by
  obtain ⟨a0, l0, c0, e0, g⟩ := gSlice_elim g
  obtain ⟨x3, e3, g⟩ := gInt_elim g
  obtain ⟨n, g⟩ := g
  refine loop_ok (fun n => L59.g (L59.t R n)) (b := (cAt C [true, false, true, false, false])) (by kernel_rfl) (fun fr h g => ?_) (fun n => D60.ok R (L59.t R n)) n fr h (gSlice_intro e0 (gInt_intro e3 (g)))
  obtain ⟨a0, l0, c0, e0, g⟩ := gSlice_elim g
  obtain ⟨x3, e3, g⟩ := gInt_elim g
  exact g
theorem B68.ok (R : Rt) (fr : Fr) (h : Hp) (g : L59.g (fun a0 l0 c0 x3 h => ∃ n, L59.t R n a0 l0 c0 x3 h) fr h) : den prog E (cAt C [true, false, true]) (Ex.then (D2.g R) (retQ E [.tmp 2] R)) fr h :=
  den_block (by kernel_rfl) (L59.ok R fr h g)
def D58.t (R : Rt) (a0 : Option Addr) (l0 : Nat) (c0 : Nat) (h : Hp) : Prop :=
  (∃ n, L59.t R n a0 l0 c0 0 h)
def D58.g (R : Rt) (fr : Fr) (h : Hp) : Prop := gSlice (fr 0) fun a0 l0 c0 => D58.t R a0 l0 c0 h
theorem D58.ok (R : Rt) (fr : Fr) (h : Hp) (g : D58.g R fr h) : den prog E (cAt C [true, false]) (Ex.then (D2.g R) (retQ E [.tmp 2] R)) fr h := by
  obtain ⟨a0, l0, c0, e0, g⟩ := gSlice_elim g
  exact den_cut 1 (r := (cAt C [true, false, true])) (by kernel_rfl) (B68.ok R) (den_enter [(0, .slice a0 l0 c0)] ⟨e0, trivial⟩ (by kernel_rfl) g)
theorem W69.ok (R : Rt) (fr : Fr) (h : Hp) (g : D58.g R fr h) : den prog E (cAt C [true]) (retQ E [.tmp 2] R) fr h :=
  den_then (by kernel_rfl) (D2.ok R) (D58.ok R fr h g)
def D1.t (R : Rt) (a0 : Option Addr) (l0 : Nat) (c0 : Nat) (h : Hp) : Prop :=
  D58.t R a0 l0 c0 h
def D1.g (R : Rt) (fr : Fr) (h : Hp) : Prop := gSlice (fr 0) fun a0 l0 c0 => D1.t R a0 l0 c0 h
theorem D1.ok (R : Rt) (fr : Fr) (h : Hp) (g : D1.g R fr h) : den prog E C (retQ E [.tmp 2] R) fr h := by
  obtain ⟨a0, l0, c0, e0, g⟩ := gSlice_elim g
  exact den_cut 1 (r := (cAt C [true])) (by kernel_rfl) (W69.ok R) (den_enter [(0, .slice a0 l0 c0)] ⟨e0, trivial⟩ (by kernel_rfl) g)
def t (a0 : Option Addr) (l0 : Nat) (c0 : Nat) (h : Hp) (R : Rt) : Prop := D1.t R a0 l0 c0 h
theorem ok {a0 : Option Addr} {l0 : Nat} {c0 : Nat} {h : Hp} {R : Rt} (g : t a0 l0 c0 h R) : HC id #[.slice a0 l0 c0] h R :=
  calls_of_den' envOk (c := C) (rs := [.tmp 2]) Try.func23 (by kernel_rfl) (by kernel_rfl) (by kernel_rfl) (args := [.slice a0 l0 c0]) (by kernel_rfl) (D1.ok R _ h (gSlice_intro rfl (g)))
end gnomonlaw03_apart











end Go.Proofs.Ytdpkfipkjdlmlaa.G
