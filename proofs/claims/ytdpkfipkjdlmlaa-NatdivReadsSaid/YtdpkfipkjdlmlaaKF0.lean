/- Texts of this work, joined: Fp0. -/
import Derived.Test.YtdpkfipkjdlmlaaKE
/- Functions of the translation as predicates over heaps, and that their calls do so. Written by a program of this work. -/
namespace Go.Proofs.Ytdpkfipkjdlmlaa.G
open Go.Gv
set_option linter.unusedVariables false
set_option maxRecDepth 100000
namespace gnomonlaw03_NatdivReads
noncomputable def C : Code := bodyOf Try.f3
def D1.t (R : Rt) (s0 : ByteArray) (h : Hp) : Prop :=
  HC natdiv_Read.id #[.string (⟨#[48, 48, 49, 56, 52, 52, 54, 55, 52, 52, 48, 55, 51, 55, 48, 57, 53, 53, 49, 54, 49, 55]⟩ : ByteArray)] h fun v1 h2 =>
  gTup v1 fun y3 =>
  uncons y3 fun v4 y4 =>
  gSlice v4 fun a_5 l_5 c_5 =>
  uncons y4 fun v6 y6 =>
  gInt .i64 v6 fun x_7 =>
  unnil y6 <| cond (x_7 == 0) (boxK h2 27 [.int .u64 1, .int .u64 1] fun q8 h9 =>
  HQC gnomonref01_Same.id #[.slice a_5 l_5 c_5, .slice (some q8) 2 2] h9 fun v10 =>
  gBool v10 fun b_11 =>
  cond b_11 (HC gnomonlaw03_read.id #[.string s0] h9 fun v12 h13 =>
  gBool v12 fun b_14 =>
  R (.bool b_14) h13) (R (.bool false) h9)) (R (.bool false) h2)
def D1.g (R : Rt) (fr : Fr) (h : Hp) : Prop := gStr (fr 0) fun s0 => D1.t R s0 h
theorem D1.ok (R : Rt) (fr : Fr) (h : Hp) (g : D1.g R fr h) : den prog E C (retQ E [.tmp 2] R) fr h := by
  obtain ⟨s0, e0, g⟩ := gStr_elim g
  exact den_enter [(0, .string s0)] ⟨e0, trivial⟩ (by kernel_rfl) g
def t (s0 : ByteArray) (h : Hp) (R : Rt) : Prop := D1.t R s0 h
theorem ok {s0 : ByteArray} {h : Hp} {R : Rt} (g : t s0 h R) : HC id #[.string s0] h R :=
  calls_of_den' envOk (c := C) (rs := [.tmp 2]) Try.func3 (by kernel_rfl) (by kernel_rfl) (by kernel_rfl) (args := [.string s0]) (by kernel_rfl) (D1.ok R _ h (gStr_intro rfl (g)))
end gnomonlaw03_NatdivReads







namespace natdiv_Read
noncomputable def C : Code := bodyOf Try.f13
def D2.t (R : Rt) (a4 : Option Addr) (l4 : Nat) (c4 : Nat) (h : Hp) : Prop :=
  R (.tuple #[.slice a4 l4 c4, .int .i64 0]) h
def D2.g (R : Rt) (fr : Fr) (h : Hp) : Prop := gSlice (fr 4) fun a4 l4 c4 => D2.t R a4 l4 c4 h
theorem D2.ok (R : Rt) (fr : Fr) (h : Hp) (g : D2.g R fr h) : den prog E (cAt C [true, true, true, true, true, true, true]) (retQ E [.tmp 2, .tmp 3] R) fr h := by
  obtain ⟨a4, l4, c4, e4, g⟩ := gSlice_elim g
  exact den_enter [(4, .slice a4 l4 c4)] ⟨e4, trivial⟩ (by kernel_rfl) g
def L4.g (N : ByteArray → Option Addr → Nat → Nat → Int → Int → Addr → Hp → Prop) (fr : Fr) (h : Hp) : Prop := gStr (fr 0) fun s0 => gSlice (fr 4) fun a4 l4 c4 => gInt .u64 (fr 5) fun x5 => gInt .u64 (fr 6) fun x6 => gPtrS (fr 15) fun q15 => N s0 a4 l4 c4 x5 x6 q15 h
def D5.t (R : Rt) (N4 : ByteArray → Option Addr → Nat → Nat → Int → Int → Addr → Hp → Prop) (s0 : ByteArray) (a4 : Option Addr) (l4 : Nat) (c4 : Nat) (x5 : Int) (x6 : Int) (q15 : Addr) (h : Hp) : Prop :=
  nxK h q15 (fun n3 m3 h4 =>
  cond (decide (m3 < 48)) (R (.tuple #[.slice none 0 0, .int .i64 8]) h4) (cond (decide (m3 > 57)) (R (.tuple #[.slice none 0 0, .int .i64 8]) h4) (letK (IntKind.u64.wrap (x5 * 10)) fun n5 =>
  letK (IntKind.i32.wrap (m3 - 48)) fun n6 =>
  letK (IntKind.u64.wrap n6) fun n7 =>
  letK (IntKind.u64.wrap (n5 + n7)) fun n8 =>
  letK (IntKind.u64.wrap (x6 * 10)) fun n9 =>
  cond (n9 == 10000000000000000000) (HC nat_MulWord.id #[.slice a4 l4 c4, .int .u64 n9] h4 fun v10 h11 =>
  gTup v10 fun y12 =>
  uncons y12 fun v13 y13 =>
  gSlice v13 fun a_14 l_14 c_14 =>
  uncons y13 fun v15 y15 =>
  gInt .i64 v15 fun x_16 =>
  unnil y15 <| HC nat_Word.id #[.int .u64 n8] h11 fun v17 h18 =>
  gSlice v17 fun a_19 l_19 c_19 =>
  HC nat_Add.id #[.slice a_14 l_14 c_14, .slice a_19 l_19 c_19] h18 fun v20 h21 =>
  gTup v20 fun y22 =>
  uncons y22 fun v23 y23 =>
  gSlice v23 fun a_24 l_24 c_24 =>
  uncons y23 fun v25 y25 =>
  gInt .i64 v25 fun x_26 =>
  unnil y25 <| N4 s0 a_24 l_24 c_24 0 1 q15 h21) (letK (IntKind.i64.wrap ((((s0.size : Nat) : Int)) - 1)) fun n27 =>
  cond (n3 == n27) (HC nat_MulWord.id #[.slice a4 l4 c4, .int .u64 n9] h4 fun v28 h29 =>
  gTup v28 fun y30 =>
  uncons y30 fun v31 y31 =>
  gSlice v31 fun a_32 l_32 c_32 =>
  uncons y31 fun v33 y33 =>
  gInt .i64 v33 fun x_34 =>
  unnil y33 <| HC nat_Word.id #[.int .u64 n8] h29 fun v35 h36 =>
  gSlice v35 fun a_37 l_37 c_37 =>
  HC nat_Add.id #[.slice a_32 l_32 c_32, .slice a_37 l_37 c_37] h36 fun v38 h39 =>
  gTup v38 fun y40 =>
  uncons y40 fun v41 y41 =>
  gSlice v41 fun a_42 l_42 c_42 =>
  uncons y41 fun v43 y43 =>
  gInt .i64 v43 fun x_44 =>
  unnil y43 <| N4 s0 a_42 l_42 c_42 0 1 q15 h39) (N4 s0 a4 l4 c4 n8 n9 q15 h4))))) (D2.t R a4 l4 c4 h)
def D5.g (R : Rt) (N4 : ByteArray → Option Addr → Nat → Nat → Int → Int → Addr → Hp → Prop) (fr : Fr) (h : Hp) : Prop := gStr (fr 0) fun s0 => gSlice (fr 4) fun a4 l4 c4 => gInt .u64 (fr 5) fun x5 => gInt .u64 (fr 6) fun x6 => gPtrS (fr 15) fun q15 => D5.t R N4 s0 a4 l4 c4 x5 x6 q15 h
theorem D5.ok (R : Rt) (N4 : ByteArray → Option Addr → Nat → Nat → Int → Int → Addr → Hp → Prop) (fr : Fr) (h : Hp) (g : D5.g R N4 fr h) : den prog E (cAt C [true, true, true, true, true, true, false, true, false, false]) (Ex.then (L4.g N4) (Ex.inBlock 0 (Ex.then (D2.g R) (retQ E [.tmp 2, .tmp 3] R)))) fr h := by
  obtain ⟨s0, e0, g⟩ := gStr_elim g
  obtain ⟨a4, l4, c4, e4, g⟩ := gSlice_elim g
  obtain ⟨x5, e5, g⟩ := gInt_elim g
  obtain ⟨x6, e6, g⟩ := gInt_elim g
  obtain ⟨q15, e15, g⟩ := gPtrS_elim g
  exact den_enter [(0, .string s0), (4, .slice a4 l4 c4), (5, .int .u64 x5), (6, .int .u64 x6), (15, .pointer (some q15))] ⟨e0, e4, e5, e6, e15, trivial⟩ (by kernel_rfl) g
def L4.t (R : Rt) : Nat → ByteArray → Option Addr → Nat → Nat → Int → Int → Addr → Hp → Prop
  | 0 => fun _ _ _ _ _ _ _ _ => False
  | n + 1 => fun s0 a4 l4 c4 x5 x6 q15 h => D5.t R (L4.t R n) s0 a4 l4 c4 x5 x6 q15 h
theorem L4.ok (R : Rt) (fr : Fr) (h : Hp) (g : L4.g (fun s0 a4 l4 c4 x5 x6 q15 h => ∃ n, L4.t R n s0 a4 l4 c4 x5 x6 q15 h) fr h) : den prog E (cAt C [true, true, true, true, true, true, false, true, false]) (Ex.inBlock 0 (Ex.then (D2.g R) (retQ E [.tmp 2, .tmp 3] R))) fr h := by
  obtain ⟨s0, e0, g⟩ := gStr_elim g
  obtain ⟨a4, l4, c4, e4, g⟩ := gSlice_elim g
  obtain ⟨x5, e5, g⟩ := gInt_elim g
  obtain ⟨x6, e6, g⟩ := gInt_elim g
  obtain ⟨q15, e15, g⟩ := gPtrS_elim g
  obtain ⟨n, g⟩ := g
  refine loop_ok (fun n => L4.g (L4.t R n)) (b := (cAt C [true, true, true, true, true, true, false, true, false, false])) (by kernel_rfl) (fun fr h g => ?_) (fun n => D5.ok R (L4.t R n)) n fr h (gStr_intro e0 (gSlice_intro e4 (gInt_intro e5 (gInt_intro e6 (gPtrS_intro e15 (g))))))
  obtain ⟨s0, e0, g⟩ := gStr_elim g
  obtain ⟨a4, l4, c4, e4, g⟩ := gSlice_elim g
  obtain ⟨x5, e5, g⟩ := gInt_elim g
  obtain ⟨x6, e6, g⟩ := gInt_elim g
  obtain ⟨q15, e15, g⟩ := gPtrS_elim g
  exact g
theorem B6.ok (R : Rt) (fr : Fr) (h : Hp) (g : L4.g (fun s0 a4 l4 c4 x5 x6 q15 h => ∃ n, L4.t R n s0 a4 l4 c4 x5 x6 q15 h) fr h) : den prog E (cAt C [true, true, true, true, true, true, false, true]) (Ex.then (D2.g R) (retQ E [.tmp 2, .tmp 3] R)) fr h :=
  den_block (by kernel_rfl) (L4.ok R fr h g)
def D3.t (R : Rt) (s0 : ByteArray) (a4 : Option Addr) (l4 : Nat) (c4 : Nat) (x5 : Int) (x6 : Int) (h : Hp) : Prop :=
  rgK h s0 fun q1 h2 => (∃ n, L4.t R n s0 a4 l4 c4 x5 x6 q1 h2)
def D3.g (R : Rt) (fr : Fr) (h : Hp) : Prop := gStr (fr 0) fun s0 => gSlice (fr 4) fun a4 l4 c4 => gInt .u64 (fr 5) fun x5 => gInt .u64 (fr 6) fun x6 => D3.t R s0 a4 l4 c4 x5 x6 h
theorem D3.ok (R : Rt) (fr : Fr) (h : Hp) (g : D3.g R fr h) : den prog E (cAt C [true, true, true, true, true, true, false]) (Ex.then (D2.g R) (retQ E [.tmp 2, .tmp 3] R)) fr h := by
  obtain ⟨s0, e0, g⟩ := gStr_elim g
  obtain ⟨a4, l4, c4, e4, g⟩ := gSlice_elim g
  obtain ⟨x5, e5, g⟩ := gInt_elim g
  obtain ⟨x6, e6, g⟩ := gInt_elim g
  exact den_cut 1 (r := (cAt C [true, true, true, true, true, true, false, true])) (by kernel_rfl) (B6.ok R) (den_enter [(0, .string s0), (4, .slice a4 l4 c4), (5, .int .u64 x5), (6, .int .u64 x6)] ⟨e0, e4, e5, e6, trivial⟩ (by kernel_rfl) g)
theorem W7.ok (R : Rt) (fr : Fr) (h : Hp) (g : D3.g R fr h) : den prog E (cAt C [true, true, true, true, true, true]) (retQ E [.tmp 2, .tmp 3] R) fr h :=
  den_then (by kernel_rfl) (D2.ok R) (D3.ok R fr h g)
def D1.t (R : Rt) (s0 : ByteArray) (h : Hp) : Prop :=
  cond (decide ((((s0.size : Nat) : Int)) > 4900)) (R (.tuple #[.slice none 0 0, .int .i64 7]) h) (cond (s0.toList == (⟨#[]⟩ : ByteArray).toList) (R (.tuple #[.slice none 0 0, .int .i64 8]) h) (D3.t R s0 none 0 0 0 1 h))
def D1.g (R : Rt) (fr : Fr) (h : Hp) : Prop := gStr (fr 0) fun s0 => D1.t R s0 h
theorem D1.ok (R : Rt) (fr : Fr) (h : Hp) (g : D1.g R fr h) : den prog E C (retQ E [.tmp 2, .tmp 3] R) fr h := by
  obtain ⟨s0, e0, g⟩ := gStr_elim g
  exact den_cut 6 (r := (cAt C [true, true, true, true, true, true])) (by kernel_rfl) (W7.ok R) (den_enter [(0, .string s0)] ⟨e0, trivial⟩ (by kernel_rfl) g)
def t (s0 : ByteArray) (h : Hp) (R : Rt) : Prop := D1.t R s0 h
theorem ok {s0 : ByteArray} {h : Hp} {R : Rt} (g : t s0 h R) : HC id #[.string s0] h R :=
  calls_of_den' envOk (c := C) (rs := [.tmp 2, .tmp 3]) Try.func13 (by kernel_rfl) (by kernel_rfl) (by kernel_rfl) (args := [.string s0]) (by kernel_rfl) (D1.ok R _ h (gStr_intro rfl (g)))
end natdiv_Read

namespace gnomonref01_Same
noncomputable def C : Code := bodyOf Try.f14
def D2.t (R : Rt)  (h : Hp) : Prop :=
  R (.bool true) h
def D2.g (R : Rt) (fr : Fr) (h : Hp) : Prop := D2.t R  h
theorem D2.ok (R : Rt) (fr : Fr) (h : Hp) (g : D2.g R fr h) : den prog E (cAt C [true, true, true]) (retQ E [.tmp 4] R) fr h := by
  exact den_enter [] trivial (by kernel_rfl) g
def L4.g (N : Option Addr → Nat → Nat → Option Addr → Nat → Nat → Int → Hp → Prop) (fr : Fr) (h : Hp) : Prop := gSlice (fr 0) fun a0 l0 c0 => gSlice (fr 1) fun a1 l1 c1 => gInt .i64 (fr 5) fun x5 => N a0 l0 c0 a1 l1 c1 x5 h
def D5.t (R : Rt) (N4 : Option Addr → Nat → Nat → Option Addr → Nat → Nat → Int → Hp → Prop) (a0 : Option Addr) (l0 : Nat) (c0 : Nat) (a1 : Option Addr) (l1 : Nat) (c1 : Nat) (x5 : Int) (h : Hp) : Prop :=
  cond (decide (x5 < (((l0 : Nat) : Int)))) (idxK a0 l0 x5 1 fun q1 =>
  ldK h q1 fun v2 =>
  gInt .u64 v2 fun x_3 =>
  idxK a1 l1 x5 1 fun q4 =>
  ldK h q4 fun v5 =>
  gInt .u64 v5 fun x_6 =>
  cond (x_3 != x_6) (R (.bool false) h) (letK (IntKind.i64.wrap (x5 + 1)) fun n7 =>
  N4 a0 l0 c0 a1 l1 c1 n7 h)) (D2.t R h)
def D5.g (R : Rt) (N4 : Option Addr → Nat → Nat → Option Addr → Nat → Nat → Int → Hp → Prop) (fr : Fr) (h : Hp) : Prop := gSlice (fr 0) fun a0 l0 c0 => gSlice (fr 1) fun a1 l1 c1 => gInt .i64 (fr 5) fun x5 => D5.t R N4 a0 l0 c0 a1 l1 c1 x5 h
theorem D5.ok (R : Rt) (N4 : Option Addr → Nat → Nat → Option Addr → Nat → Nat → Int → Hp → Prop) (fr : Fr) (h : Hp) (g : D5.g R N4 fr h) : den prog E (cAt C [true, true, false, true, false, false]) (Ex.then (L4.g N4) (Ex.inBlock 0 (Ex.then (D2.g R) (retQ E [.tmp 4] R)))) fr h := by
  obtain ⟨a0, l0, c0, e0, g⟩ := gSlice_elim g
  obtain ⟨a1, l1, c1, e1, g⟩ := gSlice_elim g
  obtain ⟨x5, e5, g⟩ := gInt_elim g
  exact den_enter [(0, .slice a0 l0 c0), (1, .slice a1 l1 c1), (5, .int .i64 x5)] ⟨e0, e1, e5, trivial⟩ (by kernel_rfl) g
def L4.t (R : Rt) : Nat → Option Addr → Nat → Nat → Option Addr → Nat → Nat → Int → Hp → Prop
  | 0 => fun _ _ _ _ _ _ _ _ => False
  | n + 1 => fun a0 l0 c0 a1 l1 c1 x5 h => D5.t R (L4.t R n) a0 l0 c0 a1 l1 c1 x5 h
theorem L4.ok (R : Rt) (fr : Fr) (h : Hp) (g : L4.g (fun a0 l0 c0 a1 l1 c1 x5 h => ∃ n, L4.t R n a0 l0 c0 a1 l1 c1 x5 h) fr h) : den prog E (cAt C [true, true, false, true, false]) (Ex.inBlock 0 (Ex.then (D2.g R) (retQ E [.tmp 4] R))) fr h := by
  obtain ⟨a0, l0, c0, e0, g⟩ := gSlice_elim g
  obtain ⟨a1, l1, c1, e1, g⟩ := gSlice_elim g
  obtain ⟨x5, e5, g⟩ := gInt_elim g
  obtain ⟨n, g⟩ := g
  refine loop_ok (fun n => L4.g (L4.t R n)) (b := (cAt C [true, true, false, true, false, false])) (by kernel_rfl) (fun fr h g => ?_) (fun n => D5.ok R (L4.t R n)) n fr h (gSlice_intro e0 (gSlice_intro e1 (gInt_intro e5 (g))))
  obtain ⟨a0, l0, c0, e0, g⟩ := gSlice_elim g
  obtain ⟨a1, l1, c1, e1, g⟩ := gSlice_elim g
  obtain ⟨x5, e5, g⟩ := gInt_elim g
  exact g
theorem B6.ok (R : Rt) (fr : Fr) (h : Hp) (g : L4.g (fun a0 l0 c0 a1 l1 c1 x5 h => ∃ n, L4.t R n a0 l0 c0 a1 l1 c1 x5 h) fr h) : den prog E (cAt C [true, true, false, true]) (Ex.then (D2.g R) (retQ E [.tmp 4] R)) fr h :=
  den_block (by kernel_rfl) (L4.ok R fr h g)
def D3.t (R : Rt) (a0 : Option Addr) (l0 : Nat) (c0 : Nat) (a1 : Option Addr) (l1 : Nat) (c1 : Nat) (h : Hp) : Prop :=
  (∃ n, L4.t R n a0 l0 c0 a1 l1 c1 0 h)
def D3.g (R : Rt) (fr : Fr) (h : Hp) : Prop := gSlice (fr 0) fun a0 l0 c0 => gSlice (fr 1) fun a1 l1 c1 => D3.t R a0 l0 c0 a1 l1 c1 h
theorem D3.ok (R : Rt) (fr : Fr) (h : Hp) (g : D3.g R fr h) : den prog E (cAt C [true, true, false]) (Ex.then (D2.g R) (retQ E [.tmp 4] R)) fr h := by
  obtain ⟨a0, l0, c0, e0, g⟩ := gSlice_elim g
  obtain ⟨a1, l1, c1, e1, g⟩ := gSlice_elim g
  exact den_cut 1 (r := (cAt C [true, true, false, true])) (by kernel_rfl) (B6.ok R) (den_enter [(0, .slice a0 l0 c0), (1, .slice a1 l1 c1)] ⟨e0, e1, trivial⟩ (by kernel_rfl) g)
theorem W7.ok (R : Rt) (fr : Fr) (h : Hp) (g : D3.g R fr h) : den prog E (cAt C [true, true]) (retQ E [.tmp 4] R) fr h :=
  den_then (by kernel_rfl) (D2.ok R) (D3.ok R fr h g)
def D1.t (R : Rt) (a0 : Option Addr) (l0 : Nat) (c0 : Nat) (a1 : Option Addr) (l1 : Nat) (c1 : Nat) (h : Hp) : Prop :=
  cond ((((l0 : Nat) : Int)) != (((l1 : Nat) : Int))) (R (.bool false) h) (D3.t R a0 l0 c0 a1 l1 c1 h)
def D1.g (R : Rt) (fr : Fr) (h : Hp) : Prop := gSlice (fr 0) fun a0 l0 c0 => gSlice (fr 1) fun a1 l1 c1 => D1.t R a0 l0 c0 a1 l1 c1 h
theorem D1.ok (R : Rt) (fr : Fr) (h : Hp) (g : D1.g R fr h) : den prog E C (retQ E [.tmp 4] R) fr h := by
  obtain ⟨a0, l0, c0, e0, g⟩ := gSlice_elim g
  obtain ⟨a1, l1, c1, e1, g⟩ := gSlice_elim g
  exact den_cut 2 (r := (cAt C [true, true])) (by kernel_rfl) (W7.ok R) (den_enter [(0, .slice a0 l0 c0), (1, .slice a1 l1 c1)] ⟨e0, e1, trivial⟩ (by kernel_rfl) g)
def t (a0 : Option Addr) (l0 : Nat) (c0 : Nat) (a1 : Option Addr) (l1 : Nat) (c1 : Nat) (h : Hp) (R : Rt) : Prop := D1.t R a0 l0 c0 a1 l1 c1 h
theorem ok {a0 : Option Addr} {l0 : Nat} {c0 : Nat} {a1 : Option Addr} {l1 : Nat} {c1 : Nat} {h : Hp} {R : Rt} (g : t a0 l0 c0 a1 l1 c1 h R) : HC id #[.slice a0 l0 c0, .slice a1 l1 c1] h R :=
  calls_of_den' envOk (c := C) (rs := [.tmp 4]) Try.func14 (by kernel_rfl) (by kernel_rfl) (by kernel_rfl) (args := [.slice a0 l0 c0, .slice a1 l1 c1]) (by kernel_rfl) (D1.ok R _ h (gSlice_intro rfl (gSlice_intro rfl (g))))
end gnomonref01_Same

namespace gnomonlaw03_read
noncomputable def C : Code := bodyOf Try.f15
def D1.t (R : Rt) (s0 : ByteArray) (h : Hp) : Prop :=
  HC natdiv_Read.id #[.string s0] h fun v1 h2 =>
  gTup v1 fun y3 =>
  uncons y3 fun v4 y4 =>
  gSlice v4 fun a_5 l_5 c_5 =>
  uncons y4 fun v6 y6 =>
  gInt .i64 v6 fun x_7 =>
  unnil y6 <| HC gnomonref03_DocRead.id #[.string s0] h2 fun v8 h9 =>
  gTup v8 fun y10 =>
  uncons y10 fun v11 y11 =>
  gSlice v11 fun a_12 l_12 c_12 =>
  uncons y11 fun v13 y13 =>
  gInt .i64 v13 fun x_14 =>
  unnil y13 <| cond (x_7 == x_14) (HQC gnomonref01_Same.id #[.slice a_5 l_5 c_5, .slice a_12 l_12 c_12] h9 fun v15 =>
  gBool v15 fun b_16 =>
  R (.bool b_16) h9) (R (.bool false) h9)
def D1.g (R : Rt) (fr : Fr) (h : Hp) : Prop := gStr (fr 0) fun s0 => D1.t R s0 h
theorem D1.ok (R : Rt) (fr : Fr) (h : Hp) (g : D1.g R fr h) : den prog E C (retQ E [.tmp 2] R) fr h := by
  obtain ⟨s0, e0, g⟩ := gStr_elim g
  exact den_enter [(0, .string s0)] ⟨e0, trivial⟩ (by kernel_rfl) g
def t (s0 : ByteArray) (h : Hp) (R : Rt) : Prop := D1.t R s0 h
theorem ok {s0 : ByteArray} {h : Hp} {R : Rt} (g : t s0 h R) : HC id #[.string s0] h R :=
  calls_of_den' envOk (c := C) (rs := [.tmp 2]) Try.func15 (by kernel_rfl) (by kernel_rfl) (by kernel_rfl) (args := [.string s0]) (by kernel_rfl) (D1.ok R _ h (gStr_intro rfl (g)))
end gnomonlaw03_read



















end Go.Proofs.Ytdpkfipkjdlmlaa.G
