/- Texts of this work, joined: Fp0. -/
import Derived.Test.YtdpkfipkjdlmlaaKE
/- Functions of the translation as predicates over heaps, and that their calls do so. Written by a program of this work. -/
namespace Go.Proofs.Ytdpkfipkjdlmlaa.G
open Go.Gv
set_option linter.unusedVariables false
set_option maxRecDepth 100000


namespace gnomonlaw03_NatdivReadsBack
noncomputable def C : Code := bodyOf Try.f5
def D3.t (R : Rt) (s1 : ByteArray) (h : Hp) : Prop :=
  HC natdiv_Read.id #[.string s1] h fun v40 h41 =>
  gTup v40 fun y42 =>
  uncons y42 fun v43 y43 =>
  gSlice v43 fun a_44 l_44 c_44 =>
  uncons y43 fun v45 y45 =>
  gInt .i64 v45 fun x_46 =>
  unnil y45 <| cond (x_46 != 0) (R (.bool true) h41) (HC natdiv_Text.id #[.slice a_44 l_44 c_44] h41 fun v47 h48 =>
  gTup v47 fun y49 =>
  uncons y49 fun v50 y50 =>
  gStr v50 fun s_51 =>
  uncons y50 fun v52 y52 =>
  gInt .i64 v52 fun x_53 =>
  unnil y52 <| cond (x_53 == 0) (HC gnomonlaw03_stripped.id #[.string s1] h48 fun v54 h55 =>
  gStr v54 fun s_56 =>
  R (.bool (s_51.toList == s_56.toList)) h55) (R (.bool false) h48))
def D3.g (R : Rt) (fr : Fr) (h : Hp) : Prop := gStr (fr 1) fun s1 => D3.t R s1 h
theorem D3.ok (R : Rt) (fr : Fr) (h : Hp) (g : D3.g R fr h) : den prog E (cAt C [true, true, true, true, true, true]) (retQ E [.tmp 4] R) fr h := by
  obtain ⟨s1, e1, g⟩ := gStr_elim g
  exact den_enter [(1, .string s1)] ⟨e1, trivial⟩ (by kernel_rfl) g
def D2.t (R : Rt) (a0 : Option Addr) (l0 : Nat) (c0 : Nat) (s1 : ByteArray) (h : Hp) : Prop :=
  HC gnomonlaw03_twin.id #[.slice a0 l0 c0] h fun v21 h22 =>
  gSlice v21 fun a_23 l_23 c_23 =>
  HC natdiv_Text.id #[.slice a_23 l_23 c_23] h22 fun v24 h25 =>
  gTup v24 fun y26 =>
  uncons y26 fun v27 y27 =>
  gStr v27 fun s_28 =>
  uncons y27 fun v29 y29 =>
  gInt .i64 v29 fun x_30 =>
  unnil y29 <| cond (x_30 == 0) (HC natdiv_Read.id #[.string s_28] h25 fun v31 h32 =>
  gTup v31 fun y33 =>
  uncons y33 fun v34 y34 =>
  gSlice v34 fun a_35 l_35 c_35 =>
  uncons y34 fun v36 y36 =>
  gInt .i64 v36 fun x_37 =>
  unnil y36 <| cond (x_37 != 0) (R (.bool false) h32) (HQC gnomonref01_Same.id #[.slice a_35 l_35 c_35, .slice a0 l0 c0] h32 fun v38 =>
  gBool v38 fun b_39 =>
  cond (!b_39) (R (.bool false) h32) (D3.t R s1 h32))) (D3.t R s1 h25)
def D2.g (R : Rt) (fr : Fr) (h : Hp) : Prop := gSlice (fr 0) fun a0 l0 c0 => gStr (fr 1) fun s1 => D2.t R a0 l0 c0 s1 h
theorem D2.ok (R : Rt) (fr : Fr) (h : Hp) (g : D2.g R fr h) : den prog E (cAt C [true, true, true, true]) (retQ E [.tmp 4] R) fr h := by
  obtain ⟨a0, l0, c0, e0, g⟩ := gSlice_elim g
  obtain ⟨s1, e1, g⟩ := gStr_elim g
  exact den_cut 2 (r := (cAt C [true, true, true, true, true, true])) (by kernel_rfl) (D3.ok R) (den_enter [(0, .slice a0 l0 c0), (1, .string s1)] ⟨e0, e1, trivial⟩ (by kernel_rfl) g)
def D1.t (R : Rt) (a0 : Option Addr) (l0 : Nat) (c0 : Nat) (s1 : ByteArray) (h : Hp) : Prop :=
  boxK h 27 [.int .u64 40] fun q1 h2 =>
  HC natdiv_Text.id #[.slice (some q1) 1 1] h2 fun v3 h4 =>
  gTup v3 fun y5 =>
  uncons y5 fun v6 y6 =>
  gStr v6 fun s_7 =>
  uncons y6 fun v8 y8 =>
  gInt .i64 v8 fun x_9 =>
  unnil y8 <| HC natdiv_Read.id #[.string (⟨#[48, 48, 52, 48]⟩ : ByteArray)] h4 fun v10 h11 =>
  gTup v10 fun y12 =>
  uncons y12 fun v13 y13 =>
  gSlice v13 fun a_14 l_14 c_14 =>
  uncons y13 fun v15 y15 =>
  gInt .i64 v15 fun x_16 =>
  unnil y15 <| cond (x_9 != 0) (R (.bool false) h11) (cond (x_16 != 0) (R (.bool false) h11) (cond (!(s_7.toList == (⟨#[52, 48]⟩ : ByteArray).toList)) (R (.bool false) h11) (boxK h11 27 [.int .u64 40] fun q17 h18 =>
  HQC gnomonref01_Same.id #[.slice a_14 l_14 c_14, .slice (some q17) 1 1] h18 fun v19 =>
  gBool v19 fun b_20 =>
  cond (!b_20) (R (.bool false) h18) (D2.t R a0 l0 c0 s1 h18))))
def D1.g (R : Rt) (fr : Fr) (h : Hp) : Prop := gSlice (fr 0) fun a0 l0 c0 => gStr (fr 1) fun s1 => D1.t R a0 l0 c0 s1 h
theorem D1.ok (R : Rt) (fr : Fr) (h : Hp) (g : D1.g R fr h) : den prog E C (retQ E [.tmp 4] R) fr h := by
  obtain ⟨a0, l0, c0, e0, g⟩ := gSlice_elim g
  obtain ⟨s1, e1, g⟩ := gStr_elim g
  exact den_cut 4 (r := (cAt C [true, true, true, true])) (by kernel_rfl) (D2.ok R) (den_enter [(0, .slice a0 l0 c0), (1, .string s1)] ⟨e0, e1, trivial⟩ (by kernel_rfl) g)
def t (a0 : Option Addr) (l0 : Nat) (c0 : Nat) (s1 : ByteArray) (h : Hp) (R : Rt) : Prop := D1.t R a0 l0 c0 s1 h
theorem ok {a0 : Option Addr} {l0 : Nat} {c0 : Nat} {s1 : ByteArray} {h : Hp} {R : Rt} (g : t a0 l0 c0 s1 h R) : HC id #[.slice a0 l0 c0, .string s1] h R :=
  calls_of_den' envOk (c := C) (rs := [.tmp 4]) Try.func5 (by kernel_rfl) (by kernel_rfl) (by kernel_rfl) (args := [.slice a0 l0 c0, .string s1]) (by kernel_rfl) (D1.ok R _ h (gSlice_intro rfl (gStr_intro rfl (g))))
end gnomonlaw03_NatdivReadsBack





namespace natdiv_Read
noncomputable def C : Code := bodyOf Try.f13
def D2.t (R : Rt) (a4 : Option Addr) (l4 : Nat) (c4 : Nat) (h : Hp) : Prop :=
  R (.tuple #[.slice a4 l4 c4, .int .i64 0]) h
def D2.g (R : Rt) (fr : Fr) (h : Hp) : Prop := gSlice (fr 4) fun a4 l4 c4 => D2.t R a4 l4 c4 h
theorem D2.ok (R : Rt) (fr : Fr) (h : Hp) (g : D2.g R fr h) : den prog E (cAt C [true, true, true, true, true, true, true]) (retQ E [.tmp 2, .tmp 3] R) fr h := by
  obtain ⟨a4, l4, c4, e4, g⟩ := gSlice_elim g
  exact den_enter [(4, .slice a4 l4 c4)] ⟨e4, trivial⟩ (by kernel_rfl) g
def L4.g (N : ByteArray → Option Addr → Nat → Nat → Int → Int → Addr → Hp → Prop) (fr : Fr) (h : Hp) : Prop := gStr (fr 0) fun s0 => gSlice (fr 4) fun a4 l4 c4 => gInt .u64 (fr 5) fun x5 => gInt .u64 (fr 6) fun x6 => gPtrS (fr 15) fun q15 => N s0 a4 l4 c4 x5 x6 q15 h
def D5.t (R : Rt) (N4 : ByteArray → Option Addr → Nat → Nat → Int → Int → Addr → Hp → Prop) (s0 : ByteArray) (a4 : Option Addr) (l4 : Nat) (c4 : Nat) (x5 : Int) (x6 : Int) (q15 : Addr) (h : Hp) : Prop :=
  nxK h q15 (fun n3 m3 h4 =>
  cond (decide (m3 < 48)) (R (.tuple #[.slice none 0 0, .int .i64 8]) h4) (cond (decide (m3 > 57)) (R (.tuple #[.slice none 0 0, .int .i64 8]) h4) (letK (IntKind.u64.wrap (x5 * 10)) fun n5 =>
  letK (IntKind.i32.wrap (m3 - 48)) fun n6 =>
  letK (IntKind.u64.wrap n6) fun n7 =>
  letK (IntKind.u64.wrap (n5 + n7)) fun n8 =>
  letK (IntKind.u64.wrap (x6 * 10)) fun n9 =>
  cond (n9 == 10000000000000000000) (HC nat_MulWord.id #[.slice a4 l4 c4, .int .u64 n9] h4 fun v10 h11 =>
  gTup v10 fun y12 =>
  uncons y12 fun v13 y13 =>
  gSlice v13 fun a_14 l_14 c_14 =>
  uncons y13 fun v15 y15 =>
  gInt .i64 v15 fun x_16 =>
  unnil y15 <| HC nat_Word.id #[.int .u64 n8] h11 fun v17 h18 =>
  gSlice v17 fun a_19 l_19 c_19 =>
  HC nat_Add.id #[.slice a_14 l_14 c_14, .slice a_19 l_19 c_19] h18 fun v20 h21 =>
  gTup v20 fun y22 =>
  uncons y22 fun v23 y23 =>
  gSlice v23 fun a_24 l_24 c_24 =>
  uncons y23 fun v25 y25 =>
  gInt .i64 v25 fun x_26 =>
  unnil y25 <| N4 s0 a_24 l_24 c_24 0 1 q15 h21) (letK (IntKind.i64.wrap ((((s0.size : Nat) : Int)) - 1)) fun n27 =>
  cond (n3 == n27) (HC nat_MulWord.id #[.slice a4 l4 c4, .int .u64 n9] h4 fun v28 h29 =>
  gTup v28 fun y30 =>
  uncons y30 fun v31 y31 =>
  gSlice v31 fun a_32 l_32 c_32 =>
  uncons y31 fun v33 y33 =>
  gInt .i64 v33 fun x_34 =>
  unnil y33 <| HC nat_Word.id #[.int .u64 n8] h29 fun v35 h36 =>
  gSlice v35 fun a_37 l_37 c_37 =>
  HC nat_Add.id #[.slice a_32 l_32 c_32, .slice a_37 l_37 c_37] h36 fun v38 h39 =>
  gTup v38 fun y40 =>
  uncons y40 fun v41 y41 =>
  gSlice v41 fun a_42 l_42 c_42 =>
  uncons y41 fun v43 y43 =>
  gInt .i64 v43 fun x_44 =>
  unnil y43 <| N4 s0 a_42 l_42 c_42 0 1 q15 h39) (N4 s0 a4 l4 c4 n8 n9 q15 h4))))) (D2.t R a4 l4 c4 h)
def D5.g (R : Rt) (N4 : ByteArray → Option Addr → Nat → Nat → Int → Int → Addr → Hp → Prop) (fr : Fr) (h : Hp) : Prop := gStr (fr 0) fun s0 => gSlice (fr 4) fun a4 l4 c4 => gInt .u64 (fr 5) fun x5 => gInt .u64 (fr 6) fun x6 => gPtrS (fr 15) fun q15 => D5.t R N4 s0 a4 l4 c4 x5 x6 q15 h
theorem D5.ok (R : Rt) (N4 : ByteArray → Option Addr → Nat → Nat → Int → Int → Addr → Hp → Prop) (fr : Fr) (h : Hp) (g : D5.g R N4 fr h) : den prog E (cAt C [true, true, true, true, true, true, false, true, false, false]) (Ex.then (L4.g N4) (Ex.inBlock 0 (Ex.then (D2.g R) (retQ E [.tmp 2, .tmp 3] R)))) fr h := by
  obtain ⟨s0, e0, g⟩ := gStr_elim g
  obtain ⟨a4, l4, c4, e4, g⟩ := gSlice_elim g
  obtain ⟨x5, e5, g⟩ := gInt_elim g
  obtain ⟨x6, e6, g⟩ := gInt_elim g
  obtain ⟨q15, e15, g⟩ := gPtrS_elim g
  exact den_enter [(0, .string s0), (4, .slice a4 l4 c4), (5, .int .u64 x5), (6, .int .u64 x6), (15, .pointer (some q15))] ⟨e0, e4, e5, e6, e15, trivial⟩ (by kernel_rfl) g
def L4.t (R : Rt) : Nat → ByteArray → Option Addr → Nat → Nat → Int → Int → Addr → Hp → Prop
  | 0 => fun _ _ _ _ _ _ _ _ => False
  | n + 1 => fun s0 a4 l4 c4 x5 x6 q15 h => D5.t R (L4.t R n) s0 a4 l4 c4 x5 x6 q15 h
theorem L4.ok (R : Rt) (fr : Fr) (h : Hp) (g : L4.g (fun s0 a4 l4 c4 x5 x6 q15 h => ∃ n, L4.t R n s0 a4 l4 c4 x5 x6 q15 h) fr h) : den prog E (cAt C [true, true, true, true, true, true, false, true, false]) (Ex.inBlock 0 (Ex.then (D2.g R) (retQ E [.tmp 2, .tmp 3] R))) fr h := by
  obtain ⟨s0, e0, g⟩ := gStr_elim g
  obtain ⟨a4, l4, c4, e4, g⟩ := gSlice_elim g
  obtain ⟨x5, e5, g⟩ := gInt_elim g
  obtain ⟨x6, e6, g⟩ := gInt_elim g
  obtain ⟨q15, e15, g⟩ := gPtrS_elim g
  obtain ⟨n, g⟩ := g
  refine loop_ok (fun n => L4.g (L4.t R n)) (b := (cAt C [true, true, true, true, true, true, false, true, false, false])) (by kernel_rfl) (fun fr h g => ?_) (fun n => D5.ok R (L4.t R n)) n fr h (gStr_intro e0 (gSlice_intro e4 (gInt_intro e5 (gInt_intro e6 (gPtrS_intro e15 (g))))))
  obtain ⟨s0, e0, g⟩ := gStr_elim g
  obtain ⟨a4, l4, c4, e4, g⟩ := gSlice_elim g
  obtain ⟨x5, e5, g⟩ := gInt_elim g
  obtain ⟨x6, e6, g⟩ := gInt_elim g
  obtain ⟨q15, e15, g⟩ := gPtrS_elim g
  exact g
theorem B6.ok (R : Rt) (fr : Fr) (h : Hp) (g : L4.g (fun s0 a4 l4 c4 x5 x6 q15 h => ∃ n, L4.t R n s0 a4 l4 c4 x5 x6 q15 h) fr h) : den prog E (cAt C [true, true, true, true, true, true, false, true]) (Ex.then (D2.g R) (retQ E [.tmp 2, .tmp 3] R)) fr h :=
  den_block (by kernel_rfl) (L4.ok R fr h g)
def D3.t (R : Rt) (s0 : ByteArray) (a4 : Option Addr) (l4 : Nat) (c4 : Nat) (x5 : Int) (x6 : Int) (h : Hp) : Prop :=
  rgK h s0 fun q1 h2 => (∃ n, L4.t R n s0 a4 l4 c4 x5 x6 q1 h2)
def D3.g (R : Rt) (fr : Fr) (h : Hp) : Prop := gStr (fr 0) fun s0 => gSlice (fr 4) fun a4 l4 c4 => gInt .u64 (fr 5) fun x5 => gInt .u64 (fr 6) fun x6 => D3.t R s0 a4 l4 c4 x5 x6 h
theorem D3.ok (R : Rt) (fr : Fr) (h : Hp) (g : D3.g R fr h) : den prog E (cAt C [true, true, true, true, true, true, false]) (Ex.then (D2.g R) (retQ E [.tmp 2, .tmp 3] R)) fr h := by
  obtain ⟨s0, e0, g⟩ := gStr_elim g
  obtain ⟨a4, l4, c4, e4, g⟩ := gSlice_elim g
  obtain ⟨x5, e5, g⟩ := gInt_elim g
  obtain ⟨x6, e6, g⟩ := gInt_elim g
  exact den_cut 1 (r := (cAt C [true, true, true, true, true, true, false, true])) (by kernel_rfl) (B6.ok R) (den_enter [(0, .string s0), (4, .slice a4 l4 c4), (5, .int .u64 x5), (6, .int .u64 x6)] ⟨e0, e4, e5, e6, trivial⟩ (by kernel_rfl) g)
theorem W7.ok (R : Rt) (fr : Fr) (h : Hp) (g : D3.g R fr h) : den prog E (cAt C [true, true, true, true, true, true]) (retQ E [.tmp 2, .tmp 3] R) fr h :=
  den_then (by kernel_rfl) (D2.ok R) (D3.ok R fr h g)
def D1.t (R : Rt) (s0 : ByteArray) (h : Hp) : Prop :=
  cond (decide ((((s0.size : Nat) : Int)) > 4900)) (R (.tuple #[.slice none 0 0, .int .i64 7]) h) (cond (s0.toList == (⟨#[]⟩ : ByteArray).toList) (R (.tuple #[.slice none 0 0, .int .i64 8]) h) (D3.t R s0 none 0 0 0 1 h))
def D1.g (R : Rt) (fr : Fr) (h : Hp) : Prop := gStr (fr 0) fun s0 => D1.t R s0 h
theorem D1.ok (R : Rt) (fr : Fr) (h : Hp) (g : D1.g R fr h) : den prog E C (retQ E [.tmp 2, .tmp 3] R) fr h := by
  obtain ⟨s0, e0, g⟩ := gStr_elim g
  exact den_cut 6 (r := (cAt C [true, true, true, true, true, true])) (by kernel_rfl) (W7.ok R) (den_enter [(0, .string s0)] ⟨e0, trivial⟩ (by kernel_rfl) g)
def t (s0 : ByteArray) (h : Hp) (R : Rt) : Prop := D1.t R s0 h
theorem ok {s0 : ByteArray} {h : Hp} {R : Rt} (g : t s0 h R) : HC id #[.string s0] h R :=
  calls_of_den' envOk (c := C) (rs := [.tmp 2, .tmp 3]) Try.func13 (by kernel_rfl) (by kernel_rfl) (by kernel_rfl) (args := [.string s0]) (by kernel_rfl) (D1.ok R _ h (gStr_intro rfl (g)))
end natdiv_Read

namespace gnomonref01_Same
noncomputable def C : Code := bodyOf Try.f14
def D2.t (R : Rt)  (h : Hp) : Prop :=
  R (.bool true) h
def D2.g (R : Rt) (fr : Fr) (h : Hp) : Prop := D2.t R  h
theorem D2.ok (R : Rt) (fr : Fr) (h : Hp) (g : D2.g R fr h) : den prog E (cAt C [true, true, true]) (retQ E [.tmp 4] R) fr h := by
  exact den_enter [] trivial (by kernel_rfl) g
def L4.g (N : Option Addr → Nat → Nat → Option Addr → Nat → Nat → Int → Hp → Prop) (fr : Fr) (h : Hp) : Prop := gSlice (fr 0) fun a0 l0 c0 => gSlice (fr 1) fun a1 l1 c1 => gInt .i64 (fr 5) fun x5 => N a0 l0 c0 a1 l1 c1 x5 h
def D5.t (R : Rt) (N4 : Option Addr → Nat → Nat → Option Addr → Nat → Nat → Int → Hp → Prop) (a0 : Option Addr) (l0 : Nat) (c0 : Nat) (a1 : Option Addr) (l1 : Nat) (c1 : Nat) (x5 : Int) (h : Hp) : Prop :=
  cond (decide (x5 < (((l0 : Nat) : Int)))) (idxK a0 l0 x5 1 fun q1 =>
  ldK h q1 fun v2 =>
  gInt .u64 v2 fun x_3 =>
  idxK a1 l1 x5 1 fun q4 =>
  ldK h q4 fun v5 =>
  gInt .u64 v5 fun x_6 =>
  cond (x_3 != x_6) (R (.bool false) h) (letK (IntKind.i64.wrap (x5 + 1)) fun n7 =>
  N4 a0 l0 c0 a1 l1 c1 n7 h)) (D2.t R h)
def D5.g (R : Rt) (N4 : Option Addr → Nat → Nat → Option Addr → Nat → Nat → Int → Hp → Prop) (fr : Fr) (h : Hp) : Prop := gSlice (fr 0) fun a0 l0 c0 => gSlice (fr 1) fun a1 l1 c1 => gInt .i64 (fr 5) fun x5 => D5.t R N4 a0 l0 c0 a1 l1 c1 x5 h
theorem D5.ok (R : Rt) (N4 : Option Addr → Nat → Nat → Option Addr → Nat → Nat → Int → Hp → Prop) (fr : Fr) (h : Hp) (g : D5.g R N4 fr h) : den prog E (cAt C [true, true, false, true, false, false]) (Ex.then (L4.g N4) (Ex.inBlock 0 (Ex.then (D2.g R) (retQ E [.tmp 4] R)))) fr h := by
  obtain ⟨a0, l0, c0, e0, g⟩ := gSlice_elim g
  obtain ⟨a1, l1, c1, e1, g⟩ := gSlice_elim g
  obtain ⟨x5, e5, g⟩ := gInt_elim g
  exact den_enter [(0, .slice a0 l0 c0), (1, .slice a1 l1 c1), (5, .int .i64 x5)] ⟨e0, e1, e5, trivial⟩ (by kernel_rfl) g
def L4.t (R : Rt) : Nat → Option Addr → Nat → Nat → Option Addr → Nat → Nat → Int → Hp → Prop
  | 0 => fun _ _ _ _ _ _ _ _ => False
  | n + 1 => fun a0 l0 c0 a1 l1 c1 x5 h => D5.t R (L4.t R n) a0 l0 c0 a1 l1 c1 x5 h
theorem L4.ok (R : Rt) (fr : Fr) (h : Hp) (g : L4.g (fun a0 l0 c0 a1 l1 c1 x5 h => ∃ n, L4.t R n a0 l0 c0 a1 l1 c1 x5 h) fr h) : den prog E (cAt C [true, true, false, true, false]) (Ex.inBlock 0 (Ex.then (D2.g R) (retQ E [.tmp 4] R))) fr h := by
  obtain ⟨a0, l0, c0, e0, g⟩ := gSlice_elim g
  obtain ⟨a1, l1, c1, e1, g⟩ := gSlice_elim g
  obtain ⟨x5, e5, g⟩ := gInt_elim g
  obtain ⟨n, g⟩ := g
  refine loop_ok (fun n => L4.g (L4.t R n)) (b := (cAt C [true, true, false, true, false, false])) (by kernel_rfl) (fun fr h g => ?_) (fun n => D5.ok R (L4.t R n)) n fr h (gSlice_intro e0 (gSlice_intro e1 (gInt_intro e5 (g))))
  obtain ⟨a0, l0, c0, e0, g⟩ := gSlice_elim g
  obtain ⟨a1, l1, c1, e1, g⟩ := gSlice_elim g
  obtain ⟨x5, e5, g⟩ := gInt_elim g
  exact g
theorem B6.ok (R : Rt) (fr : Fr) (h : Hp) (g : L4.g (fun a0 l0 c0 a1 l1 c1 x5 h => ∃ n, L4.t R n a0 l0 c0 a1 l1 c1 x5 h) fr h) : den prog E (cAt C [true, true, false, true]) (Ex.then (D2.g R) (retQ E [.tmp 4] R)) fr h :=
  den_block (by kernel_rfl) (L4.ok R fr h g)
def D3.t (R : Rt) (a0 : Option Addr) (l0 : Nat) (c0 : Nat) (a1 : Option Addr) (l1 : Nat) (c1 : Nat) (h : Hp) : Prop :=
  (∃ n, L4.t R n a0 l0 c0 a1 l1 c1 0 h)
def D3.g (R : Rt) (fr : Fr) (h : Hp) : Prop := gSlice (fr 0) fun a0 l0 c0 => gSlice (fr 1) fun a1 l1 c1 => D3.t R a0 l0 c0 a1 l1 c1 h
theorem D3.ok (R : Rt) (fr : Fr) (h : Hp) (g : D3.g R fr h) : den prog E (cAt C [true, true, false]) (Ex.then (D2.g R) (retQ E [.tmp 4] R)) fr h := by
  obtain ⟨a0, l0, c0, e0, g⟩ := gSlice_elim g
  obtain ⟨a1, l1, c1, e1, g⟩ := gSlice_elim g
  exact den_cut 1 (r := (cAt C [true, true, false, true])) (by kernel_rfl) (B6.ok R) (den_enter [(0, .slice a0 l0 c0), (1, .slice a1 l1 c1)] ⟨e0, e1, trivial⟩ (by kernel_rfl) g)
theorem W7.ok (R : Rt) (fr : Fr) (h : Hp) (g : D3.g R fr h) : den prog E (cAt C [true, true]) (retQ E [.tmp 4] R) fr h :=
  den_then (by kernel_rfl) (D2.ok R) (D3.ok R fr h g)
def D1.t (R : Rt) (a0 : Option Addr) (l0 : Nat) (c0 : Nat) (a1 : Option Addr) (l1 : Nat) (c1 : Nat) (h : Hp) : Prop :=
  cond ((((l0 : Nat) : Int)) != (((l1 : Nat) : Int))) (R (.bool false) h) (D3.t R a0 l0 c0 a1 l1 c1 h)
def D1.g (R : Rt) (fr : Fr) (h : Hp) : Prop := gSlice (fr 0) fun a0 l0 c0 => gSlice (fr 1) fun a1 l1 c1 => D1.t R a0 l0 c0 a1 l1 c1 h
theorem D1.ok (R : Rt) (fr : Fr) (h : Hp) (g : D1.g R fr h) : den prog E C (retQ E [.tmp 4] R) fr h := by
  obtain ⟨a0, l0, c0, e0, g⟩ := gSlice_elim g
  obtain ⟨a1, l1, c1, e1, g⟩ := gSlice_elim g
  exact den_cut 2 (r := (cAt C [true, true])) (by kernel_rfl) (W7.ok R) (den_enter [(0, .slice a0 l0 c0), (1, .slice a1 l1 c1)] ⟨e0, e1, trivial⟩ (by kernel_rfl) g)
def t (a0 : Option Addr) (l0 : Nat) (c0 : Nat) (a1 : Option Addr) (l1 : Nat) (c1 : Nat) (h : Hp) (R : Rt) : Prop := D1.t R a0 l0 c0 a1 l1 c1 h
theorem ok {a0 : Option Addr} {l0 : Nat} {c0 : Nat} {a1 : Option Addr} {l1 : Nat} {c1 : Nat} {h : Hp} {R : Rt} (g : t a0 l0 c0 a1 l1 c1 h R) : HC id #[.slice a0 l0 c0, .slice a1 l1 c1] h R :=
  calls_of_den' envOk (c := C) (rs := [.tmp 4]) Try.func14 (by kernel_rfl) (by kernel_rfl) (by kernel_rfl) (args := [.slice a0 l0 c0, .slice a1 l1 c1]) (by kernel_rfl) (D1.ok R _ h (gSlice_intro rfl (gSlice_intro rfl (g))))
end gnomonref01_Same


namespace natdiv_Text
noncomputable def C : Code := bodyOf Try.f16
def D3.t (R : Rt) (q8 : Addr) (h : Hp) : Prop :=
  HC strings_Builder_Len.id #[.pointer (some q8)] h fun v9 h10 =>
  gInt .i64 v9 fun x_11 =>
  cond (x_11 == 0) (R (.tuple #[.string (⟨#[48]⟩ : ByteArray), .int .i64 0]) h10) (HC strings_Builder_Len.id #[.pointer (some q8)] h10 fun v12 h13 =>
  gInt .i64 v12 fun x_14 =>
  cond (decide (x_14 > 4900)) (R (.tuple #[.string (⟨#[]⟩ : ByteArray), .int .i64 5]) h13) (HC strings_Builder_String.id #[.pointer (some q8)] h13 fun v15 h16 =>
  gStr v15 fun s_17 =>
  R (.tuple #[.string s_17, .int .i64 0]) h16))
def D3.g (R : Rt) (fr : Fr) (h : Hp) : Prop := gPtrS (fr 8) fun q8 => D3.t R q8 h
theorem D3.ok (R : Rt) (fr : Fr) (h : Hp) (g : D3.g R fr h) : den prog E (cAt C [true, true, true, true, true, true, true]) (retQ E [.tmp 2, .tmp 3] R) fr h := by
  obtain ⟨q8, e8, g⟩ := gPtrS_elim g
  exact den_enter [(8, .pointer (some q8))] ⟨e8, trivial⟩ (by kernel_rfl) g
def L5.g (N : Option Addr → Nat → Nat → Addr → Int → Int → Hp → Prop) (fr : Fr) (h : Hp) : Prop := gSlice (fr 4) fun a4 l4 c4 => gPtrS (fr 8) fun q8 => gInt .i64 (fr 40) fun x40 => gInt .i64 (fr 41) fun x41 => N a4 l4 c4 q8 x40 x41 h
def D6.t (R : Rt) (N5 : Option Addr → Nat → Nat → Addr → Int → Int → Hp → Prop) (a4 : Option Addr) (l4 : Nat) (c4 : Nat) (q8 : Addr) (x40 : Int) (x41 : Int) (h : Hp) : Prop :=
  cond (decide (x41 < x40)) (letK (IntKind.i64.wrap ((((l4 : Nat) : Int)) - 1)) fun n18 =>
  letK (IntKind.i64.wrap (n18 - x41)) fun n19 =>
  idxK a4 l4 n19 1 fun q20 =>
  ldK h q20 fun v21 =>
  gInt .u8 v21 fun x_22 =>
  cond (x_22 != 48) (HC strings_Builder_WriteByte.id #[.pointer (some q8), .int .u8 x_22] h fun v23 h24 =>
  letK (IntKind.i64.wrap (x41 + 1)) fun n25 =>
  N5 a4 l4 c4 q8 x40 n25 h24) (HC strings_Builder_Len.id #[.pointer (some q8)] h fun v26 h27 =>
  gInt .i64 v26 fun x_28 =>
  cond (decide (x_28 > 0)) (HC strings_Builder_WriteByte.id #[.pointer (some q8), .int .u8 x_22] h27 fun v29 h30 =>
  letK (IntKind.i64.wrap (x41 + 1)) fun n31 =>
  N5 a4 l4 c4 q8 x40 n31 h30) (letK (IntKind.i64.wrap (x41 + 1)) fun n32 =>
  N5 a4 l4 c4 q8 x40 n32 h27))) (D3.t R q8 h)
def D6.g (R : Rt) (N5 : Option Addr → Nat → Nat → Addr → Int → Int → Hp → Prop) (fr : Fr) (h : Hp) : Prop := gSlice (fr 4) fun a4 l4 c4 => gPtrS (fr 8) fun q8 => gInt .i64 (fr 40) fun x40 => gInt .i64 (fr 41) fun x41 => D6.t R N5 a4 l4 c4 q8 x40 x41 h
theorem D6.ok (R : Rt) (N5 : Option Addr → Nat → Nat → Addr → Int → Int → Hp → Prop) (fr : Fr) (h : Hp) (g : D6.g R N5 fr h) : den prog E (cAt C [true, true, true, true, true, true, false, true, false, false]) (Ex.then (L5.g N5) (Ex.inBlock 4 (Ex.then (D3.g R) (retQ E [.tmp 2, .tmp 3] R)))) fr h := by
  obtain ⟨a4, l4, c4, e4, g⟩ := gSlice_elim g
  obtain ⟨q8, e8, g⟩ := gPtrS_elim g
  obtain ⟨x40, e40, g⟩ := gInt_elim g
  obtain ⟨x41, e41, g⟩ := gInt_elim g
  exact den_enter [(4, .slice a4 l4 c4), (8, .pointer (some q8)), (40, .int .i64 x40), (41, .int .i64 x41)] ⟨e4, e8, e40, e41, trivial⟩ (by kernel_rfl) g
def L5.t (R : Rt) : Nat → Option Addr → Nat → Nat → Addr → Int → Int → Hp → Prop
  | 0 => fun _ _ _ _ _ _ _ => False
  | n + 1 => fun a4 l4 c4 q8 x40 x41 h => D6.t R (L5.t R n) a4 l4 c4 q8 x40 x41 h
theorem L5.ok (R : Rt) (fr : Fr) (h : Hp) (g : L5.g (fun a4 l4 c4 q8 x40 x41 h => ∃ n, L5.t R n a4 l4 c4 q8 x40 x41 h) fr h) : den prog E (cAt C [true, true, true, true, true, true, false, true, false]) (Ex.inBlock 4 (Ex.then (D3.g R) (retQ E [.tmp 2, .tmp 3] R))) fr h := by
  obtain ⟨a4, l4, c4, e4, g⟩ := gSlice_elim g
  obtain ⟨q8, e8, g⟩ := gPtrS_elim g
  obtain ⟨x40, e40, g⟩ := gInt_elim g
  obtain ⟨x41, e41, g⟩ := gInt_elim g
  obtain ⟨n, g⟩ := g
  refine loop_ok (fun n => L5.g (L5.t R n)) (b := (cAt C [true, true, true, true, true, true, false, true, false, false])) (by kernel_rfl) (fun fr h g => ?_) (fun n => D6.ok R (L5.t R n)) n fr h (gSlice_intro e4 (gPtrS_intro e8 (gInt_intro e40 (gInt_intro e41 (g)))))
  obtain ⟨a4, l4, c4, e4, g⟩ := gSlice_elim g
  obtain ⟨q8, e8, g⟩ := gPtrS_elim g
  obtain ⟨x40, e40, g⟩ := gInt_elim g
  obtain ⟨x41, e41, g⟩ := gInt_elim g
  exact g
theorem B7.ok (R : Rt) (fr : Fr) (h : Hp) (g : L5.g (fun a4 l4 c4 q8 x40 x41 h => ∃ n, L5.t R n a4 l4 c4 q8 x40 x41 h) fr h) : den prog E (cAt C [true, true, true, true, true, true, false, true]) (Ex.then (D3.g R) (retQ E [.tmp 2, .tmp 3] R)) fr h :=
  den_block (by kernel_rfl) (L5.ok R fr h g)
def D4.t (R : Rt) (a4 : Option Addr) (l4 : Nat) (c4 : Nat) (q8 : Addr) (h : Hp) : Prop :=
  (∃ n, L5.t R n a4 l4 c4 q8 (((l4 : Nat) : Int)) 0 h)
def D4.g (R : Rt) (fr : Fr) (h : Hp) : Prop := gSlice (fr 4) fun a4 l4 c4 => gPtrS (fr 8) fun q8 => D4.t R a4 l4 c4 q8 h
theorem D4.ok (R : Rt) (fr : Fr) (h : Hp) (g : D4.g R fr h) : den prog E (cAt C [true, true, true, true, true, true, false]) (Ex.then (D3.g R) (retQ E [.tmp 2, .tmp 3] R)) fr h := by
  obtain ⟨a4, l4, c4, e4, g⟩ := gSlice_elim g
  obtain ⟨q8, e8, g⟩ := gPtrS_elim g
  exact den_cut 1 (r := (cAt C [true, true, true, true, true, true, false, true])) (by kernel_rfl) (B7.ok R) (den_enter [(4, .slice a4 l4 c4), (8, .pointer (some q8))] ⟨e4, e8, trivial⟩ (by kernel_rfl) g)
theorem W8.ok (R : Rt) (fr : Fr) (h : Hp) (g : D4.g R fr h) : den prog E (cAt C [true, true, true, true, true, true]) (retQ E [.tmp 2, .tmp 3] R) fr h :=
  den_then (by kernel_rfl) (D3.ok R) (D4.ok R fr h g)
def D2.t (R : Rt) (a4 : Option Addr) (l4 : Nat) (c4 : Nat) (h : Hp) : Prop :=
  boxK h 70 T70.zs fun q7 h8 => D4.t R a4 l4 c4 q7 h8
def D2.g (R : Rt) (fr : Fr) (h : Hp) : Prop := gSlice (fr 4) fun a4 l4 c4 => D2.t R a4 l4 c4 h
theorem D2.ok (R : Rt) (fr : Fr) (h : Hp) (g : D2.g R fr h) : den prog E (cAt C [true, true, true, true, true]) (retQ E [.tmp 2, .tmp 3] R) fr h := by
  obtain ⟨a4, l4, c4, e4, g⟩ := gSlice_elim g
  exact den_cut 1 (r := (cAt C [true, true, true, true, true, true])) (by kernel_rfl) (W8.ok R) (den_enter [(4, .slice a4 l4 c4)] ⟨e4, trivial⟩ (by kernel_rfl) g)
def L9.g (N : Option Addr → Nat → Nat → Option Addr → Nat → Nat → Hp → Prop) (fr : Fr) (h : Hp) : Prop := gSlice (fr 0) fun a0 l0 c0 => gSlice (fr 4) fun a4 l4 c4 => N a0 l0 c0 a4 l4 c4 h
def D12.t (R : Rt) (N9 : Option Addr → Nat → Nat → Option Addr → Nat → Nat → Hp → Prop) (a4 : Option Addr) (l4 : Nat) (c4 : Nat) (a5 : Option Addr) (l5 : Nat) (c5 : Nat) (h : Hp) : Prop :=
  N9 a5 l5 c5 a4 l4 c4 h
def D12.g (R : Rt) (N9 : Option Addr → Nat → Nat → Option Addr → Nat → Nat → Hp → Prop) (fr : Fr) (h : Hp) : Prop := gSlice (fr 4) fun a4 l4 c4 => gSlice (fr 5) fun a5 l5 c5 => D12.t R N9 a4 l4 c4 a5 l5 c5 h
theorem D12.ok (R : Rt) (N9 : Option Addr → Nat → Nat → Option Addr → Nat → Nat → Hp → Prop) (fr : Fr) (h : Hp) (g : D12.g R N9 fr h) : den prog E (cAt C [true, true, true, true, false, false, false, true, false, true, true]) (Ex.inBlock 1 (Ex.then (L9.g N9) (Ex.inBlock 0 (Ex.then (D2.g R) (retQ E [.tmp 2, .tmp 3] R))))) fr h := by
  obtain ⟨a4, l4, c4, e4, g⟩ := gSlice_elim g
  obtain ⟨a5, l5, c5, e5, g⟩ := gSlice_elim g
  exact den_enter [(4, .slice a4 l4 c4), (5, .slice a5 l5 c5)] ⟨e4, e5, trivial⟩ (by kernel_rfl) g
def L14.g (N : Option Addr → Nat → Nat → Option Addr → Nat → Nat → Int → Int → Hp → Prop) (fr : Fr) (h : Hp) : Prop := gSlice (fr 4) fun a4 l4 c4 => gSlice (fr 5) fun a5 l5 c5 => gInt .u64 (fr 6) fun x6 => gInt .i64 (fr 26) fun x26 => N a4 l4 c4 a5 l5 c5 x6 x26 h
def D15.t (R : Rt) (N9 : Option Addr → Nat → Nat → Option Addr → Nat → Nat → Hp → Prop) (N14 : Option Addr → Nat → Nat → Option Addr → Nat → Nat → Int → Int → Hp → Prop) (a4 : Option Addr) (l4 : Nat) (c4 : Nat) (a5 : Option Addr) (l5 : Nat) (c5 : Nat) (x6 : Int) (x26 : Int) (h : Hp) : Prop :=
  cond (decide (x26 < 19)) ((10 : Int) ≠ 0 ∧ letK (Int.tmod x6 10) fun n42 =>
  letK (IntKind.u64.wrap (48 + n42)) fun n43 =>
  letK (IntKind.u8.wrap n43) fun n44 =>
  boxK h 5 [.int .u8 n44] fun q45 h46 =>
  apK h46 5 T5 a4 l4 c4 (.slice (some q45) 1 1) fun a_47 l_47 c_47 h47 =>
  (10 : Int) ≠ 0 ∧ letK (IntKind.u64.wrap (Int.tdiv x6 10)) fun n48 =>
  letK (IntKind.i64.wrap (x26 + 1)) fun n49 =>
  N14 a_47 l_47 c_47 a5 l5 c5 n48 n49 h47) (D12.t R N9 a4 l4 c4 a5 l5 c5 h)
def D15.g (R : Rt) (N9 : Option Addr → Nat → Nat → Option Addr → Nat → Nat → Hp → Prop) (N14 : Option Addr → Nat → Nat → Option Addr → Nat → Nat → Int → Int → Hp → Prop) (fr : Fr) (h : Hp) : Prop := gSlice (fr 4) fun a4 l4 c4 => gSlice (fr 5) fun a5 l5 c5 => gInt .u64 (fr 6) fun x6 => gInt .i64 (fr 26) fun x26 => D15.t R N9 N14 a4 l4 c4 a5 l5 c5 x6 x26 h
theorem D15.ok (R : Rt) (N9 : Option Addr → Nat → Nat → Option Addr → Nat → Nat → Hp → Prop) (N14 : Option Addr → Nat → Nat → Option Addr → Nat → Nat → Int → Int → Hp → Prop) (fr : Fr) (h : Hp) (g : D15.g R N9 N14 fr h) : den prog E (cAt C [true, true, true, true, false, false, false, true, false, true, false, true, false, false]) (Ex.then (L14.g N14) (Ex.inBlock 2 (Ex.then (D12.g R N9) (Ex.inBlock 1 (Ex.then (L9.g N9) (Ex.inBlock 0 (Ex.then (D2.g R) (retQ E [.tmp 2, .tmp 3] R)))))))) fr h := by
  obtain ⟨a4, l4, c4, e4, g⟩ := gSlice_elim g
  obtain ⟨a5, l5, c5, e5, g⟩ := gSlice_elim g
  obtain ⟨x6, e6, g⟩ := gInt_elim g
  obtain ⟨x26, e26, g⟩ := gInt_elim g
  exact den_enter [(4, .slice a4 l4 c4), (5, .slice a5 l5 c5), (6, .int .u64 x6), (26, .int .i64 x26)] ⟨e4, e5, e6, e26, trivial⟩ (by kernel_rfl) g
def L14.t (R : Rt) (N9 : Option Addr → Nat → Nat → Option Addr → Nat → Nat → Hp → Prop) : Nat → Option Addr → Nat → Nat → Option Addr → Nat → Nat → Int → Int → Hp → Prop
  | 0 => fun _ _ _ _ _ _ _ _ _ => False
  | n + 1 => fun a4 l4 c4 a5 l5 c5 x6 x26 h => D15.t R N9 (L14.t R N9 n) a4 l4 c4 a5 l5 c5 x6 x26 h
theorem L14.ok (R : Rt) (N9 : Option Addr → Nat → Nat → Option Addr → Nat → Nat → Hp → Prop) (fr : Fr) (h : Hp) (g : L14.g (fun a4 l4 c4 a5 l5 c5 x6 x26 h => ∃ n, L14.t R N9 n a4 l4 c4 a5 l5 c5 x6 x26 h) fr h) : den prog E (cAt C [true, true, true, true, false, false, false, true, false, true, false, true, false]) (Ex.inBlock 2 (Ex.then (D12.g R N9) (Ex.inBlock 1 (Ex.then (L9.g N9) (Ex.inBlock 0 (Ex.then (D2.g R) (retQ E [.tmp 2, .tmp 3] R))))))) fr h := by
  obtain ⟨a4, l4, c4, e4, g⟩ := gSlice_elim g
  obtain ⟨a5, l5, c5, e5, g⟩ := gSlice_elim g
  obtain ⟨x6, e6, g⟩ := gInt_elim g
  obtain ⟨x26, e26, g⟩ := gInt_elim g
  obtain ⟨n, g⟩ := g
  refine loop_ok (fun n => L14.g (L14.t R N9 n)) (b := (cAt C [true, true, true, true, false, false, false, true, false, true, false, true, false, false])) (by kernel_rfl) (fun fr h g => ?_) (fun n => D15.ok R N9 (L14.t R N9 n)) n fr h (gSlice_intro e4 (gSlice_intro e5 (gInt_intro e6 (gInt_intro e26 (g)))))
  obtain ⟨a4, l4, c4, e4, g⟩ := gSlice_elim g
  obtain ⟨a5, l5, c5, e5, g⟩ := gSlice_elim g
  obtain ⟨x6, e6, g⟩ := gInt_elim g
  obtain ⟨x26, e26, g⟩ := gInt_elim g
  exact g
theorem B16.ok (R : Rt) (N9 : Option Addr → Nat → Nat → Option Addr → Nat → Nat → Hp → Prop) (fr : Fr) (h : Hp) (g : L14.g (fun a4 l4 c4 a5 l5 c5 x6 x26 h => ∃ n, L14.t R N9 n a4 l4 c4 a5 l5 c5 x6 x26 h) fr h) : den prog E (cAt C [true, true, true, true, false, false, false, true, false, true, false, true]) (Ex.then (D12.g R N9) (Ex.inBlock 1 (Ex.then (L9.g N9) (Ex.inBlock 0 (Ex.then (D2.g R) (retQ E [.tmp 2, .tmp 3] R)))))) fr h :=
  den_block (by kernel_rfl) (L14.ok R N9 fr h g)
def D13.t (R : Rt) (N9 : Option Addr → Nat → Nat → Option Addr → Nat → Nat → Hp → Prop) (a4 : Option Addr) (l4 : Nat) (c4 : Nat) (a5 : Option Addr) (l5 : Nat) (c5 : Nat) (x6 : Int) (h : Hp) : Prop :=
  (∃ n, L14.t R N9 n a4 l4 c4 a5 l5 c5 x6 0 h)
def D13.g (R : Rt) (N9 : Option Addr → Nat → Nat → Option Addr → Nat → Nat → Hp → Prop) (fr : Fr) (h : Hp) : Prop := gSlice (fr 4) fun a4 l4 c4 => gSlice (fr 5) fun a5 l5 c5 => gInt .u64 (fr 6) fun x6 => D13.t R N9 a4 l4 c4 a5 l5 c5 x6 h
theorem D13.ok (R : Rt) (N9 : Option Addr → Nat → Nat → Option Addr → Nat → Nat → Hp → Prop) (fr : Fr) (h : Hp) (g : D13.g R N9 fr h) : den prog E (cAt C [true, true, true, true, false, false, false, true, false, true, false]) (Ex.then (D12.g R N9) (Ex.inBlock 1 (Ex.then (L9.g N9) (Ex.inBlock 0 (Ex.then (D2.g R) (retQ E [.tmp 2, .tmp 3] R)))))) fr h := by
  obtain ⟨a4, l4, c4, e4, g⟩ := gSlice_elim g
  obtain ⟨a5, l5, c5, e5, g⟩ := gSlice_elim g
  obtain ⟨x6, e6, g⟩ := gInt_elim g
  exact den_cut 1 (r := (cAt C [true, true, true, true, false, false, false, true, false, true, false, true])) (by kernel_rfl) (B16.ok R N9) (den_enter [(4, .slice a4 l4 c4), (5, .slice a5 l5 c5), (6, .int .u64 x6)] ⟨e4, e5, e6, trivial⟩ (by kernel_rfl) g)
theorem W17.ok (R : Rt) (N9 : Option Addr → Nat → Nat → Option Addr → Nat → Nat → Hp → Prop) (fr : Fr) (h : Hp) (g : D13.g R N9 fr h) : den prog E (cAt C [true, true, true, true, false, false, false, true, false, true]) (Ex.inBlock 1 (Ex.then (L9.g N9) (Ex.inBlock 0 (Ex.then (D2.g R) (retQ E [.tmp 2, .tmp 3] R))))) fr h :=
  den_then (by kernel_rfl) (D12.ok R N9) (D13.ok R N9 fr h g)
def D11.t (R : Rt) (N9 : Option Addr → Nat → Nat → Option Addr → Nat → Nat → Hp → Prop) (a0 : Option Addr) (l0 : Nat) (c0 : Nat) (a4 : Option Addr) (l4 : Nat) (c4 : Nat) (h : Hp) : Prop :=
  HC nat_DivWord.id #[.slice a0 l0 c0, .int .u64 10000000000000000000] h fun v33 h34 =>
  gTup v33 fun y35 =>
  uncons y35 fun v36 y36 =>
  gSlice v36 fun a_37 l_37 c_37 =>
  uncons y36 fun v38 y38 =>
  gInt .u64 v38 fun x_39 =>
  uncons y38 fun v40 y40 =>
  gInt .i64 v40 fun x_41 =>
  unnil y40 <| D13.t R N9 a4 l4 c4 a_37 l_37 c_37 x_39 h34
def D11.g (R : Rt) (N9 : Option Addr → Nat → Nat → Option Addr → Nat → Nat → Hp → Prop) (fr : Fr) (h : Hp) : Prop := gSlice (fr 0) fun a0 l0 c0 => gSlice (fr 4) fun a4 l4 c4 => D11.t R N9 a0 l0 c0 a4 l4 c4 h
theorem D11.ok (R : Rt) (N9 : Option Addr → Nat → Nat → Option Addr → Nat → Nat → Hp → Prop) (fr : Fr) (h : Hp) (g : D11.g R N9 fr h) : den prog E (cAt C [true, true, true, true, false, false, false, true, false]) (Ex.inBlock 1 (Ex.then (L9.g N9) (Ex.inBlock 0 (Ex.then (D2.g R) (retQ E [.tmp 2, .tmp 3] R))))) fr h := by
  obtain ⟨a0, l0, c0, e0, g⟩ := gSlice_elim g
  obtain ⟨a4, l4, c4, e4, g⟩ := gSlice_elim g
  exact den_cut 1 (r := (cAt C [true, true, true, true, false, false, false, true, false, true])) (by kernel_rfl) (W17.ok R N9) (den_enter [(0, .slice a0 l0 c0), (4, .slice a4 l4 c4)] ⟨e0, e4, trivial⟩ (by kernel_rfl) g)
theorem B18.ok (R : Rt) (N9 : Option Addr → Nat → Nat → Option Addr → Nat → Nat → Hp → Prop) (fr : Fr) (h : Hp) (g : D11.g R N9 fr h) : den prog E (cAt C [true, true, true, true, false, false, false, true]) (Ex.then (L9.g N9) (Ex.inBlock 0 (Ex.then (D2.g R) (retQ E [.tmp 2, .tmp 3] R)))) fr h :=
  den_block (by kernel_rfl) (D11.ok R N9 fr h g)
def D10.t (R : Rt) (N9 : Option Addr → Nat → Nat → Option Addr → Nat → Nat → Hp → Prop) (a0 : Option Addr) (l0 : Nat) (c0 : Nat) (a4 : Option Addr) (l4 : Nat) (c4 : Nat) (h : Hp) : Prop :=
  cond (decide ((((l0 : Nat) : Int)) > 0)) (D11.t R N9 a0 l0 c0 a4 l4 c4 h) (D2.t R a4 l4 c4 h)
def D10.g (R : Rt) (N9 : Option Addr → Nat → Nat → Option Addr → Nat → Nat → Hp → Prop) (fr : Fr) (h : Hp) : Prop := gSlice (fr 0) fun a0 l0 c0 => gSlice (fr 4) fun a4 l4 c4 => D10.t R N9 a0 l0 c0 a4 l4 c4 h
theorem D10.ok (R : Rt) (N9 : Option Addr → Nat → Nat → Option Addr → Nat → Nat → Hp → Prop) (fr : Fr) (h : Hp) (g : D10.g R N9 fr h) : den prog E (cAt C [true, true, true, true, false, false, false]) (Ex.then (L9.g N9) (Ex.inBlock 0 (Ex.then (D2.g R) (retQ E [.tmp 2, .tmp 3] R)))) fr h := by
  obtain ⟨a0, l0, c0, e0, g⟩ := gSlice_elim g
  obtain ⟨a4, l4, c4, e4, g⟩ := gSlice_elim g
  exact den_cut 1 (r := (cAt C [true, true, true, true, false, false, false, true])) (by kernel_rfl) (B18.ok R N9) (den_enter [(0, .slice a0 l0 c0), (4, .slice a4 l4 c4)] ⟨e0, e4, trivial⟩ (by kernel_rfl) g)
def L9.t (R : Rt) : Nat → Option Addr → Nat → Nat → Option Addr → Nat → Nat → Hp → Prop
  | 0 => fun _ _ _ _ _ _ _ => False
  | n + 1 => fun a0 l0 c0 a4 l4 c4 h => D10.t R (L9.t R n) a0 l0 c0 a4 l4 c4 h
theorem L9.ok (R : Rt) (fr : Fr) (h : Hp) (g : L9.g (fun a0 l0 c0 a4 l4 c4 h => ∃ n, L9.t R n a0 l0 c0 a4 l4 c4 h) fr h) : den prog E (cAt C [true, true, true, true, false, false]) (Ex.inBlock 0 (Ex.then (D2.g R) (retQ E [.tmp 2, .tmp 3] R))) fr h := by
  obtain ⟨a0, l0, c0, e0, g⟩ := gSlice_elim g
  obtain ⟨a4, l4, c4, e4, g⟩ := gSlice_elim g
  obtain ⟨n, g⟩ := g
  refine loop_ok (fun n => L9.g (L9.t R n)) (b := (cAt C [true, true, true, true, false, false, false])) (by kernel_rfl) (fun fr h g => ?_) (fun n => D10.ok R (L9.t R n)) n fr h (gSlice_intro e0 (gSlice_intro e4 (g)))
  obtain ⟨a0, l0, c0, e0, g⟩ := gSlice_elim g
  obtain ⟨a4, l4, c4, e4, g⟩ := gSlice_elim g
  exact g
theorem B19.ok (R : Rt) (fr : Fr) (h : Hp) (g : L9.g (fun a0 l0 c0 a4 l4 c4 h => ∃ n, L9.t R n a0 l0 c0 a4 l4 c4 h) fr h) : den prog E (cAt C [true, true, true, true, false]) (Ex.then (D2.g R) (retQ E [.tmp 2, .tmp 3] R)) fr h :=
  den_block (by kernel_rfl) (L9.ok R fr h g)
theorem W20.ok (R : Rt) (fr : Fr) (h : Hp) (g : L9.g (fun a0 l0 c0 a4 l4 c4 h => ∃ n, L9.t R n a0 l0 c0 a4 l4 c4 h) fr h) : den prog E (cAt C [true, true, true, true]) (retQ E [.tmp 2, .tmp 3] R) fr h :=
  den_then (by kernel_rfl) (D2.ok R) (B19.ok R fr h g)
def D1.t (R : Rt) (a0 : Option Addr) (l0 : Nat) (c0 : Nat) (h : Hp) : Prop :=
  HC nat_Form.id #[.slice a0 l0 c0] h fun v1 h2 =>
  gBool v1 fun b_3 =>
  cond (!b_3) (R (.tuple #[.string (⟨#[]⟩ : ByteArray), .int .i64 2]) h2) (HC nat_Bits.id #[.slice a0 l0 c0] h2 fun v4 h5 =>
  gInt .i64 v4 fun x_6 =>
  cond (decide (x_6 > 16278)) (R (.tuple #[.string (⟨#[]⟩ : ByteArray), .int .i64 5]) h5) ((∃ n, L9.t R n a0 l0 c0 none 0 0 h5)))
def D1.g (R : Rt) (fr : Fr) (h : Hp) : Prop := gSlice (fr 0) fun a0 l0 c0 => D1.t R a0 l0 c0 h
theorem D1.ok (R : Rt) (fr : Fr) (h : Hp) (g : D1.g R fr h) : den prog E C (retQ E [.tmp 2, .tmp 3] R) fr h := by
  obtain ⟨a0, l0, c0, e0, g⟩ := gSlice_elim g
  exact den_cut 4 (r := (cAt C [true, true, true, true])) (by kernel_rfl) (W20.ok R) (den_enter [(0, .slice a0 l0 c0)] ⟨e0, trivial⟩ (by kernel_rfl) g)
def t (a0 : Option Addr) (l0 : Nat) (c0 : Nat) (h : Hp) (R : Rt) : Prop := D1.t R a0 l0 c0 h
theorem ok {a0 : Option Addr} {l0 : Nat} {c0 : Nat} {h : Hp} {R : Rt} (g : t a0 l0 c0 h R) : HC id #[.slice a0 l0 c0] h R :=
  calls_of_den' envOk (c := C) (rs := [.tmp 2, .tmp 3]) Try.func16 (by kernel_rfl) (by kernel_rfl) (by kernel_rfl) (args := [.slice a0 l0 c0]) (by kernel_rfl) (D1.ok R _ h (gSlice_intro rfl (g)))
end natdiv_Text


namespace gnomonlaw03_twin
noncomputable def C : Code := bodyOf Try.f18
def D1.t (R : Rt) (a0 : Option Addr) (l0 : Nat) (c0 : Nat) (h : Hp) : Prop :=
  mkK h 27 T27 (((l0 : Nat) : Int)) (((l0 : Nat) : Int)) fun q1 h2 =>
  cpK h2 1 (some q1) ((((l0 : Nat) : Int)).toNat) (.slice a0 l0 c0) fun n3 h3 =>
  R (.slice (some q1) ((((l0 : Nat) : Int)).toNat) ((((l0 : Nat) : Int)).toNat)) h3
def D1.g (R : Rt) (fr : Fr) (h : Hp) : Prop := gSlice (fr 0) fun a0 l0 c0 => D1.t R a0 l0 c0 h
theorem D1.ok (R : Rt) (fr : Fr) (h : Hp) (g : D1.g R fr h) : den prog E C (retQ E [.tmp 2] R) fr h := by
  obtain ⟨a0, l0, c0, e0, g⟩ := gSlice_elim g
  exact den_enter [(0, .slice a0 l0 c0)] ⟨e0, trivial⟩ (by kernel_rfl) g
def t (a0 : Option Addr) (l0 : Nat) (c0 : Nat) (h : Hp) (R : Rt) : Prop := D1.t R a0 l0 c0 h
theorem ok {a0 : Option Addr} {l0 : Nat} {c0 : Nat} {h : Hp} {R : Rt} (g : t a0 l0 c0 h R) : HC id #[.slice a0 l0 c0] h R :=
  calls_of_den' envOk (c := C) (rs := [.tmp 2]) Try.func18 (by kernel_rfl) (by kernel_rfl) (by kernel_rfl) (args := [.slice a0 l0 c0]) (by kernel_rfl) (D1.ok R _ h (gSlice_intro rfl (g)))
end gnomonlaw03_twin

namespace gnomonlaw03_stripped
noncomputable def C : Code := bodyOf Try.f19
def D2.t (R : Rt) (s0 : ByteArray) (h : Hp) : Prop :=
  R (.string s0) h
def D2.g (R : Rt) (fr : Fr) (h : Hp) : Prop := gStr (fr 0) fun s0 => D2.t R s0 h
theorem D2.ok (R : Rt) (fr : Fr) (h : Hp) (g : D2.g R fr h) : den prog E (cAt C [true, true]) (retQ E [.tmp 2] R) fr h := by
  obtain ⟨s0, e0, g⟩ := gStr_elim g
  exact den_enter [(0, .string s0)] ⟨e0, trivial⟩ (by kernel_rfl) g
def L3.g (N : ByteArray → Hp → Prop) (fr : Fr) (h : Hp) : Prop := gStr (fr 0) fun s0 => N s0 h
def D4.t (R : Rt) (N3 : ByteArray → Hp → Prop) (s0 : ByteArray) (h : Hp) : Prop :=
  cond (decide ((((s0.size : Nat) : Int)) > 1)) (idxS s0 0 fun n1 =>
  cond (n1 == 48) (slS s0 (some (.int .i64 1)) none fun s_2 =>
  N3 s_2 h) (D2.t R s0 h)) (D2.t R s0 h)
def D4.g (R : Rt) (N3 : ByteArray → Hp → Prop) (fr : Fr) (h : Hp) : Prop := gStr (fr 0) fun s0 => D4.t R N3 s0 h
theorem D4.ok (R : Rt) (N3 : ByteArray → Hp → Prop) (fr : Fr) (h : Hp) (g : D4.g R N3 fr h) : den prog E (cAt C [true, false, false, false]) (Ex.then (L3.g N3) (Ex.inBlock 0 (Ex.then (D2.g R) (retQ E [.tmp 2] R)))) fr h := by
  obtain ⟨s0, e0, g⟩ := gStr_elim g
  exact den_enter [(0, .string s0)] ⟨e0, trivial⟩ (by kernel_rfl) g
def L3.t (R : Rt) : Nat → ByteArray → Hp → Prop
  | 0 => fun _ _ => False
  | n + 1 => fun s0 h => D4.t R (L3.t R n) s0 h
theorem L3.ok (R : Rt) (fr : Fr) (h : Hp) (g : L3.g (fun s0 h => ∃ n, L3.t R n s0 h) fr h) : den prog E (cAt C [true, false, false]) (Ex.inBlock 0 (Ex.then (D2.g R) (retQ E [.tmp 2] R))) fr h := by
  obtain ⟨s0, e0, g⟩ := gStr_elim g
  obtain ⟨n, g⟩ := g
  refine loop_ok (fun n => L3.g (L3.t R n)) (b := (cAt C [true, false, false, false])) (by kernel_rfl) (fun fr h g => ?_) (fun n => D4.ok R (L3.t R n)) n fr h (gStr_intro e0 (g))
  obtain ⟨s0, e0, g⟩ := gStr_elim g
  exact g
theorem B5.ok (R : Rt) (fr : Fr) (h : Hp) (g : L3.g (fun s0 h => ∃ n, L3.t R n s0 h) fr h) : den prog E (cAt C [true, false]) (Ex.then (D2.g R) (retQ E [.tmp 2] R)) fr h :=
  den_block (by kernel_rfl) (L3.ok R fr h g)
theorem W6.ok (R : Rt) (fr : Fr) (h : Hp) (g : L3.g (fun s0 h => ∃ n, L3.t R n s0 h) fr h) : den prog E (cAt C [true]) (retQ E [.tmp 2] R) fr h :=
  den_then (by kernel_rfl) (D2.ok R) (B5.ok R fr h g)
def D1.t (R : Rt) (s0 : ByteArray) (h : Hp) : Prop :=
  (∃ n, L3.t R n s0 h)
def D1.g (R : Rt) (fr : Fr) (h : Hp) : Prop := gStr (fr 0) fun s0 => D1.t R s0 h
theorem D1.ok (R : Rt) (fr : Fr) (h : Hp) (g : D1.g R fr h) : den prog E C (retQ E [.tmp 2] R) fr h := by
  obtain ⟨s0, e0, g⟩ := gStr_elim g
  exact den_cut 1 (r := (cAt C [true])) (by kernel_rfl) (W6.ok R) (den_enter [(0, .string s0)] ⟨e0, trivial⟩ (by kernel_rfl) g)
def t (s0 : ByteArray) (h : Hp) (R : Rt) : Prop := D1.t R s0 h
theorem ok {s0 : ByteArray} {h : Hp} {R : Rt} (g : t s0 h R) : HC id #[.string s0] h R :=
  calls_of_den' envOk (c := C) (rs := [.tmp 2]) Try.func19 (by kernel_rfl) (by kernel_rfl) (by kernel_rfl) (args := [.string s0]) (by kernel_rfl) (D1.ok R _ h (gStr_intro rfl (g)))
end gnomonlaw03_stripped















end Go.Proofs.Ytdpkfipkjdlmlaa.G
