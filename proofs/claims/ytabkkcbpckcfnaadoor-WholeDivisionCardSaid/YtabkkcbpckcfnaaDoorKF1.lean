/- Texts of this work, joined: Fp1. -/
import Derived.Test.YtabkkcbpckcfnaaDoorKE
/- Functions of the translation as predicates over heaps, and that their calls do so. Written by a program of this work. -/
namespace Go.Proofs.YtabkkcbpckcfnaaDoor.G
open Go.Gv
set_option linter.unusedVariables false
set_option maxRecDepth 100000
namespace gnomonref01_Norm
noncomputable def C : Code := bodyOf Tryd.f52
def D2.t (R : Rt) (a0 : Option Addr) (l0 : Nat) (c0 : Nat) (x3 : Int) (h : Hp) : Prop :=
  mkK h 71 T71 x3 x3 fun q1 h2 =>
  slK 1 a0 l0 c0 none (some (.int .i64 x3)) none fun a_3 l_3 c_3 =>
  cpK h2 1 (some q1) x3.toNat (.slice a_3 l_3 c_3) fun n4 h4 =>
  R (.slice (some q1) x3.toNat x3.toNat) h4
def D2.g (R : Rt) (fr : Fr) (h : Hp) : Prop := gSlice (fr 0) fun a0 l0 c0 => gInt .i64 (fr 3) fun x3 => D2.t R a0 l0 c0 x3 h
theorem D2.ok (R : Rt) (fr : Fr) (h : Hp) (g : D2.g R fr h) : den prog E (cAt C [true, true, true]) (retQ E [.tmp 2] R) fr h := by
  obtain ⟨a0, l0, c0, e0, g⟩ := gSlice_elim g
  obtain ⟨x3, e3, g⟩ := gInt_elim g
  exact den_enter [(0, .slice a0 l0 c0), (3, .int .i64 x3)] ⟨e0, e3, trivial⟩ (by kernel_rfl) g
def L3.g (N : Option Addr → Nat → Nat → Int → Hp → Prop) (fr : Fr) (h : Hp) : Prop := gSlice (fr 0) fun a0 l0 c0 => gInt .i64 (fr 3) fun x3 => N a0 l0 c0 x3 h
def D4.t (R : Rt) (N3 : Option Addr → Nat → Nat → Int → Hp → Prop) (a0 : Option Addr) (l0 : Nat) (c0 : Nat) (x3 : Int) (h : Hp) : Prop :=
  cond (decide (x3 > 0)) (letK (IntKind.i64.wrap (x3 - 1)) fun n5 =>
  idxK a0 l0 n5 1 fun q6 =>
  ldK h q6 fun v7 =>
  gInt .u32 v7 fun x_8 =>
  cond (x_8 == 0) (letK (IntKind.i64.wrap (x3 - 1)) fun n9 =>
  N3 a0 l0 c0 n9 h) (D2.t R a0 l0 c0 x3 h)) (D2.t R a0 l0 c0 x3 h)
def D4.g (R : Rt) (N3 : Option Addr → Nat → Nat → Int → Hp → Prop) (fr : Fr) (h : Hp) : Prop := gSlice (fr 0) fun a0 l0 c0 => gInt .i64 (fr 3) fun x3 => D4.t R N3 a0 l0 c0 x3 h
theorem D4.ok (R : Rt) (N3 : Option Addr → Nat → Nat → Int → Hp → Prop) (fr : Fr) (h : Hp) (g : D4.g R N3 fr h) : den prog E (cAt C [true, true, false, false, false]) (Ex.then (L3.g N3) (Ex.inBlock 0 (Ex.then (D2.g R) (retQ E [.tmp 2] R)))) fr h := by
  obtain ⟨a0, l0, c0, e0, g⟩ := gSlice_elim g
  obtain ⟨x3, e3, g⟩ := gInt_elim g
  exact den_enter [(0, .slice a0 l0 c0), (3, .int .i64 x3)] ⟨e0, e3, trivial⟩ (by kernel_rfl) g
def L3.t (R : Rt) : Nat → Option Addr → Nat → Nat → Int → Hp → Prop
  | 0 => fun _ _ _ _ _ => False
  | n + 1 => fun a0 l0 c0 x3 h => D4.t R (L3.t R n) a0 l0 c0 x3 h
theorem L3.ok (R : Rt) (fr : Fr) (h : Hp) (g : L3.g (fun a0 l0 c0 x3 h => ∃ n, L3.t R n a0 l0 c0 x3 h) fr h) : den prog E (cAt C [true, true, false, false]) (Ex.inBlock 0 (Ex.then (D2.g R) (retQ E [.tmp 2] R))) fr h := by
  obtain ⟨a0, l0, c0, e0, g⟩ := gSlice_elim g
  obtain ⟨x3, e3, g⟩ := gInt_elim g
  obtain ⟨n, g⟩ := g
  refine loop_ok (fun n => L3.g (L3.t R n)) (b := (cAt C [true, true, false, false, false])) (by kernel_rfl) (fun fr h g => ?_) (fun n => D4.ok R (L3.t R n)) n fr h (gSlice_intro e0 (gInt_intro e3 (g)))
  obtain ⟨a0, l0, c0, e0, g⟩ := gSlice_elim g
  obtain ⟨x3, e3, g⟩ := gInt_elim g
  exact g
theorem B5.ok (R : Rt) (fr : Fr) (h : Hp) (g : L3.g (fun a0 l0 c0 x3 h => ∃ n, L3.t R n a0 l0 c0 x3 h) fr h) : den prog E (cAt C [true, true, false]) (Ex.then (D2.g R) (retQ E [.tmp 2] R)) fr h :=
  den_block (by kernel_rfl) (L3.ok R fr h g)
theorem W6.ok (R : Rt) (fr : Fr) (h : Hp) (g : L3.g (fun a0 l0 c0 x3 h => ∃ n, L3.t R n a0 l0 c0 x3 h) fr h) : den prog E (cAt C [true, true]) (retQ E [.tmp 2] R) fr h :=
  den_then (by kernel_rfl) (D2.ok R) (B5.ok R fr h g)
def D1.t (R : Rt) (a0 : Option Addr) (l0 : Nat) (c0 : Nat) (h : Hp) : Prop :=
  (∃ n, L3.t R n a0 l0 c0 (((l0 : Nat) : Int)) h)
def D1.g (R : Rt) (fr : Fr) (h : Hp) : Prop := gSlice (fr 0) fun a0 l0 c0 => D1.t R a0 l0 c0 h
theorem D1.ok (R : Rt) (fr : Fr) (h : Hp) (g : D1.g R fr h) : den prog E C (retQ E [.tmp 2] R) fr h := by
  obtain ⟨a0, l0, c0, e0, g⟩ := gSlice_elim g
  exact den_cut 2 (r := (cAt C [true, true])) (by kernel_rfl) (W6.ok R) (den_enter [(0, .slice a0 l0 c0)] ⟨e0, trivial⟩ (by kernel_rfl) g)
def t (a0 : Option Addr) (l0 : Nat) (c0 : Nat) (h : Hp) (R : Rt) : Prop := D1.t R a0 l0 c0 h
theorem ok {a0 : Option Addr} {l0 : Nat} {c0 : Nat} {h : Hp} {R : Rt} (g : t a0 l0 c0 h R) : HC id #[.slice a0 l0 c0] h R :=
  calls_of_den' envOk (c := C) (rs := [.tmp 2]) Tryd.func52 (by kernel_rfl) (by kernel_rfl) (by kernel_rfl) (args := [.slice a0 l0 c0]) (by kernel_rfl) (D1.ok R _ h (gSlice_intro rfl (g)))
end gnomonref01_Norm

namespace natmul_told
noncomputable def C : Code := bodyOf Tryd.f53
def D1.t (R : Rt) (a0 : Option Addr) (l0 : Nat) (c0 : Nat) (h : Hp) : Prop :=
  cond (decide ((((l0 : Nat) : Int)) > 8192)) (R (.tuple #[.slice none 0 0, .int .i64 5]) h) (R (.tuple #[.slice a0 l0 c0, .int .i64 0]) h)
def D1.g (R : Rt) (fr : Fr) (h : Hp) : Prop := gSlice (fr 0) fun a0 l0 c0 => D1.t R a0 l0 c0 h
theorem D1.ok (R : Rt) (fr : Fr) (h : Hp) (g : D1.g R fr h) : den prog E C (retQ E [.tmp 2, .tmp 3] R) fr h := by
  obtain ⟨a0, l0, c0, e0, g⟩ := gSlice_elim g
  exact den_enter [(0, .slice a0 l0 c0)] ⟨e0, trivial⟩ (by kernel_rfl) g
def t (a0 : Option Addr) (l0 : Nat) (c0 : Nat) (h : Hp) (R : Rt) : Prop := D1.t R a0 l0 c0 h
theorem ok {a0 : Option Addr} {l0 : Nat} {c0 : Nat} {h : Hp} {R : Rt} (g : t a0 l0 c0 h R) : HC id #[.slice a0 l0 c0] h R :=
  calls_of_den' envOk (c := C) (rs := [.tmp 2, .tmp 3]) Tryd.func53 (by kernel_rfl) (by kernel_rfl) (by kernel_rfl) (args := [.slice a0 l0 c0]) (by kernel_rfl) (D1.ok R _ h (gSlice_intro rfl (g)))
end natmul_told

namespace natmul_product
noncomputable def C : Code := bodyOf Tryd.f54
def D1.t (R : Rt) (a0 : Option Addr) (l0 : Nat) (c0 : Nat) (a1 : Option Addr) (l1 : Nat) (c1 : Nat) (h : Hp) : Prop :=
  letK (IntKind.i64.wrap ((((l0 : Nat) : Int)) + (((l1 : Nat) : Int)))) fun n1 =>
  mkK h 28 T28 n1 n1 fun q2 h3 =>
  HC natmul_fill.id #[.slice (some q2) n1.toNat n1.toNat, .slice a0 l0 c0, .slice a1 l1 c1] h3 fun v4 h5 =>
  gTup v4 fun y6 =>
  unnil y6 <| HC natmul_trim.id #[.slice (some q2) n1.toNat n1.toNat] h5 fun v7 h8 =>
  gSlice v7 fun a_9 l_9 c_9 =>
  R (.slice a_9 l_9 c_9) h8
def D1.g (R : Rt) (fr : Fr) (h : Hp) : Prop := gSlice (fr 0) fun a0 l0 c0 => gSlice (fr 1) fun a1 l1 c1 => D1.t R a0 l0 c0 a1 l1 c1 h
theorem D1.ok (R : Rt) (fr : Fr) (h : Hp) (g : D1.g R fr h) : den prog E C (retQ E [.tmp 4] R) fr h := by
  obtain ⟨a0, l0, c0, e0, g⟩ := gSlice_elim g
  obtain ⟨a1, l1, c1, e1, g⟩ := gSlice_elim g
  exact den_enter [(0, .slice a0 l0 c0), (1, .slice a1 l1 c1)] ⟨e0, e1, trivial⟩ (by kernel_rfl) g
def t (a0 : Option Addr) (l0 : Nat) (c0 : Nat) (a1 : Option Addr) (l1 : Nat) (c1 : Nat) (h : Hp) (R : Rt) : Prop := D1.t R a0 l0 c0 a1 l1 c1 h
theorem ok {a0 : Option Addr} {l0 : Nat} {c0 : Nat} {a1 : Option Addr} {l1 : Nat} {c1 : Nat} {h : Hp} {R : Rt} (g : t a0 l0 c0 a1 l1 c1 h R) : HC id #[.slice a0 l0 c0, .slice a1 l1 c1] h R :=
  calls_of_den' envOk (c := C) (rs := [.tmp 4]) Tryd.func54 (by kernel_rfl) (by kernel_rfl) (by kernel_rfl) (args := [.slice a0 l0 c0, .slice a1 l1 c1]) (by kernel_rfl) (D1.ok R _ h (gSlice_intro rfl (gSlice_intro rfl (g))))
end natmul_product

namespace natdiv_root
noncomputable def C : Code := bodyOf Tryd.f56
def L2.g (N : Option Addr → Nat → Nat → Option Addr → Nat → Nat → Hp → Prop) (fr : Fr) (h : Hp) : Prop := gSlice (fr 0) fun a0 l0 c0 => gSlice (fr 4) fun a4 l4 c4 => N a0 l0 c0 a4 l4 c4 h
def D3.t (R : Rt) (N2 : Option Addr → Nat → Nat → Option Addr → Nat → Nat → Hp → Prop) (a0 : Option Addr) (l0 : Nat) (c0 : Nat) (a4 : Option Addr) (l4 : Nat) (c4 : Nat) (h : Hp) : Prop :=
  HC natdiv_QuoRem.id #[.slice a0 l0 c0, .slice a4 l4 c4] h fun v16 h17 =>
  gTup v16 fun y18 =>
  uncons y18 fun v19 y19 =>
  gSlice v19 fun a_20 l_20 c_20 =>
  uncons y19 fun v21 y21 =>
  gSlice v21 fun a_22 l_22 c_22 =>
  uncons y21 fun v23 y23 =>
  gInt .i64 v23 fun x_24 =>
  unnil y23 <| HC nat_Add.id #[.slice a4 l4 c4, .slice a_20 l_20 c_20] h17 fun v25 h26 =>
  gTup v25 fun y27 =>
  uncons y27 fun v28 y28 =>
  gSlice v28 fun a_29 l_29 c_29 =>
  uncons y28 fun v30 y30 =>
  gInt .i64 v30 fun x_31 =>
  unnil y30 <| HC nat_Shr.id #[.slice a_29 l_29 c_29, .int .i64 1] h26 fun v32 h33 =>
  gTup v32 fun y34 =>
  uncons y34 fun v35 y35 =>
  gSlice v35 fun a_36 l_36 c_36 =>
  uncons y35 fun v37 y37 =>
  gInt .i64 v37 fun x_38 =>
  unnil y37 <| HC nat_Cmp.id #[.slice a_36 l_36 c_36, .slice a4 l4 c4] h33 fun v39 h40 =>
  gInt .i64 v39 fun x_41 =>
  cond (decide (x_41 ≥ 0)) (R (.slice a4 l4 c4) h40) (N2 a0 l0 c0 a_36 l_36 c_36 h40)
def D3.g (R : Rt) (N2 : Option Addr → Nat → Nat → Option Addr → Nat → Nat → Hp → Prop) (fr : Fr) (h : Hp) : Prop := gSlice (fr 0) fun a0 l0 c0 => gSlice (fr 4) fun a4 l4 c4 => D3.t R N2 a0 l0 c0 a4 l4 c4 h
theorem D3.ok (R : Rt) (N2 : Option Addr → Nat → Nat → Option Addr → Nat → Nat → Hp → Prop) (fr : Fr) (h : Hp) (g : D3.g R N2 fr h) : den prog E (cAt C [true, true, true, true, true, false, false]) (Ex.then (L2.g N2) (Ex.inBlock 0 (retQ E [.tmp 2] R))) fr h := by
  obtain ⟨a0, l0, c0, e0, g⟩ := gSlice_elim g
  obtain ⟨a4, l4, c4, e4, g⟩ := gSlice_elim g
  exact den_enter [(0, .slice a0 l0 c0), (4, .slice a4 l4 c4)] ⟨e0, e4, trivial⟩ (by kernel_rfl) g
def L2.t (R : Rt) : Nat → Option Addr → Nat → Nat → Option Addr → Nat → Nat → Hp → Prop
  | 0 => fun _ _ _ _ _ _ _ => False
  | n + 1 => fun a0 l0 c0 a4 l4 c4 h => D3.t R (L2.t R n) a0 l0 c0 a4 l4 c4 h
theorem L2.ok (R : Rt) (fr : Fr) (h : Hp) (g : L2.g (fun a0 l0 c0 a4 l4 c4 h => ∃ n, L2.t R n a0 l0 c0 a4 l4 c4 h) fr h) : den prog E (cAt C [true, true, true, true, true, false]) (Ex.inBlock 0 (retQ E [.tmp 2] R)) fr h := by
  obtain ⟨a0, l0, c0, e0, g⟩ := gSlice_elim g
  obtain ⟨a4, l4, c4, e4, g⟩ := gSlice_elim g
  obtain ⟨n, g⟩ := g
  refine loop_ok (fun n => L2.g (L2.t R n)) (b := (cAt C [true, true, true, true, true, false, false])) (by kernel_rfl) (fun fr h g => ?_) (fun n => D3.ok R (L2.t R n)) n fr h (gSlice_intro e0 (gSlice_intro e4 (g)))
  obtain ⟨a0, l0, c0, e0, g⟩ := gSlice_elim g
  obtain ⟨a4, l4, c4, e4, g⟩ := gSlice_elim g
  exact g
theorem B4.ok (R : Rt) (fr : Fr) (h : Hp) (g : L2.g (fun a0 l0 c0 a4 l4 c4 h => ∃ n, L2.t R n a0 l0 c0 a4 l4 c4 h) fr h) : den prog E (cAt C [true, true, true, true, true]) (retQ E [.tmp 2] R) fr h :=
  den_block (by kernel_rfl) (L2.ok R fr h g)
def D1.t (R : Rt) (a0 : Option Addr) (l0 : Nat) (c0 : Nat) (h : Hp) : Prop :=
  HC nat_Bits.id #[.slice a0 l0 c0] h fun v1 h2 =>
  gInt .i64 v1 fun x_3 =>
  cond (x_3 == 0) (R (.slice none 0 0) h2) (cond (decide (x_3 ≤ 64)) (HC nat_Word.id #[.int .u64 1] h2 fun v4 h5 =>
  gSlice v4 fun a_6 l_6 c_6 =>
  letK (IntKind.i64.wrap (x_3 + 1)) fun n7 =>
  (2 : Int) ≠ 0 ∧ letK (IntKind.i64.wrap (Int.tdiv n7 2)) fun n8 =>
  HC nat_Shl.id #[.slice a_6 l_6 c_6, .int .i64 n8] h5 fun v9 h10 =>
  gTup v9 fun y11 =>
  uncons y11 fun v12 y12 =>
  gSlice v12 fun a_13 l_13 c_13 =>
  uncons y12 fun v14 y14 =>
  gInt .i64 v14 fun x_15 =>
  unnil y14 <| (∃ n, L2.t R n a0 l0 c0 a_13 l_13 c_13 h10)) ((4 : Int) ≠ 0 ∧ letK (IntKind.i64.wrap (Int.tdiv x_3 4)) fun n42 =>
  letK (IntKind.i64.wrap (2 * n42)) fun n43 =>
  HC nat_Shr.id #[.slice a0 l0 c0, .int .i64 n43] h2 fun v44 h45 =>
  gTup v44 fun y46 =>
  uncons y46 fun v47 y47 =>
  gSlice v47 fun a_48 l_48 c_48 =>
  uncons y47 fun v49 y49 =>
  gInt .i64 v49 fun x_50 =>
  unnil y49 <| HC natdiv_root.id #[.slice a_48 l_48 c_48] h45 fun v51 h52 =>
  gSlice v51 fun a_53 l_53 c_53 =>
  HC nat_Word.id #[.int .u64 1] h52 fun v54 h55 =>
  gSlice v54 fun a_56 l_56 c_56 =>
  HC nat_Add.id #[.slice a_53 l_53 c_53, .slice a_56 l_56 c_56] h55 fun v57 h58 =>
  gTup v57 fun y59 =>
  uncons y59 fun v60 y60 =>
  gSlice v60 fun a_61 l_61 c_61 =>
  uncons y60 fun v62 y62 =>
  gInt .i64 v62 fun x_63 =>
  unnil y62 <| HC nat_Shl.id #[.slice a_61 l_61 c_61, .int .i64 n42] h58 fun v64 h65 =>
  gTup v64 fun y66 =>
  uncons y66 fun v67 y67 =>
  gSlice v67 fun a_68 l_68 c_68 =>
  uncons y67 fun v69 y69 =>
  gInt .i64 v69 fun x_70 =>
  unnil y69 <| (∃ n, L2.t R n a0 l0 c0 a_68 l_68 c_68 h65)))
def D1.g (R : Rt) (fr : Fr) (h : Hp) : Prop := gSlice (fr 0) fun a0 l0 c0 => D1.t R a0 l0 c0 h
theorem D1.ok (R : Rt) (fr : Fr) (h : Hp) (g : D1.g R fr h) : den prog E C (retQ E [.tmp 2] R) fr h := by
  obtain ⟨a0, l0, c0, e0, g⟩ := gSlice_elim g
  exact den_cut 5 (r := (cAt C [true, true, true, true, true])) (by kernel_rfl) (B4.ok R) (den_enter [(0, .slice a0 l0 c0)] ⟨e0, trivial⟩ (by kernel_rfl) g)
def t (a0 : Option Addr) (l0 : Nat) (c0 : Nat) (h : Hp) (R : Rt) : Prop := D1.t R a0 l0 c0 h
theorem ok {a0 : Option Addr} {l0 : Nat} {c0 : Nat} {h : Hp} {R : Rt} (g : t a0 l0 c0 h R) : HC id #[.slice a0 l0 c0] h R :=
  calls_of_den' envOk (c := C) (rs := [.tmp 2]) Tryd.func56 (by kernel_rfl) (by kernel_rfl) (by kernel_rfl) (args := [.slice a0 l0 c0]) (by kernel_rfl) (D1.ok R _ h (gSlice_intro rfl (g)))
end natdiv_root

namespace nat_Sub
noncomputable def C : Code := bodyOf Tryd.f57
def D3.t (R : Rt) (a6 : Option Addr) (l6 : Nat) (c6 : Nat) (h : Hp) : Prop :=
  HC nat_told.id #[.slice a6 l6 c6] h fun v12 h13 =>
  gTup v12 fun y14 =>
  uncons y14 fun v15 y15 =>
  gSlice v15 fun a_16 l_16 c_16 =>
  uncons y15 fun v17 y17 =>
  gInt .i64 v17 fun x_18 =>
  unnil y17 <| R (.tuple #[.slice a_16 l_16 c_16, .int .i64 x_18]) h13
def D3.g (R : Rt) (fr : Fr) (h : Hp) : Prop := gSlice (fr 6) fun a6 l6 c6 => D3.t R a6 l6 c6 h
theorem D3.ok (R : Rt) (fr : Fr) (h : Hp) (g : D3.g R fr h) : den prog E (cAt C [true, true, true, true, true, true]) (retQ E [.tmp 4, .tmp 5] R) fr h := by
  obtain ⟨a6, l6, c6, e6, g⟩ := gSlice_elim g
  exact den_enter [(6, .slice a6 l6 c6)] ⟨e6, trivial⟩ (by kernel_rfl) g
def L5.g (N : Option Addr → Nat → Nat → Option Addr → Nat → Nat → Option Addr → Nat → Nat → Int → Int → Int → Hp → Prop) (fr : Fr) (h : Hp) : Prop := gSlice (fr 0) fun a0 l0 c0 => gSlice (fr 1) fun a1 l1 c1 => gSlice (fr 6) fun a6 l6 c6 => gInt .u64 (fr 7) fun x7 => gInt .i64 (fr 26) fun x26 => gInt .i64 (fr 27) fun x27 => N a0 l0 c0 a1 l1 c1 a6 l6 c6 x7 x26 x27 h
def D6.t (R : Rt) (N5 : Option Addr → Nat → Nat → Option Addr → Nat → Nat → Option Addr → Nat → Nat → Int → Int → Int → Hp → Prop) (a0 : Option Addr) (l0 : Nat) (c0 : Nat) (a1 : Option Addr) (l1 : Nat) (c1 : Nat) (a6 : Option Addr) (l6 : Nat) (c6 : Nat) (x7 : Int) (x26 : Int) (x27 : Int) (h : Hp) : Prop :=
  cond (decide (x27 < x26)) (cond (decide (x27 < (((l1 : Nat) : Int)))) (idxK a1 l1 x27 1 fun q19 =>
  ldK h q19 fun v20 =>
  gInt .u64 v20 fun x_21 =>
  idxK a0 l0 x27 1 fun q22 =>
  ldK h q22 fun v23 =>
  gInt .u64 v23 fun x_24 =>
  subK x_24 x_21 x7 fun n25 m25 =>
  idxK a6 l6 x27 1 fun q26 =>
  stK h q26 (.int .u64 n25) fun h27 =>
  letK (IntKind.i64.wrap (x27 + 1)) fun n28 =>
  N5 a0 l0 c0 a1 l1 c1 a6 l6 c6 m25 x26 n28 h27) (idxK a0 l0 x27 1 fun q29 =>
  ldK h q29 fun v30 =>
  gInt .u64 v30 fun x_31 =>
  subK x_31 0 x7 fun n32 m32 =>
  idxK a6 l6 x27 1 fun q33 =>
  stK h q33 (.int .u64 n32) fun h34 =>
  letK (IntKind.i64.wrap (x27 + 1)) fun n35 =>
  N5 a0 l0 c0 a1 l1 c1 a6 l6 c6 m32 x26 n35 h34)) (D3.t R a6 l6 c6 h)
def D6.g (R : Rt) (N5 : Option Addr → Nat → Nat → Option Addr → Nat → Nat → Option Addr → Nat → Nat → Int → Int → Int → Hp → Prop) (fr : Fr) (h : Hp) : Prop := gSlice (fr 0) fun a0 l0 c0 => gSlice (fr 1) fun a1 l1 c1 => gSlice (fr 6) fun a6 l6 c6 => gInt .u64 (fr 7) fun x7 => gInt .i64 (fr 26) fun x26 => gInt .i64 (fr 27) fun x27 => D6.t R N5 a0 l0 c0 a1 l1 c1 a6 l6 c6 x7 x26 x27 h
theorem D6.ok (R : Rt) (N5 : Option Addr → Nat → Nat → Option Addr → Nat → Nat → Option Addr → Nat → Nat → Int → Int → Int → Hp → Prop) (fr : Fr) (h : Hp) (g : D6.g R N5 fr h) : den prog E (cAt C [true, true, true, true, true, false, true, false, false]) (Ex.then (L5.g N5) (Ex.inBlock 0 (Ex.then (D3.g R) (retQ E [.tmp 4, .tmp 5] R)))) fr h := by
  obtain ⟨a0, l0, c0, e0, g⟩ := gSlice_elim g
  obtain ⟨a1, l1, c1, e1, g⟩ := gSlice_elim g
  obtain ⟨a6, l6, c6, e6, g⟩ := gSlice_elim g
  obtain ⟨x7, e7, g⟩ := gInt_elim g
  obtain ⟨x26, e26, g⟩ := gInt_elim g
  obtain ⟨x27, e27, g⟩ := gInt_elim g
  exact den_enter [(0, .slice a0 l0 c0), (1, .slice a1 l1 c1), (6, .slice a6 l6 c6), (7, .int .u64 x7), (26, .int .i64 x26), (27, .int .i64 x27)] ⟨e0, e1, e6, e7, e26, e27, trivial⟩ (by kernel_rfl) g
def L5.t (R : Rt) : Nat → Option Addr → Nat → Nat → Option Addr → Nat → Nat → Option Addr → Nat → Nat → Int → Int → Int → Hp → Prop
  | 0 => fun _ _ _ _ _ _ _ _ _ _ _ _ _ => False
  | n + 1 => fun a0 l0 c0 a1 l1 c1 a6 l6 c6 x7 x26 x27 h => D6.t R (L5.t R n) a0 l0 c0 a1 l1 c1 a6 l6 c6 x7 x26 x27 h
theorem L5.ok (R : Rt) (fr : Fr) (h : Hp) (g : L5.g (fun a0 l0 c0 a1 l1 c1 a6 l6 c6 x7 x26 x27 h => ∃ n, L5.t R n a0 l0 c0 a1 l1 c1 a6 l6 c6 x7 x26 x27 h) fr h) : den prog E (cAt C [true, true, true, true, true, false, true, false]) (Ex.inBlock 0 (Ex.then (D3.g R) (retQ E [.tmp 4, .tmp 5] R))) fr h := by
  obtain ⟨a0, l0, c0, e0, g⟩ := gSlice_elim g
  obtain ⟨a1, l1, c1, e1, g⟩ := gSlice_elim g
  obtain ⟨a6, l6, c6, e6, g⟩ := gSlice_elim g
  obtain ⟨x7, e7, g⟩ := gInt_elim g
  obtain ⟨x26, e26, g⟩ := gInt_elim g
  obtain ⟨x27, e27, g⟩ := gInt_elim g
  obtain ⟨n, g⟩ := g
  refine loop_ok (fun n => L5.g (L5.t R n)) (b := (cAt C [true, true, true, true, true, false, true, false, false])) (by kernel_rfl) (fun fr h g => ?_) (fun n => D6.ok R (L5.t R n)) n fr h (gSlice_intro e0 (gSlice_intro e1 (gSlice_intro e6 (gInt_intro e7 (gInt_intro e26 (gInt_intro e27 (g)))))))
  obtain ⟨a0, l0, c0, e0, g⟩ := gSlice_elim g
  obtain ⟨a1, l1, c1, e1, g⟩ := gSlice_elim g
  obtain ⟨a6, l6, c6, e6, g⟩ := gSlice_elim g
  obtain ⟨x7, e7, g⟩ := gInt_elim g
  obtain ⟨x26, e26, g⟩ := gInt_elim g
  obtain ⟨x27, e27, g⟩ := gInt_elim g
  exact g
theorem B7.ok (R : Rt) (fr : Fr) (h : Hp) (g : L5.g (fun a0 l0 c0 a1 l1 c1 a6 l6 c6 x7 x26 x27 h => ∃ n, L5.t R n a0 l0 c0 a1 l1 c1 a6 l6 c6 x7 x26 x27 h) fr h) : den prog E (cAt C [true, true, true, true, true, false, true]) (Ex.then (D3.g R) (retQ E [.tmp 4, .tmp 5] R)) fr h :=
  den_block (by kernel_rfl) (L5.ok R fr h g)
def D4.t (R : Rt) (a0 : Option Addr) (l0 : Nat) (c0 : Nat) (a1 : Option Addr) (l1 : Nat) (c1 : Nat) (a6 : Option Addr) (l6 : Nat) (c6 : Nat) (x7 : Int) (h : Hp) : Prop :=
  (∃ n, L5.t R n a0 l0 c0 a1 l1 c1 a6 l6 c6 x7 (((l0 : Nat) : Int)) 0 h)
def D4.g (R : Rt) (fr : Fr) (h : Hp) : Prop := gSlice (fr 0) fun a0 l0 c0 => gSlice (fr 1) fun a1 l1 c1 => gSlice (fr 6) fun a6 l6 c6 => gInt .u64 (fr 7) fun x7 => D4.t R a0 l0 c0 a1 l1 c1 a6 l6 c6 x7 h
theorem D4.ok (R : Rt) (fr : Fr) (h : Hp) (g : D4.g R fr h) : den prog E (cAt C [true, true, true, true, true, false]) (Ex.then (D3.g R) (retQ E [.tmp 4, .tmp 5] R)) fr h := by
  obtain ⟨a0, l0, c0, e0, g⟩ := gSlice_elim g
  obtain ⟨a1, l1, c1, e1, g⟩ := gSlice_elim g
  obtain ⟨a6, l6, c6, e6, g⟩ := gSlice_elim g
  obtain ⟨x7, e7, g⟩ := gInt_elim g
  exact den_cut 1 (r := (cAt C [true, true, true, true, true, false, true])) (by kernel_rfl) (B7.ok R) (den_enter [(0, .slice a0 l0 c0), (1, .slice a1 l1 c1), (6, .slice a6 l6 c6), (7, .int .u64 x7)] ⟨e0, e1, e6, e7, trivial⟩ (by kernel_rfl) g)
theorem W8.ok (R : Rt) (fr : Fr) (h : Hp) (g : D4.g R fr h) : den prog E (cAt C [true, true, true, true, true]) (retQ E [.tmp 4, .tmp 5] R) fr h :=
  den_then (by kernel_rfl) (D3.ok R) (D4.ok R fr h g)
def D2.t (R : Rt) (a0 : Option Addr) (l0 : Nat) (c0 : Nat) (a1 : Option Addr) (l1 : Nat) (c1 : Nat) (h : Hp) : Prop :=
  HC nat_Cmp.id #[.slice a0 l0 c0, .slice a1 l1 c1] h fun v7 h8 =>
  gInt .i64 v7 fun x_9 =>
  cond (decide (x_9 < 0)) (R (.tuple #[.slice none 0 0, .int .i64 3]) h8) (mkK h8 28 T28 (((l0 : Nat) : Int)) (((l0 : Nat) : Int)) fun q10 h11 =>
  D4.t R a0 l0 c0 a1 l1 c1 (some q10) ((((l0 : Nat) : Int)).toNat) ((((l0 : Nat) : Int)).toNat) 0 h11)
def D2.g (R : Rt) (fr : Fr) (h : Hp) : Prop := gSlice (fr 0) fun a0 l0 c0 => gSlice (fr 1) fun a1 l1 c1 => D2.t R a0 l0 c0 a1 l1 c1 h
theorem D2.ok (R : Rt) (fr : Fr) (h : Hp) (g : D2.g R fr h) : den prog E (cAt C [true, true]) (retQ E [.tmp 4, .tmp 5] R) fr h := by
  obtain ⟨a0, l0, c0, e0, g⟩ := gSlice_elim g
  obtain ⟨a1, l1, c1, e1, g⟩ := gSlice_elim g
  exact den_cut 3 (r := (cAt C [true, true, true, true, true])) (by kernel_rfl) (W8.ok R) (den_enter [(0, .slice a0 l0 c0), (1, .slice a1 l1 c1)] ⟨e0, e1, trivial⟩ (by kernel_rfl) g)
def D1.t (R : Rt) (a0 : Option Addr) (l0 : Nat) (c0 : Nat) (a1 : Option Addr) (l1 : Nat) (c1 : Nat) (h : Hp) : Prop :=
  HC nat_Form.id #[.slice a0 l0 c0] h fun v1 h2 =>
  gBool v1 fun b_3 =>
  cond (!b_3) (R (.tuple #[.slice none 0 0, .int .i64 2]) h2) (HC nat_Form.id #[.slice a1 l1 c1] h2 fun v4 h5 =>
  gBool v4 fun b_6 =>
  cond (!b_6) (R (.tuple #[.slice none 0 0, .int .i64 2]) h5) (D2.t R a0 l0 c0 a1 l1 c1 h5))
def D1.g (R : Rt) (fr : Fr) (h : Hp) : Prop := gSlice (fr 0) fun a0 l0 c0 => gSlice (fr 1) fun a1 l1 c1 => D1.t R a0 l0 c0 a1 l1 c1 h
theorem D1.ok (R : Rt) (fr : Fr) (h : Hp) (g : D1.g R fr h) : den prog E C (retQ E [.tmp 4, .tmp 5] R) fr h := by
  obtain ⟨a0, l0, c0, e0, g⟩ := gSlice_elim g
  obtain ⟨a1, l1, c1, e1, g⟩ := gSlice_elim g
  exact den_cut 2 (r := (cAt C [true, true])) (by kernel_rfl) (D2.ok R) (den_enter [(0, .slice a0 l0 c0), (1, .slice a1 l1 c1)] ⟨e0, e1, trivial⟩ (by kernel_rfl) g)
def t (a0 : Option Addr) (l0 : Nat) (c0 : Nat) (a1 : Option Addr) (l1 : Nat) (c1 : Nat) (h : Hp) (R : Rt) : Prop := D1.t R a0 l0 c0 a1 l1 c1 h
theorem ok {a0 : Option Addr} {l0 : Nat} {c0 : Nat} {a1 : Option Addr} {l1 : Nat} {c1 : Nat} {h : Hp} {R : Rt} (g : t a0 l0 c0 a1 l1 c1 h R) : HC id #[.slice a0 l0 c0, .slice a1 l1 c1] h R :=
  calls_of_den' envOk (c := C) (rs := [.tmp 4, .tmp 5]) Tryd.func57 (by kernel_rfl) (by kernel_rfl) (by kernel_rfl) (args := [.slice a0 l0 c0, .slice a1 l1 c1]) (by kernel_rfl) (D1.ok R _ h (gSlice_intro rfl (gSlice_intro rfl (g))))
end nat_Sub

namespace bits_Mul64
noncomputable def C : Code := bodyOf Tryd.f58
def D1.t (R : Rt) (x0 : Int) (x1 : Int) (h : Hp) : Prop :=
  letK (andI .u64 x0 4294967295) fun n1 =>
  0 ≤ (32 : Int) ∧ letK (shrI .u64 x0 32) fun n2 =>
  letK (andI .u64 x1 4294967295) fun n3 =>
  0 ≤ (32 : Int) ∧ letK (shrI .u64 x1 32) fun n4 =>
  letK (IntKind.u64.wrap (n1 * n3)) fun n5 =>
  letK (IntKind.u64.wrap (n2 * n3)) fun n6 =>
  0 ≤ (32 : Int) ∧ letK (shrI .u64 n5 32) fun n7 =>
  letK (IntKind.u64.wrap (n6 + n7)) fun n8 =>
  letK (andI .u64 n8 4294967295) fun n9 =>
  0 ≤ (32 : Int) ∧ letK (shrI .u64 n8 32) fun n10 =>
  letK (IntKind.u64.wrap (n1 * n4)) fun n11 =>
  letK (IntKind.u64.wrap (n9 + n11)) fun n12 =>
  letK (IntKind.u64.wrap (n2 * n4)) fun n13 =>
  letK (IntKind.u64.wrap (n13 + n10)) fun n14 =>
  0 ≤ (32 : Int) ∧ letK (shrI .u64 n12 32) fun n15 =>
  letK (IntKind.u64.wrap (n14 + n15)) fun n16 =>
  letK (IntKind.u64.wrap (x0 * x1)) fun n17 =>
  R (.tuple #[.int .u64 n16, .int .u64 n17]) h
def D1.g (R : Rt) (fr : Fr) (h : Hp) : Prop := gInt .u64 (fr 0) fun x0 => gInt .u64 (fr 1) fun x1 => D1.t R x0 x1 h
theorem D1.ok (R : Rt) (fr : Fr) (h : Hp) (g : D1.g R fr h) : den prog E C (retQ E [.tmp 4, .tmp 5] R) fr h := by
  obtain ⟨x0, e0, g⟩ := gInt_elim g
  obtain ⟨x1, e1, g⟩ := gInt_elim g
  exact den_enter [(0, .int .u64 x0), (1, .int .u64 x1)] ⟨e0, e1, trivial⟩ (by kernel_rfl) g
def t (x0 : Int) (x1 : Int) (h : Hp) (R : Rt) : Prop := D1.t R x0 x1 h
theorem ok {x0 : Int} {x1 : Int} {h : Hp} {R : Rt} (g : t x0 x1 h R) : HC id #[.int .u64 x0, .int .u64 x1] h R :=
  calls_of_den' envOk (c := C) (rs := [.tmp 4, .tmp 5]) Tryd.func58 (by kernel_rfl) (by kernel_rfl) (by kernel_rfl) (args := [.int .u64 x0, .int .u64 x1]) (by kernel_rfl) (D1.ok R _ h (gInt_intro rfl (gInt_intro rfl (g))))
end bits_Mul64



namespace num_way_div
noncomputable def C : Code := bodyOf Tryd.f62
def D2.t (R : Rt) (x0 : Int) (q4 : Addr) (q5 : Addr) (q6 : Addr) (h : Hp) : Prop :=
  ldK h (q5.add 1) fun v33 =>
  gSlice v33 fun a_34 l_34 c_34 =>
  cond ((((l_34 : Nat) : Int)) == 0) (stK h (q6.add 0) (.bool false) fun h35 =>
  stK h35 (q6.add 1) (.slice none 0 0) fun h36 =>
  ldK h36 (q6.add 0) fun v37 =>
  gBool v37 fun b_38 =>
  ldK h36 (q6.add 1) fun v39 =>
  gSlice v39 fun a_40 l_40 c_40 =>
  R (.tuple #[.agg #[.bool b_38, .slice a_40 l_40 c_40], .int .i64 4]) h36) (ldK h (q4.add 1) fun v41 =>
  gSlice v41 fun a_42 l_42 c_42 =>
  ldK h (q5.add 1) fun v43 =>
  gSlice v43 fun a_44 l_44 c_44 =>
  HC natdiv_QuoRem.id #[.slice a_42 l_42 c_42, .slice a_44 l_44 c_44] h fun v45 h46 =>
  gTup v45 fun y47 =>
  uncons y47 fun v48 y48 =>
  gSlice v48 fun a_49 l_49 c_49 =>
  uncons y48 fun v50 y50 =>
  gSlice v50 fun a_51 l_51 c_51 =>
  uncons y50 fun v52 y52 =>
  gInt .i64 v52 fun x_53 =>
  unnil y52 <| cond (x_53 != 0) (stK h46 (q6.add 0) (.bool false) fun h54 =>
  stK h54 (q6.add 1) (.slice none 0 0) fun h55 =>
  ldK h55 (q6.add 0) fun v56 =>
  gBool v56 fun b_57 =>
  ldK h55 (q6.add 1) fun v58 =>
  gSlice v58 fun a_59 l_59 c_59 =>
  R (.tuple #[.agg #[.bool b_57, .slice a_59 l_59 c_59], .int .i64 x_53]) h55) (ldK h46 (q5.add 1) fun v60 =>
  gSlice v60 fun a_61 l_61 c_61 =>
  HC nat_Sub.id #[.slice a_61 l_61 c_61, .slice a_51 l_51 c_51] h46 fun v62 h63 =>
  gTup v62 fun y64 =>
  uncons y64 fun v65 y65 =>
  gSlice v65 fun a_66 l_66 c_66 =>
  uncons y65 fun v67 y67 =>
  gInt .i64 v67 fun x_68 =>
  unnil y67 <| cond (x_68 != 0) (stK h63 (q6.add 0) (.bool false) fun h69 =>
  stK h69 (q6.add 1) (.slice none 0 0) fun h70 =>
  ldK h70 (q6.add 0) fun v71 =>
  gBool v71 fun b_72 =>
  ldK h70 (q6.add 1) fun v73 =>
  gSlice v73 fun a_74 l_74 c_74 =>
  R (.tuple #[.agg #[.bool b_72, .slice a_74 l_74 c_74], .int .i64 x_68]) h70) ((q4.add 0).block < h63.size ∧ ldK h63 (q4.add 0) fun v75 =>
  gBool v75 fun b_76 =>
  (q5.add 0).block < h63.size ∧ ldK h63 (q5.add 0) fun v77 =>
  gBool v77 fun b_78 =>
  HC nat_Cmp.id #[.slice a_51 l_51 c_51, .slice a_66 l_66 c_66] h63 fun v79 h80 =>
  gInt .i64 v79 fun x_81 =>
  (Pre h63.size h63 h80) ∧ HC num_way_made.id #[.int .i64 x0, .bool (!(b_76 == b_78)), .slice a_49 l_49 c_49, .bool (decide ((((l_51 : Nat) : Int)) > 0)), .int .i64 x_81] h80 fun v82 h83 =>
  gTup v82 fun y84 =>
  uncons y84 fun v85 y85 =>
  gAgg v85 fun y86 =>
  uncons y86 fun v87 y87 =>
  gBool v87 fun b_88 =>
  uncons y87 fun v89 y89 =>
  gSlice v89 fun a_90 l_90 c_90 =>
  unnil y89 <| uncons y85 fun v91 y91 =>
  gInt .i64 v91 fun x_92 =>
  unnil y91 <| (Pre h63.size h80 h83) ∧ stK h83 (q6.add 0) (.bool b_88) fun h93 =>
  stK h93 (q6.add 1) (.slice a_90 l_90 c_90) fun h94 =>
  ldK h94 (q6.add 0) fun v95 =>
  gBool v95 fun b_96 =>
  ldK h94 (q6.add 1) fun v97 =>
  gSlice v97 fun a_98 l_98 c_98 =>
  R (.tuple #[.agg #[.bool b_96, .slice a_98 l_98 c_98], .int .i64 x_92]) h94)))
def D2.g (R : Rt) (fr : Fr) (h : Hp) : Prop := gInt .i64 (fr 0) fun x0 => gPtrS (fr 4) fun q4 => gPtrS (fr 5) fun q5 => gPtrS (fr 6) fun q6 => D2.t R x0 q4 q5 q6 h
theorem D2.ok (R : Rt) (fr : Fr) (h : Hp) (g : D2.g R fr h) : den prog E (cAt C [true, true]) (retQ E [.cell 6 33, .tmp 7] R) fr h := by
  obtain ⟨x0, e0, g⟩ := gInt_elim g
  obtain ⟨q4, e4, g⟩ := gPtrS_elim g
  obtain ⟨q5, e5, g⟩ := gPtrS_elim g
  obtain ⟨q6, e6, g⟩ := gPtrS_elim g
  exact den_enter [(0, .int .i64 x0), (4, .pointer (some q4)), (5, .pointer (some q5)), (6, .pointer (some q6))] ⟨e0, e4, e5, e6, trivial⟩ (by kernel_rfl) g
def D1.t (R : Rt) (x0 : Int) (b1_0 : Bool) (a1_1 : Option Addr) (l1_1 : Nat) (c1_1 : Nat) (b2_0 : Bool) (a2_1 : Option Addr) (l2_1 : Nat) (c2_1 : Nat) (h : Hp) : Prop :=
  boxK h 33 [.bool b1_0, .slice a1_1 l1_1 c1_1] fun q1 h2 =>
  boxK h2 33 [.bool b2_0, .slice a2_1 l2_1 c2_1] fun q3 h4 =>
  boxK h4 33 T33.zs fun q5 h6 =>
  ldK h6 (q1.add 0) fun v7 =>
  gBool v7 fun b_8 =>
  ldK h6 (q1.add 1) fun v9 =>
  gSlice v9 fun a_10 l_10 c_10 =>
  HC num_Form.id #[.agg #[.bool b_8, .slice a_10 l_10 c_10]] h6 fun v11 h12 =>
  gBool v11 fun b_13 =>
  cond (!b_13) (stK h12 (q5.add 0) (.bool false) fun h14 =>
  stK h14 (q5.add 1) (.slice none 0 0) fun h15 =>
  ldK h15 (q5.add 0) fun v16 =>
  gBool v16 fun b_17 =>
  ldK h15 (q5.add 1) fun v18 =>
  gSlice v18 fun a_19 l_19 c_19 =>
  R (.tuple #[.agg #[.bool b_17, .slice a_19 l_19 c_19], .int .i64 2]) h15) (ldK h12 (q3.add 0) fun v20 =>
  gBool v20 fun b_21 =>
  ldK h12 (q3.add 1) fun v22 =>
  gSlice v22 fun a_23 l_23 c_23 =>
  HC num_Form.id #[.agg #[.bool b_21, .slice a_23 l_23 c_23]] h12 fun v24 h25 =>
  gBool v24 fun b_26 =>
  cond (!b_26) (stK h25 (q5.add 0) (.bool false) fun h27 =>
  stK h27 (q5.add 1) (.slice none 0 0) fun h28 =>
  ldK h28 (q5.add 0) fun v29 =>
  gBool v29 fun b_30 =>
  ldK h28 (q5.add 1) fun v31 =>
  gSlice v31 fun a_32 l_32 c_32 =>
  R (.tuple #[.agg #[.bool b_30, .slice a_32 l_32 c_32], .int .i64 2]) h28) (D2.t R x0 q1 q3 q5 h25))
def D1.g (R : Rt) (fr : Fr) (h : Hp) : Prop := gInt .i64 (fr 0) fun x0 => gAgg (fr 1) fun z1 => uncons z1 fun w1_0 z1_0 => gBool w1_0 fun b1_0 => uncons z1_0 fun w1_1 z1_1 => gSlice w1_1 fun a1_1 l1_1 c1_1 => unnil z1_1 <| gAgg (fr 2) fun z2 => uncons z2 fun w2_0 z2_0 => gBool w2_0 fun b2_0 => uncons z2_0 fun w2_1 z2_1 => gSlice w2_1 fun a2_1 l2_1 c2_1 => unnil z2_1 <| D1.t R x0 b1_0 a1_1 l1_1 c1_1 b2_0 a2_1 l2_1 c2_1 h
theorem D1.ok (R : Rt) (fr : Fr) (h : Hp) (g : D1.g R fr h) : den prog E C (retQ E [.cell 6 33, .tmp 7] R) fr h := by
  obtain ⟨x0, e0, g⟩ := gInt_elim g
  obtain ⟨z1, e1, g1_0⟩ := gAgg_elim' g
  obtain ⟨w1_0, z1_0, rfl, g1_0x⟩ := uncons_elim g1_0
  obtain ⟨b1_0, rfl, g1_1⟩ := gBool_elim g1_0x
  obtain ⟨w1_1, z1_1, rfl, g1_1x⟩ := uncons_elim g1_1
  obtain ⟨a1_1, l1_1, c1_1, rfl, g1_2⟩ := gSlice_elim g1_1x
  obtain ⟨rfl, g⟩ := unnil_elim g1_2
  obtain ⟨z2, e2, g2_0⟩ := gAgg_elim' g
  obtain ⟨w2_0, z2_0, rfl, g2_0x⟩ := uncons_elim g2_0
  obtain ⟨b2_0, rfl, g2_1⟩ := gBool_elim g2_0x
  obtain ⟨w2_1, z2_1, rfl, g2_1x⟩ := uncons_elim g2_1
  obtain ⟨a2_1, l2_1, c2_1, rfl, g2_2⟩ := gSlice_elim g2_1x
  obtain ⟨rfl, g⟩ := unnil_elim g2_2
  exact den_cut 2 (r := (cAt C [true, true])) (by kernel_rfl) (D2.ok R) (den_enter [(0, .int .i64 x0), (1, .agg #[.bool b1_0, .slice a1_1 l1_1 c1_1]), (2, .agg #[.bool b2_0, .slice a2_1 l2_1 c2_1])] ⟨e0, e1, e2, trivial⟩ (by kernel_rfl) g)
def t (x0 : Int) (b1_0 : Bool) (a1_1 : Option Addr) (l1_1 : Nat) (c1_1 : Nat) (b2_0 : Bool) (a2_1 : Option Addr) (l2_1 : Nat) (c2_1 : Nat) (h : Hp) (R : Rt) : Prop := D1.t R x0 b1_0 a1_1 l1_1 c1_1 b2_0 a2_1 l2_1 c2_1 h
theorem ok {x0 : Int} {b1_0 : Bool} {a1_1 : Option Addr} {l1_1 : Nat} {c1_1 : Nat} {b2_0 : Bool} {a2_1 : Option Addr} {l2_1 : Nat} {c2_1 : Nat} {h : Hp} {R : Rt} (g : t x0 b1_0 a1_1 l1_1 c1_1 b2_0 a2_1 l2_1 c2_1 h R) : HC id #[.int .i64 x0, .agg #[.bool b1_0, .slice a1_1 l1_1 c1_1], .agg #[.bool b2_0, .slice a2_1 l2_1 c2_1]] h R :=
  calls_of_den' envOk (c := C) (rs := [.cell 6 33, .tmp 7]) Tryd.func62 (by kernel_rfl) (by kernel_rfl) (by kernel_rfl) (args := [.int .i64 x0, .agg #[.bool b1_0, .slice a1_1 l1_1 c1_1], .agg #[.bool b2_0, .slice a2_1 l2_1 c2_1]]) (by kernel_rfl) (D1.ok R _ h (gInt_intro rfl (gAgg_intro rfl (uncons_intro (gBool_intro rfl (uncons_intro (gSlice_intro rfl (unnil_intro (gAgg_intro rfl (uncons_intro (gBool_intro rfl (uncons_intro (gSlice_intro rfl (unnil_intro (g)))))))))))))))
end num_way_div

namespace num_Form
noncomputable def C : Code := bodyOf Tryd.f63
def D1.t (R : Rt) (b0_0 : Bool) (a0_1 : Option Addr) (l0_1 : Nat) (c0_1 : Nat) (h : Hp) : Prop :=
  boxK h 33 [.bool b0_0, .slice a0_1 l0_1 c0_1] fun q1 h2 =>
  ldK h2 (q1.add 1) fun v3 =>
  gSlice v3 fun a_4 l_4 c_4 =>
  HC nat_Form.id #[.slice a_4 l_4 c_4] h2 fun v5 h6 =>
  gBool v5 fun b_7 =>
  cond b_7 (ldK h6 (q1.add 0) fun v8 =>
  gBool v8 fun b_9 =>
  cond b_9 (ldK h6 (q1.add 1) fun v10 =>
  gSlice v10 fun a_11 l_11 c_11 =>
  R (.bool (!((((l_11 : Nat) : Int)) == 0))) h6) (R (.bool (!false)) h6)) (R (.bool false) h6)
def D1.g (R : Rt) (fr : Fr) (h : Hp) : Prop := gAgg (fr 0) fun z0 => uncons z0 fun w0_0 z0_0 => gBool w0_0 fun b0_0 => uncons z0_0 fun w0_1 z0_1 => gSlice w0_1 fun a0_1 l0_1 c0_1 => unnil z0_1 <| D1.t R b0_0 a0_1 l0_1 c0_1 h
theorem D1.ok (R : Rt) (fr : Fr) (h : Hp) (g : D1.g R fr h) : den prog E C (retQ E [.tmp 2] R) fr h := by
  obtain ⟨z0, e0, g0_0⟩ := gAgg_elim' g
  obtain ⟨w0_0, z0_0, rfl, g0_0x⟩ := uncons_elim g0_0
  obtain ⟨b0_0, rfl, g0_1⟩ := gBool_elim g0_0x
  obtain ⟨w0_1, z0_1, rfl, g0_1x⟩ := uncons_elim g0_1
  obtain ⟨a0_1, l0_1, c0_1, rfl, g0_2⟩ := gSlice_elim g0_1x
  obtain ⟨rfl, g⟩ := unnil_elim g0_2
  exact den_enter [(0, .agg #[.bool b0_0, .slice a0_1 l0_1 c0_1])] ⟨e0, trivial⟩ (by kernel_rfl) g
def t (b0_0 : Bool) (a0_1 : Option Addr) (l0_1 : Nat) (c0_1 : Nat) (h : Hp) (R : Rt) : Prop := D1.t R b0_0 a0_1 l0_1 c0_1 h
theorem ok {b0_0 : Bool} {a0_1 : Option Addr} {l0_1 : Nat} {c0_1 : Nat} {h : Hp} {R : Rt} (g : t b0_0 a0_1 l0_1 c0_1 h R) : HC id #[.agg #[.bool b0_0, .slice a0_1 l0_1 c0_1]] h R :=
  calls_of_den' envOk (c := C) (rs := [.tmp 2]) Tryd.func63 (by kernel_rfl) (by kernel_rfl) (by kernel_rfl) (args := [.agg #[.bool b0_0, .slice a0_1 l0_1 c0_1]]) (by kernel_rfl) (D1.ok R _ h (gAgg_intro rfl (uncons_intro (gBool_intro rfl (uncons_intro (gSlice_intro rfl (unnil_intro (g))))))))
end num_Form

namespace num_told
noncomputable def C : Code := bodyOf Tryd.f64
def D1.t (R : Rt) (b0 : Bool) (a1 : Option Addr) (l1 : Nat) (c1 : Nat) (x2 : Int) (h : Hp) : Prop :=
  boxK h 33 T33.zs fun q1 h2 =>
  cond (x2 != 0) (stK h2 (q1.add 0) (.bool false) fun h3 =>
  stK h3 (q1.add 1) (.slice none 0 0) fun h4 =>
  ldK h4 (q1.add 0) fun v5 =>
  gBool v5 fun b_6 =>
  ldK h4 (q1.add 1) fun v7 =>
  gSlice v7 fun a_8 l_8 c_8 =>
  R (.tuple #[.agg #[.bool b_6, .slice a_8 l_8 c_8], .int .i64 x2]) h4) (HC num_whole.id #[.bool b0, .slice a1 l1 c1] h2 fun v9 h10 =>
  gAgg v9 fun y11 =>
  uncons y11 fun v12 y12 =>
  gBool v12 fun b_13 =>
  uncons y12 fun v14 y14 =>
  gSlice v14 fun a_15 l_15 c_15 =>
  unnil y14 <| stK h10 (q1.add 0) (.bool b_13) fun h16 =>
  stK h16 (q1.add 1) (.slice a_15 l_15 c_15) fun h17 =>
  ldK h17 (q1.add 0) fun v18 =>
  gBool v18 fun b_19 =>
  ldK h17 (q1.add 1) fun v20 =>
  gSlice v20 fun a_21 l_21 c_21 =>
  R (.tuple #[.agg #[.bool b_19, .slice a_21 l_21 c_21], .int .i64 0]) h17)
def D1.g (R : Rt) (fr : Fr) (h : Hp) : Prop := gBool (fr 0) fun b0 => gSlice (fr 1) fun a1 l1 c1 => gInt .i64 (fr 2) fun x2 => D1.t R b0 a1 l1 c1 x2 h
theorem D1.ok (R : Rt) (fr : Fr) (h : Hp) (g : D1.g R fr h) : den prog E C (retQ E [.cell 6 33, .tmp 7] R) fr h := by
  obtain ⟨b0, e0, g⟩ := gBool_elim g
  obtain ⟨a1, l1, c1, e1, g⟩ := gSlice_elim g
  obtain ⟨x2, e2, g⟩ := gInt_elim g
  exact den_enter [(0, .bool b0), (1, .slice a1 l1 c1), (2, .int .i64 x2)] ⟨e0, e1, e2, trivial⟩ (by kernel_rfl) g
def t (b0 : Bool) (a1 : Option Addr) (l1 : Nat) (c1 : Nat) (x2 : Int) (h : Hp) (R : Rt) : Prop := D1.t R b0 a1 l1 c1 x2 h
theorem ok {b0 : Bool} {a1 : Option Addr} {l1 : Nat} {c1 : Nat} {x2 : Int} {h : Hp} {R : Rt} (g : t b0 a1 l1 c1 x2 h R) : HC id #[.bool b0, .slice a1 l1 c1, .int .i64 x2] h R :=
  calls_of_den' envOk (c := C) (rs := [.cell 6 33, .tmp 7]) Tryd.func64 (by kernel_rfl) (by kernel_rfl) (by kernel_rfl) (args := [.bool b0, .slice a1 l1 c1, .int .i64 x2]) (by kernel_rfl) (D1.ok R _ h (gBool_intro rfl (gSlice_intro rfl (gInt_intro rfl (g)))))
end num_told

namespace num_whole
noncomputable def C : Code := bodyOf Tryd.f65
def D1.t (R : Rt) (b0 : Bool) (a1 : Option Addr) (l1 : Nat) (c1 : Nat) (h : Hp) : Prop :=
  boxK h 33 T33.zs fun q1 h2 =>
  cond b0 (stK h2 (q1.add 0) (.bool (decide ((((l1 : Nat) : Int)) > 0))) fun h3 =>
  stK h3 (q1.add 1) (.slice a1 l1 c1) fun h4 =>
  ldK h4 (q1.add 0) fun v5 =>
  gBool v5 fun b_6 =>
  ldK h4 (q1.add 1) fun v7 =>
  gSlice v7 fun a_8 l_8 c_8 =>
  R (.agg #[.bool b_6, .slice a_8 l_8 c_8]) h4) (stK h2 (q1.add 0) (.bool false) fun h9 =>
  stK h9 (q1.add 1) (.slice a1 l1 c1) fun h10 =>
  ldK h10 (q1.add 0) fun v11 =>
  gBool v11 fun b_12 =>
  ldK h10 (q1.add 1) fun v13 =>
  gSlice v13 fun a_14 l_14 c_14 =>
  R (.agg #[.bool b_12, .slice a_14 l_14 c_14]) h10)
def D1.g (R : Rt) (fr : Fr) (h : Hp) : Prop := gBool (fr 0) fun b0 => gSlice (fr 1) fun a1 l1 c1 => D1.t R b0 a1 l1 c1 h
theorem D1.ok (R : Rt) (fr : Fr) (h : Hp) (g : D1.g R fr h) : den prog E C (retQ E [.cell 4 33] R) fr h := by
  obtain ⟨b0, e0, g⟩ := gBool_elim g
  obtain ⟨a1, l1, c1, e1, g⟩ := gSlice_elim g
  exact den_enter [(0, .bool b0), (1, .slice a1 l1 c1)] ⟨e0, e1, trivial⟩ (by kernel_rfl) g
def t (b0 : Bool) (a1 : Option Addr) (l1 : Nat) (c1 : Nat) (h : Hp) (R : Rt) : Prop := D1.t R b0 a1 l1 c1 h
theorem ok {b0 : Bool} {a1 : Option Addr} {l1 : Nat} {c1 : Nat} {h : Hp} {R : Rt} (g : t b0 a1 l1 c1 h R) : HC id #[.bool b0, .slice a1 l1 c1] h R :=
  calls_of_den' envOk (c := C) (rs := [.cell 4 33]) Tryd.func65 (by kernel_rfl) (by kernel_rfl) (by kernel_rfl) (args := [.bool b0, .slice a1 l1 c1]) (by kernel_rfl) (D1.ok R _ h (gBool_intro rfl (gSlice_intro rfl (g))))
end num_whole

namespace nat_Shl
noncomputable def C : Code := bodyOf Tryd.f66
def D2.t (R : Rt) (a8 : Option Addr) (l8 : Nat) (c8 : Nat) (h : Hp) : Prop :=
  HC nat_told.id #[.slice a8 l8 c8] h fun v14 h15 =>
  gTup v14 fun y16 =>
  uncons y16 fun v17 y17 =>
  gSlice v17 fun a_18 l_18 c_18 =>
  uncons y17 fun v19 y19 =>
  gInt .i64 v19 fun x_20 =>
  unnil y19 <| R (.tuple #[.slice a_18 l_18 c_18, .int .i64 x_20]) h15
def D2.g (R : Rt) (fr : Fr) (h : Hp) : Prop := gSlice (fr 8) fun a8 l8 c8 => D2.t R a8 l8 c8 h
theorem D2.ok (R : Rt) (fr : Fr) (h : Hp) (g : D2.g R fr h) : den prog E (cAt C [true, true, true, true, true, true, true, true]) (retQ E [.tmp 4, .tmp 5] R) fr h := by
  obtain ⟨a8, l8, c8, e8, g⟩ := gSlice_elim g
  exact den_enter [(8, .slice a8 l8 c8)] ⟨e8, trivial⟩ (by kernel_rfl) g
def L4.g (N : Option Addr → Nat → Nat → Int → Int → Option Addr → Nat → Nat → Int → Int → Hp → Prop) (fr : Fr) (h : Hp) : Prop := gSlice (fr 0) fun a0 l0 c0 => gInt .i64 (fr 6) fun x6 => gInt .i64 (fr 7) fun x7 => gSlice (fr 8) fun a8 l8 c8 => gInt .i64 (fr 34) fun x34 => gInt .i64 (fr 35) fun x35 => N a0 l0 c0 x6 x7 a8 l8 c8 x34 x35 h
def D5.t (R : Rt) (N4 : Option Addr → Nat → Nat → Int → Int → Option Addr → Nat → Nat → Int → Int → Hp → Prop) (a0 : Option Addr) (l0 : Nat) (c0 : Nat) (x6 : Int) (x7 : Int) (a8 : Option Addr) (l8 : Nat) (c8 : Nat) (x34 : Int) (x35 : Int) (h : Hp) : Prop :=
  cond (decide (x35 < x34)) (letK (IntKind.i64.wrap (x6 + x35)) fun n21 =>
  idxK a8 l8 n21 1 fun q22 =>
  ldK h q22 fun v23 =>
  gInt .u64 v23 fun x_24 =>
  idxK a0 l0 x35 1 fun q25 =>
  ldK h q25 fun v26 =>
  gInt .u64 v26 fun x_27 =>
  0 ≤ x7 ∧ letK (shlI .u64 x_27 x7) fun n28 =>
  letK (orI .u64 x_24 n28) fun n29 =>
  idxK a8 l8 n21 1 fun q30 =>
  stK h q30 (.int .u64 n29) fun h31 =>
  letK (IntKind.i64.wrap (x6 + x35)) fun n32 =>
  letK (IntKind.i64.wrap (n32 + 1)) fun n33 =>
  idxK a0 l0 x35 1 fun q34 =>
  ldK h31 q34 fun v35 =>
  gInt .u64 v35 fun x_36 =>
  0 ≤ (1 : Int) ∧ letK (shrI .u64 x_36 1) fun n37 =>
  letK (IntKind.i64.wrap (63 - x7)) fun n38 =>
  0 ≤ n38 ∧ letK (shrI .u64 n37 n38) fun n39 =>
  idxK a8 l8 n33 1 fun q40 =>
  stK h31 q40 (.int .u64 n39) fun h41 =>
  letK (IntKind.i64.wrap (x35 + 1)) fun n42 =>
  N4 a0 l0 c0 x6 x7 a8 l8 c8 x34 n42 h41) (D2.t R a8 l8 c8 h)
def D5.g (R : Rt) (N4 : Option Addr → Nat → Nat → Int → Int → Option Addr → Nat → Nat → Int → Int → Hp → Prop) (fr : Fr) (h : Hp) : Prop := gSlice (fr 0) fun a0 l0 c0 => gInt .i64 (fr 6) fun x6 => gInt .i64 (fr 7) fun x7 => gSlice (fr 8) fun a8 l8 c8 => gInt .i64 (fr 34) fun x34 => gInt .i64 (fr 35) fun x35 => D5.t R N4 a0 l0 c0 x6 x7 a8 l8 c8 x34 x35 h
theorem D5.ok (R : Rt) (N4 : Option Addr → Nat → Nat → Int → Int → Option Addr → Nat → Nat → Int → Int → Hp → Prop) (fr : Fr) (h : Hp) (g : D5.g R N4 fr h) : den prog E (cAt C [true, true, true, true, true, true, true, false, true, false, false]) (Ex.then (L4.g N4) (Ex.inBlock 0 (Ex.then (D2.g R) (retQ E [.tmp 4, .tmp 5] R)))) fr h := by
  obtain ⟨a0, l0, c0, e0, g⟩ := gSlice_elim g
  obtain ⟨x6, e6, g⟩ := gInt_elim g
  obtain ⟨x7, e7, g⟩ := gInt_elim g
  obtain ⟨a8, l8, c8, e8, g⟩ := gSlice_elim g
  obtain ⟨x34, e34, g⟩ := gInt_elim g
  obtain ⟨x35, e35, g⟩ := gInt_elim g
  exact den_enter [(0, .slice a0 l0 c0), (6, .int .i64 x6), (7, .int .i64 x7), (8, .slice a8 l8 c8), (34, .int .i64 x34), (35, .int .i64 x35)] ⟨e0, e6, e7, e8, e34, e35, trivial⟩ (by kernel_rfl) g
def L4.t (R : Rt) : Nat → Option Addr → Nat → Nat → Int → Int → Option Addr → Nat → Nat → Int → Int → Hp → Prop
  | 0 => fun _ _ _ _ _ _ _ _ _ _ _ => False
  | n + 1 => fun a0 l0 c0 x6 x7 a8 l8 c8 x34 x35 h => D5.t R (L4.t R n) a0 l0 c0 x6 x7 a8 l8 c8 x34 x35 h
theorem L4.ok (R : Rt) (fr : Fr) (h : Hp) (g : L4.g (fun a0 l0 c0 x6 x7 a8 l8 c8 x34 x35 h => ∃ n, L4.t R n a0 l0 c0 x6 x7 a8 l8 c8 x34 x35 h) fr h) : den prog E (cAt C [true, true, true, true, true, true, true, false, true, false]) (Ex.inBlock 0 (Ex.then (D2.g R) (retQ E [.tmp 4, .tmp 5] R))) fr h := by
  obtain ⟨a0, l0, c0, e0, g⟩ := gSlice_elim g
  obtain ⟨x6, e6, g⟩ := gInt_elim g
  obtain ⟨x7, e7, g⟩ := gInt_elim g
  obtain ⟨a8, l8, c8, e8, g⟩ := gSlice_elim g
  obtain ⟨x34, e34, g⟩ := gInt_elim g
  obtain ⟨x35, e35, g⟩ := gInt_elim g
  obtain ⟨n, g⟩ := g
  refine loop_ok (fun n => L4.g (L4.t R n)) (b := (cAt C [true, true, true, true, true, true, true, false, true, false, false])) (by kernel_rfl) (fun fr h g => ?_) (fun n => D5.ok R (L4.t R n)) n fr h (gSlice_intro e0 (gInt_intro e6 (gInt_intro e7 (gSlice_intro e8 (gInt_intro e34 (gInt_intro e35 (g)))))))
  obtain ⟨a0, l0, c0, e0, g⟩ := gSlice_elim g
  obtain ⟨x6, e6, g⟩ := gInt_elim g
  obtain ⟨x7, e7, g⟩ := gInt_elim g
  obtain ⟨a8, l8, c8, e8, g⟩ := gSlice_elim g
  obtain ⟨x34, e34, g⟩ := gInt_elim g
  obtain ⟨x35, e35, g⟩ := gInt_elim g
  exact g
theorem B6.ok (R : Rt) (fr : Fr) (h : Hp) (g : L4.g (fun a0 l0 c0 x6 x7 a8 l8 c8 x34 x35 h => ∃ n, L4.t R n a0 l0 c0 x6 x7 a8 l8 c8 x34 x35 h) fr h) : den prog E (cAt C [true, true, true, true, true, true, true, false, true]) (Ex.then (D2.g R) (retQ E [.tmp 4, .tmp 5] R)) fr h :=
  den_block (by kernel_rfl) (L4.ok R fr h g)
def D3.t (R : Rt) (a0 : Option Addr) (l0 : Nat) (c0 : Nat) (x6 : Int) (x7 : Int) (a8 : Option Addr) (l8 : Nat) (c8 : Nat) (h : Hp) : Prop :=
  (∃ n, L4.t R n a0 l0 c0 x6 x7 a8 l8 c8 (((l0 : Nat) : Int)) 0 h)
def D3.g (R : Rt) (fr : Fr) (h : Hp) : Prop := gSlice (fr 0) fun a0 l0 c0 => gInt .i64 (fr 6) fun x6 => gInt .i64 (fr 7) fun x7 => gSlice (fr 8) fun a8 l8 c8 => D3.t R a0 l0 c0 x6 x7 a8 l8 c8 h
theorem D3.ok (R : Rt) (fr : Fr) (h : Hp) (g : D3.g R fr h) : den prog E (cAt C [true, true, true, true, true, true, true, false]) (Ex.then (D2.g R) (retQ E [.tmp 4, .tmp 5] R)) fr h := by
  obtain ⟨a0, l0, c0, e0, g⟩ := gSlice_elim g
  obtain ⟨x6, e6, g⟩ := gInt_elim g
  obtain ⟨x7, e7, g⟩ := gInt_elim g
  obtain ⟨a8, l8, c8, e8, g⟩ := gSlice_elim g
  exact den_cut 1 (r := (cAt C [true, true, true, true, true, true, true, false, true])) (by kernel_rfl) (B6.ok R) (den_enter [(0, .slice a0 l0 c0), (6, .int .i64 x6), (7, .int .i64 x7), (8, .slice a8 l8 c8)] ⟨e0, e6, e7, e8, trivial⟩ (by kernel_rfl) g)
theorem W7.ok (R : Rt) (fr : Fr) (h : Hp) (g : D3.g R fr h) : den prog E (cAt C [true, true, true, true, true, true, true]) (retQ E [.tmp 4, .tmp 5] R) fr h :=
  den_then (by kernel_rfl) (D2.ok R) (D3.ok R fr h g)
def D1.t (R : Rt) (a0 : Option Addr) (l0 : Nat) (c0 : Nat) (x1 : Int) (h : Hp) : Prop :=
  cond (decide (x1 < 0)) (R (.tuple #[.slice none 0 0, .int .i64 1]) h) (HC nat_Form.id #[.slice a0 l0 c0] h fun v1 h2 =>
  gBool v1 fun b_3 =>
  cond (!b_3) (R (.tuple #[.slice none 0 0, .int .i64 2]) h2) (cond ((((l0 : Nat) : Int)) == 0) (R (.tuple #[.slice none 0 0, .int .i64 0]) h2) (HC nat_Bits.id #[.slice a0 l0 c0] h2 fun v4 h5 =>
  gInt .i64 v4 fun x_6 =>
  letK (IntKind.i64.wrap (524288 - x_6)) fun n7 =>
  cond (decide (x1 > n7)) (R (.tuple #[.slice none 0 0, .int .i64 5]) h5) ((64 : Int) ≠ 0 ∧ letK (IntKind.i64.wrap (Int.tdiv x1 64)) fun n8 =>
  (64 : Int) ≠ 0 ∧ letK (Int.tmod x1 64) fun n9 =>
  letK (IntKind.i64.wrap (n8 + (((l0 : Nat) : Int)))) fun n10 =>
  letK (IntKind.i64.wrap (n10 + 1)) fun n11 =>
  mkK h5 28 T28 n11 n11 fun q12 h13 =>
  D3.t R a0 l0 c0 n8 n9 (some q12) n11.toNat n11.toNat h13))))
def D1.g (R : Rt) (fr : Fr) (h : Hp) : Prop := gSlice (fr 0) fun a0 l0 c0 => gInt .i64 (fr 1) fun x1 => D1.t R a0 l0 c0 x1 h
theorem D1.ok (R : Rt) (fr : Fr) (h : Hp) (g : D1.g R fr h) : den prog E C (retQ E [.tmp 4, .tmp 5] R) fr h := by
  obtain ⟨a0, l0, c0, e0, g⟩ := gSlice_elim g
  obtain ⟨x1, e1, g⟩ := gInt_elim g
  exact den_cut 7 (r := (cAt C [true, true, true, true, true, true, true])) (by kernel_rfl) (W7.ok R) (den_enter [(0, .slice a0 l0 c0), (1, .int .i64 x1)] ⟨e0, e1, trivial⟩ (by kernel_rfl) g)
def t (a0 : Option Addr) (l0 : Nat) (c0 : Nat) (x1 : Int) (h : Hp) (R : Rt) : Prop := D1.t R a0 l0 c0 x1 h
theorem ok {a0 : Option Addr} {l0 : Nat} {c0 : Nat} {x1 : Int} {h : Hp} {R : Rt} (g : t a0 l0 c0 x1 h R) : HC id #[.slice a0 l0 c0, .int .i64 x1] h R :=
  calls_of_den' envOk (c := C) (rs := [.tmp 4, .tmp 5]) Tryd.func66 (by kernel_rfl) (by kernel_rfl) (by kernel_rfl) (args := [.slice a0 l0 c0, .int .i64 x1]) (by kernel_rfl) (D1.ok R _ h (gSlice_intro rfl (gInt_intro rfl (g))))
end nat_Shl

namespace num_way_shr
noncomputable def C : Code := bodyOf Tryd.f67
def D3.t (R : Rt) (x0 : Int) (q4 : Addr) (q6 : Addr) (a8 : Option Addr) (l8 : Nat) (c8 : Nat) (b10 : Bool) (x11 : Int) (h : Hp) : Prop :=
  ldK h (q4.add 0) fun v58 =>
  gBool v58 fun b_59 =>
  HC num_way_made.id #[.int .i64 x0, .bool b_59, .slice a8 l8 c8, .bool b10, .int .i64 x11] h fun v60 h61 =>
  gTup v60 fun y62 =>
  uncons y62 fun v63 y63 =>
  gAgg v63 fun y64 =>
  uncons y64 fun v65 y65 =>
  gBool v65 fun b_66 =>
  uncons y65 fun v67 y67 =>
  gSlice v67 fun a_68 l_68 c_68 =>
  unnil y67 <| uncons y63 fun v69 y69 =>
  gInt .i64 v69 fun x_70 =>
  unnil y69 <| stK h61 (q6.add 0) (.bool b_66) fun h71 =>
  stK h71 (q6.add 1) (.slice a_68 l_68 c_68) fun h72 =>
  ldK h72 (q6.add 0) fun v73 =>
  gBool v73 fun b_74 =>
  ldK h72 (q6.add 1) fun v75 =>
  gSlice v75 fun a_76 l_76 c_76 =>
  R (.tuple #[.agg #[.bool b_74, .slice a_76 l_76 c_76], .int .i64 x_70]) h72
def D3.g (R : Rt) (fr : Fr) (h : Hp) : Prop := gInt .i64 (fr 0) fun x0 => gPtrS (fr 4) fun q4 => gPtrS (fr 6) fun q6 => gSlice (fr 8) fun a8 l8 c8 => gBool (fr 10) fun b10 => gInt .i64 (fr 11) fun x11 => D3.t R x0 q4 q6 a8 l8 c8 b10 x11 h
theorem D3.ok (R : Rt) (fr : Fr) (h : Hp) (g : D3.g R fr h) : den prog E (cAt C [true, true, true, true, true, true, true, true]) (retQ E [.cell 6 33, .tmp 7] R) fr h := by
  obtain ⟨x0, e0, g⟩ := gInt_elim g
  obtain ⟨q4, e4, g⟩ := gPtrS_elim g
  obtain ⟨q6, e6, g⟩ := gPtrS_elim g
  obtain ⟨a8, l8, c8, e8, g⟩ := gSlice_elim g
  obtain ⟨b10, e10, g⟩ := gBool_elim g
  obtain ⟨x11, e11, g⟩ := gInt_elim g
  exact den_enter [(0, .int .i64 x0), (4, .pointer (some q4)), (6, .pointer (some q6)), (8, .slice a8 l8 c8), (10, .bool b10), (11, .int .i64 x11)] ⟨e0, e4, e6, e8, e10, e11, trivial⟩ (by kernel_rfl) g
def D2.t (R : Rt) (x0 : Int) (x2 : Int) (q4 : Addr) (q6 : Addr) (a8 : Option Addr) (l8 : Nat) (c8 : Nat) (b10 : Bool) (h : Hp) : Prop :=
  ldK h (q4.add 1) fun v46 =>
  gSlice v46 fun a_47 l_47 c_47 =>
  letK (IntKind.i64.wrap (x2 - 1)) fun n48 =>
  HC nat_Bit.id #[.slice a_47 l_47 c_47, .int .i64 n48] h fun v49 h50 =>
  gBool v49 fun b_51 =>
  cond b_51 (ldK h50 (q4.add 1) fun v52 =>
  gSlice v52 fun a_53 l_53 c_53 =>
  HC nat_Trail.id #[.slice a_53 l_53 c_53] h50 fun v54 h55 =>
  gInt .i64 v54 fun x_56 =>
  letK (IntKind.i64.wrap (x2 - 1)) fun n57 =>
  cond (x_56 == n57) (D3.t R x0 q4 q6 a8 l8 c8 b10 0 h55) (D3.t R x0 q4 q6 a8 l8 c8 b10 1 h55)) (D3.t R x0 q4 q6 a8 l8 c8 b10 (-1) h50)
def D2.g (R : Rt) (fr : Fr) (h : Hp) : Prop := gInt .i64 (fr 0) fun x0 => gInt .i64 (fr 2) fun x2 => gPtrS (fr 4) fun q4 => gPtrS (fr 6) fun q6 => gSlice (fr 8) fun a8 l8 c8 => gBool (fr 10) fun b10 => D2.t R x0 x2 q4 q6 a8 l8 c8 b10 h
theorem D2.ok (R : Rt) (fr : Fr) (h : Hp) (g : D2.g R fr h) : den prog E (cAt C [true, true, true, true, true, true]) (retQ E [.cell 6 33, .tmp 7] R) fr h := by
  obtain ⟨x0, e0, g⟩ := gInt_elim g
  obtain ⟨x2, e2, g⟩ := gInt_elim g
  obtain ⟨q4, e4, g⟩ := gPtrS_elim g
  obtain ⟨q6, e6, g⟩ := gPtrS_elim g
  obtain ⟨a8, l8, c8, e8, g⟩ := gSlice_elim g
  obtain ⟨b10, e10, g⟩ := gBool_elim g
  exact den_cut 2 (r := (cAt C [true, true, true, true, true, true, true, true])) (by kernel_rfl) (D3.ok R) (den_enter [(0, .int .i64 x0), (2, .int .i64 x2), (4, .pointer (some q4)), (6, .pointer (some q6)), (8, .slice a8 l8 c8), (10, .bool b10)] ⟨e0, e2, e4, e6, e8, e10, trivial⟩ (by kernel_rfl) g)
def D1.t (R : Rt) (x0 : Int) (b1_0 : Bool) (a1_1 : Option Addr) (l1_1 : Nat) (c1_1 : Nat) (x2 : Int) (h : Hp) : Prop :=
  boxK h 33 [.bool b1_0, .slice a1_1 l1_1 c1_1] fun q1 h2 =>
  boxK h2 33 T33.zs fun q3 h4 =>
  cond (decide (x2 < 0)) (stK h4 (q3.add 0) (.bool false) fun h5 =>
  stK h5 (q3.add 1) (.slice none 0 0) fun h6 =>
  ldK h6 (q3.add 0) fun v7 =>
  gBool v7 fun b_8 =>
  ldK h6 (q3.add 1) fun v9 =>
  gSlice v9 fun a_10 l_10 c_10 =>
  R (.tuple #[.agg #[.bool b_8, .slice a_10 l_10 c_10], .int .i64 1]) h6) (ldK h4 (q1.add 0) fun v11 =>
  gBool v11 fun b_12 =>
  ldK h4 (q1.add 1) fun v13 =>
  gSlice v13 fun a_14 l_14 c_14 =>
  HC num_Form.id #[.agg #[.bool b_12, .slice a_14 l_14 c_14]] h4 fun v15 h16 =>
  gBool v15 fun b_17 =>
  cond (!b_17) (stK h16 (q3.add 0) (.bool false) fun h18 =>
  stK h18 (q3.add 1) (.slice none 0 0) fun h19 =>
  ldK h19 (q3.add 0) fun v20 =>
  gBool v20 fun b_21 =>
  ldK h19 (q3.add 1) fun v22 =>
  gSlice v22 fun a_23 l_23 c_23 =>
  R (.tuple #[.agg #[.bool b_21, .slice a_23 l_23 c_23], .int .i64 2]) h19) (ldK h16 (q1.add 1) fun v24 =>
  gSlice v24 fun a_25 l_25 c_25 =>
  HC nat_Shr.id #[.slice a_25 l_25 c_25, .int .i64 x2] h16 fun v26 h27 =>
  gTup v26 fun y28 =>
  uncons y28 fun v29 y29 =>
  gSlice v29 fun a_30 l_30 c_30 =>
  uncons y29 fun v31 y31 =>
  gInt .i64 v31 fun x_32 =>
  unnil y31 <| cond (x_32 != 0) (stK h27 (q3.add 0) (.bool false) fun h33 =>
  stK h33 (q3.add 1) (.slice none 0 0) fun h34 =>
  ldK h34 (q3.add 0) fun v35 =>
  gBool v35 fun b_36 =>
  ldK h34 (q3.add 1) fun v37 =>
  gSlice v37 fun a_38 l_38 c_38 =>
  R (.tuple #[.agg #[.bool b_36, .slice a_38 l_38 c_38], .int .i64 x_32]) h34) (ldK h27 (q1.add 1) fun v39 =>
  gSlice v39 fun a_40 l_40 c_40 =>
  cond (decide ((((l_40 : Nat) : Int)) > 0)) (ldK h27 (q1.add 1) fun v41 =>
  gSlice v41 fun a_42 l_42 c_42 =>
  HC nat_Trail.id #[.slice a_42 l_42 c_42] h27 fun v43 h44 =>
  gInt .i64 v43 fun x_45 =>
  D2.t R x0 x2 q1 q3 a_30 l_30 c_30 (decide (x_45 < x2)) h44) (D2.t R x0 x2 q1 q3 a_30 l_30 c_30 false h27))))
def D1.g (R : Rt) (fr : Fr) (h : Hp) : Prop := gInt .i64 (fr 0) fun x0 => gAgg (fr 1) fun z1 => uncons z1 fun w1_0 z1_0 => gBool w1_0 fun b1_0 => uncons z1_0 fun w1_1 z1_1 => gSlice w1_1 fun a1_1 l1_1 c1_1 => unnil z1_1 <| gInt .i64 (fr 2) fun x2 => D1.t R x0 b1_0 a1_1 l1_1 c1_1 x2 h
theorem D1.ok (R : Rt) (fr : Fr) (h : Hp) (g : D1.g R fr h) : den prog E C (retQ E [.cell 6 33, .tmp 7] R) fr h := by
  obtain ⟨x0, e0, g⟩ := gInt_elim g
  obtain ⟨z1, e1, g1_0⟩ := gAgg_elim' g
  obtain ⟨w1_0, z1_0, rfl, g1_0x⟩ := uncons_elim g1_0
  obtain ⟨b1_0, rfl, g1_1⟩ := gBool_elim g1_0x
  obtain ⟨w1_1, z1_1, rfl, g1_1x⟩ := uncons_elim g1_1
  obtain ⟨a1_1, l1_1, c1_1, rfl, g1_2⟩ := gSlice_elim g1_1x
  obtain ⟨rfl, g⟩ := unnil_elim g1_2
  obtain ⟨x2, e2, g⟩ := gInt_elim g
  exact den_cut 6 (r := (cAt C [true, true, true, true, true, true])) (by kernel_rfl) (D2.ok R) (den_enter [(0, .int .i64 x0), (1, .agg #[.bool b1_0, .slice a1_1 l1_1 c1_1]), (2, .int .i64 x2)] ⟨e0, e1, e2, trivial⟩ (by kernel_rfl) g)
def t (x0 : Int) (b1_0 : Bool) (a1_1 : Option Addr) (l1_1 : Nat) (c1_1 : Nat) (x2 : Int) (h : Hp) (R : Rt) : Prop := D1.t R x0 b1_0 a1_1 l1_1 c1_1 x2 h
theorem ok {x0 : Int} {b1_0 : Bool} {a1_1 : Option Addr} {l1_1 : Nat} {c1_1 : Nat} {x2 : Int} {h : Hp} {R : Rt} (g : t x0 b1_0 a1_1 l1_1 c1_1 x2 h R) : HC id #[.int .i64 x0, .agg #[.bool b1_0, .slice a1_1 l1_1 c1_1], .int .i64 x2] h R :=
  calls_of_den' envOk (c := C) (rs := [.cell 6 33, .tmp 7]) Tryd.func67 (by kernel_rfl) (by kernel_rfl) (by kernel_rfl) (args := [.int .i64 x0, .agg #[.bool b1_0, .slice a1_1 l1_1 c1_1], .int .i64 x2]) (by kernel_rfl) (D1.ok R _ h (gInt_intro rfl (gAgg_intro rfl (uncons_intro (gBool_intro rfl (uncons_intro (gSlice_intro rfl (unnil_intro (gInt_intro rfl (g))))))))))
end num_way_shr

namespace natmul_fill
noncomputable def C : Code := bodyOf Tryd.f69
def D2.t (R : Rt) (a0 : Option Addr) (l0 : Nat) (c0 : Nat) (a1 : Option Addr) (l1 : Nat) (c1 : Nat) (a2 : Option Addr) (l2 : Nat) (c2 : Nat) (h : Hp) : Prop :=
  cond (decide ((((l2 : Nat) : Int)) < 40)) (HC natmul_rows.id #[.slice a0 l0 c0, .slice a1 l1 c1, .slice a2 l2 c2] h fun v1 h2 =>
  gTup v1 fun y3 =>
  unnil y3 <| R (.tuple #[]) h2) (letK (IntKind.i64.wrap (2 * (((l2 : Nat) : Int)))) fun n4 =>
  cond (decide ((((l1 : Nat) : Int)) ≥ n4)) (HC natmul_slabs.id #[.slice a0 l0 c0, .slice a1 l1 c1, .slice a2 l2 c2] h fun v5 h6 =>
  gTup v5 fun y7 =>
  unnil y7 <| R (.tuple #[]) h6) (HC natmul_thirds.id #[.slice a0 l0 c0, .slice a1 l1 c1, .slice a2 l2 c2] h fun v8 h9 =>
  gTup v8 fun y10 =>
  unnil y10 <| R (.tuple #[]) h9))
def D2.g (R : Rt) (fr : Fr) (h : Hp) : Prop := gSlice (fr 0) fun a0 l0 c0 => gSlice (fr 1) fun a1 l1 c1 => gSlice (fr 2) fun a2 l2 c2 => D2.t R a0 l0 c0 a1 l1 c1 a2 l2 c2 h
theorem D2.ok (R : Rt) (fr : Fr) (h : Hp) (g : D2.g R fr h) : den prog E (cAt C [true]) (retQ E [] R) fr h := by
  obtain ⟨a0, l0, c0, e0, g⟩ := gSlice_elim g
  obtain ⟨a1, l1, c1, e1, g⟩ := gSlice_elim g
  obtain ⟨a2, l2, c2, e2, g⟩ := gSlice_elim g
  exact den_enter [(0, .slice a0 l0 c0), (1, .slice a1 l1 c1), (2, .slice a2 l2 c2)] ⟨e0, e1, e2, trivial⟩ (by kernel_rfl) g
def D1.t (R : Rt) (a0 : Option Addr) (l0 : Nat) (c0 : Nat) (a1 : Option Addr) (l1 : Nat) (c1 : Nat) (a2 : Option Addr) (l2 : Nat) (c2 : Nat) (h : Hp) : Prop :=
  cond (decide ((((l1 : Nat) : Int)) < (((l2 : Nat) : Int)))) (D2.t R a0 l0 c0 a2 l2 c2 a1 l1 c1 h) (D2.t R a0 l0 c0 a1 l1 c1 a2 l2 c2 h)
def D1.g (R : Rt) (fr : Fr) (h : Hp) : Prop := gSlice (fr 0) fun a0 l0 c0 => gSlice (fr 1) fun a1 l1 c1 => gSlice (fr 2) fun a2 l2 c2 => D1.t R a0 l0 c0 a1 l1 c1 a2 l2 c2 h
theorem D1.ok (R : Rt) (fr : Fr) (h : Hp) (g : D1.g R fr h) : den prog E C (retQ E [] R) fr h := by
  obtain ⟨a0, l0, c0, e0, g⟩ := gSlice_elim g
  obtain ⟨a1, l1, c1, e1, g⟩ := gSlice_elim g
  obtain ⟨a2, l2, c2, e2, g⟩ := gSlice_elim g
  exact den_cut 1 (r := (cAt C [true])) (by kernel_rfl) (D2.ok R) (den_enter [(0, .slice a0 l0 c0), (1, .slice a1 l1 c1), (2, .slice a2 l2 c2)] ⟨e0, e1, e2, trivial⟩ (by kernel_rfl) g)
def t (a0 : Option Addr) (l0 : Nat) (c0 : Nat) (a1 : Option Addr) (l1 : Nat) (c1 : Nat) (a2 : Option Addr) (l2 : Nat) (c2 : Nat) (h : Hp) (R : Rt) : Prop := D1.t R a0 l0 c0 a1 l1 c1 a2 l2 c2 h
theorem ok {a0 : Option Addr} {l0 : Nat} {c0 : Nat} {a1 : Option Addr} {l1 : Nat} {c1 : Nat} {a2 : Option Addr} {l2 : Nat} {c2 : Nat} {h : Hp} {R : Rt} (g : t a0 l0 c0 a1 l1 c1 a2 l2 c2 h R) : HC id #[.slice a0 l0 c0, .slice a1 l1 c1, .slice a2 l2 c2] h R :=
  calls_of_den' envOk (c := C) (rs := []) Tryd.func69 (by kernel_rfl) (by kernel_rfl) (by kernel_rfl) (args := [.slice a0 l0 c0, .slice a1 l1 c1, .slice a2 l2 c2]) (by kernel_rfl) (D1.ok R _ h (gSlice_intro rfl (gSlice_intro rfl (gSlice_intro rfl (g)))))
end natmul_fill

namespace natmul_trim
noncomputable def C : Code := bodyOf Tryd.f70
def D2.t (R : Rt) (a0 : Option Addr) (l0 : Nat) (c0 : Nat) (x3 : Int) (h : Hp) : Prop :=
  slK 1 a0 l0 c0 none (some (.int .i64 x3)) (some (.int .i64 x3)) fun a_1 l_1 c_1 => R (.slice a_1 l_1 c_1) h
def D2.g (R : Rt) (fr : Fr) (h : Hp) : Prop := gSlice (fr 0) fun a0 l0 c0 => gInt .i64 (fr 3) fun x3 => D2.t R a0 l0 c0 x3 h
theorem D2.ok (R : Rt) (fr : Fr) (h : Hp) (g : D2.g R fr h) : den prog E (cAt C [true, true, true]) (retQ E [.tmp 2] R) fr h := by
  obtain ⟨a0, l0, c0, e0, g⟩ := gSlice_elim g
  obtain ⟨x3, e3, g⟩ := gInt_elim g
  exact den_enter [(0, .slice a0 l0 c0), (3, .int .i64 x3)] ⟨e0, e3, trivial⟩ (by kernel_rfl) g
def L3.g (N : Option Addr → Nat → Nat → Int → Hp → Prop) (fr : Fr) (h : Hp) : Prop := gSlice (fr 0) fun a0 l0 c0 => gInt .i64 (fr 3) fun x3 => N a0 l0 c0 x3 h
def D4.t (R : Rt) (N3 : Option Addr → Nat → Nat → Int → Hp → Prop) (a0 : Option Addr) (l0 : Nat) (c0 : Nat) (x3 : Int) (h : Hp) : Prop :=
  cond (decide (x3 > 0)) (letK (IntKind.i64.wrap (x3 - 1)) fun n2 =>
  idxK a0 l0 n2 1 fun q3 =>
  ldK h q3 fun v4 =>
  gInt .u64 v4 fun x_5 =>
  cond (x_5 == 0) (letK (IntKind.i64.wrap (x3 - 1)) fun n6 =>
  N3 a0 l0 c0 n6 h) (D2.t R a0 l0 c0 x3 h)) (D2.t R a0 l0 c0 x3 h)
def D4.g (R : Rt) (N3 : Option Addr → Nat → Nat → Int → Hp → Prop) (fr : Fr) (h : Hp) : Prop := gSlice (fr 0) fun a0 l0 c0 => gInt .i64 (fr 3) fun x3 => D4.t R N3 a0 l0 c0 x3 h
theorem D4.ok (R : Rt) (N3 : Option Addr → Nat → Nat → Int → Hp → Prop) (fr : Fr) (h : Hp) (g : D4.g R N3 fr h) : den prog E (cAt C [true, true, false, false, false]) (Ex.then (L3.g N3) (Ex.inBlock 0 (Ex.then (D2.g R) (retQ E [.tmp 2] R)))) fr h := by
  obtain ⟨a0, l0, c0, e0, g⟩ := gSlice_elim g
  obtain ⟨x3, e3, g⟩ := gInt_elim g
  exact den_enter [(0, .slice a0 l0 c0), (3, .int .i64 x3)] ⟨e0, e3, trivial⟩ (by kernel_rfl) g
def L3.t (R : Rt) : Nat → Option Addr → Nat → Nat → Int → Hp → Prop
  | 0 => fun _ _ _ _ _ => False
  | n + 1 => fun a0 l0 c0 x3 h => D4.t R (L3.t R n) a0 l0 c0 x3 h
theorem L3.ok (R : Rt) (fr : Fr) (h : Hp) (g : L3.g (fun a0 l0 c0 x3 h => ∃ n, L3.t R n a0 l0 c0 x3 h) fr h) : den prog E (cAt C [true, true, false, false]) (Ex.inBlock 0 (Ex.then (D2.g R) (retQ E [.tmp 2] R))) fr h := by
  obtain ⟨a0, l0, c0, e0, g⟩ := gSlice_elim g
  obtain ⟨x3, e3, g⟩ := gInt_elim g
  obtain ⟨n, g⟩ := g
  refine loop_ok (fun n => L3.g (L3.t R n)) (b := (cAt C [true, true, false, false, false])) (by kernel_rfl) (fun fr h g => ?_) (fun n => D4.ok R (L3.t R n)) n fr h (gSlice_intro e0 (gInt_intro e3 (g)))
  obtain ⟨a0, l0, c0, e0, g⟩ := gSlice_elim g
  obtain ⟨x3, e3, g⟩ := gInt_elim g
  exact g
theorem B5.ok (R : Rt) (fr : Fr) (h : Hp) (g : L3.g (fun a0 l0 c0 x3 h => ∃ n, L3.t R n a0 l0 c0 x3 h) fr h) : den prog E (cAt C [true, true, false]) (Ex.then (D2.g R) (retQ E [.tmp 2] R)) fr h :=
  den_block (by kernel_rfl) (L3.ok R fr h g)
theorem W6.ok (R : Rt) (fr : Fr) (h : Hp) (g : L3.g (fun a0 l0 c0 x3 h => ∃ n, L3.t R n a0 l0 c0 x3 h) fr h) : den prog E (cAt C [true, true]) (retQ E [.tmp 2] R) fr h :=
  den_then (by kernel_rfl) (D2.ok R) (B5.ok R fr h g)
def D1.t (R : Rt) (a0 : Option Addr) (l0 : Nat) (c0 : Nat) (h : Hp) : Prop :=
  (∃ n, L3.t R n a0 l0 c0 (((l0 : Nat) : Int)) h)
def D1.g (R : Rt) (fr : Fr) (h : Hp) : Prop := gSlice (fr 0) fun a0 l0 c0 => D1.t R a0 l0 c0 h
theorem D1.ok (R : Rt) (fr : Fr) (h : Hp) (g : D1.g R fr h) : den prog E C (retQ E [.tmp 2] R) fr h := by
  obtain ⟨a0, l0, c0, e0, g⟩ := gSlice_elim g
  exact den_cut 2 (r := (cAt C [true, true])) (by kernel_rfl) (W6.ok R) (den_enter [(0, .slice a0 l0 c0)] ⟨e0, trivial⟩ (by kernel_rfl) g)
def t (a0 : Option Addr) (l0 : Nat) (c0 : Nat) (h : Hp) (R : Rt) : Prop := D1.t R a0 l0 c0 h
theorem ok {a0 : Option Addr} {l0 : Nat} {c0 : Nat} {h : Hp} {R : Rt} (g : t a0 l0 c0 h R) : HC id #[.slice a0 l0 c0] h R :=
  calls_of_den' envOk (c := C) (rs := [.tmp 2]) Tryd.func70 (by kernel_rfl) (by kernel_rfl) (by kernel_rfl) (args := [.slice a0 l0 c0]) (by kernel_rfl) (D1.ok R _ h (gSlice_intro rfl (g)))
end natmul_trim

namespace num_way_made
noncomputable def C : Code := bodyOf Tryd.f72
def D1.t (R : Rt) (x0 : Int) (b1 : Bool) (a2 : Option Addr) (l2 : Nat) (c2 : Nat) (b3 : Bool) (x4 : Int) (h : Hp) : Prop :=
  boxK h 33 T33.zs fun q1 h2 =>
  HC nat_Bit.id #[.slice a2 l2 c2, .int .i64 0] h2 fun v3 h4 =>
  gBool v3 fun b_5 =>
  HC num_way_more.id #[.int .i64 x0, .bool b1, .bool b_5, .bool b3, .int .i64 x4] h4 fun v6 h7 =>
  gBool v6 fun b_8 =>
  cond (!b_8) (HC num_told.id #[.bool b1, .slice a2 l2 c2, .int .i64 0] h7 fun v9 h10 =>
  gTup v9 fun y11 =>
  uncons y11 fun v12 y12 =>
  gAgg v12 fun y13 =>
  uncons y13 fun v14 y14 =>
  gBool v14 fun b_15 =>
  uncons y14 fun v16 y16 =>
  gSlice v16 fun a_17 l_17 c_17 =>
  unnil y16 <| uncons y12 fun v18 y18 =>
  gInt .i64 v18 fun x_19 =>
  unnil y18 <| stK h10 (q1.add 0) (.bool b_15) fun h20 =>
  stK h20 (q1.add 1) (.slice a_17 l_17 c_17) fun h21 =>
  ldK h21 (q1.add 0) fun v22 =>
  gBool v22 fun b_23 =>
  ldK h21 (q1.add 1) fun v24 =>
  gSlice v24 fun a_25 l_25 c_25 =>
  R (.tuple #[.agg #[.bool b_23, .slice a_25 l_25 c_25], .int .i64 x_19]) h21) (HC nat_Word.id #[.int .u64 1] h7 fun v26 h27 =>
  gSlice v26 fun a_28 l_28 c_28 =>
  HC nat_Add.id #[.slice a2 l2 c2, .slice a_28 l_28 c_28] h27 fun v29 h30 =>
  gTup v29 fun y31 =>
  uncons y31 fun v32 y32 =>
  gSlice v32 fun a_33 l_33 c_33 =>
  uncons y32 fun v34 y34 =>
  gInt .i64 v34 fun x_35 =>
  unnil y34 <| HC num_told.id #[.bool b1, .slice a_33 l_33 c_33, .int .i64 x_35] h30 fun v36 h37 =>
  gTup v36 fun y38 =>
  uncons y38 fun v39 y39 =>
  gAgg v39 fun y40 =>
  uncons y40 fun v41 y41 =>
  gBool v41 fun b_42 =>
  uncons y41 fun v43 y43 =>
  gSlice v43 fun a_44 l_44 c_44 =>
  unnil y43 <| uncons y39 fun v45 y45 =>
  gInt .i64 v45 fun x_46 =>
  unnil y45 <| stK h37 (q1.add 0) (.bool b_42) fun h47 =>
  stK h47 (q1.add 1) (.slice a_44 l_44 c_44) fun h48 =>
  ldK h48 (q1.add 0) fun v49 =>
  gBool v49 fun b_50 =>
  ldK h48 (q1.add 1) fun v51 =>
  gSlice v51 fun a_52 l_52 c_52 =>
  R (.tuple #[.agg #[.bool b_50, .slice a_52 l_52 c_52], .int .i64 x_46]) h48)
def D1.g (R : Rt) (fr : Fr) (h : Hp) : Prop := gInt .i64 (fr 0) fun x0 => gBool (fr 1) fun b1 => gSlice (fr 2) fun a2 l2 c2 => gBool (fr 3) fun b3 => gInt .i64 (fr 4) fun x4 => D1.t R x0 b1 a2 l2 c2 b3 x4 h
theorem D1.ok (R : Rt) (fr : Fr) (h : Hp) (g : D1.g R fr h) : den prog E C (retQ E [.cell 10 33, .tmp 11] R) fr h := by
  obtain ⟨x0, e0, g⟩ := gInt_elim g
  obtain ⟨b1, e1, g⟩ := gBool_elim g
  obtain ⟨a2, l2, c2, e2, g⟩ := gSlice_elim g
  obtain ⟨b3, e3, g⟩ := gBool_elim g
  obtain ⟨x4, e4, g⟩ := gInt_elim g
  exact den_enter [(0, .int .i64 x0), (1, .bool b1), (2, .slice a2 l2 c2), (3, .bool b3), (4, .int .i64 x4)] ⟨e0, e1, e2, e3, e4, trivial⟩ (by kernel_rfl) g
def t (x0 : Int) (b1 : Bool) (a2 : Option Addr) (l2 : Nat) (c2 : Nat) (b3 : Bool) (x4 : Int) (h : Hp) (R : Rt) : Prop := D1.t R x0 b1 a2 l2 c2 b3 x4 h
theorem ok {x0 : Int} {b1 : Bool} {a2 : Option Addr} {l2 : Nat} {c2 : Nat} {b3 : Bool} {x4 : Int} {h : Hp} {R : Rt} (g : t x0 b1 a2 l2 c2 b3 x4 h R) : HC id #[.int .i64 x0, .bool b1, .slice a2 l2 c2, .bool b3, .int .i64 x4] h R :=
  calls_of_den' envOk (c := C) (rs := [.cell 10 33, .tmp 11]) Tryd.func72 (by kernel_rfl) (by kernel_rfl) (by kernel_rfl) (args := [.int .i64 x0, .bool b1, .slice a2 l2 c2, .bool b3, .int .i64 x4]) (by kernel_rfl) (D1.ok R _ h (gInt_intro rfl (gBool_intro rfl (gSlice_intro rfl (gBool_intro rfl (gInt_intro rfl (g)))))))
end num_way_made

namespace nat_Trail
noncomputable def C : Code := bodyOf Tryd.f73
def D2.t (R : Rt)  (h : Hp) : Prop :=
  R (.int .i64 0) h
def D2.g (R : Rt) (fr : Fr) (h : Hp) : Prop := D2.t R  h
theorem D2.ok (R : Rt) (fr : Fr) (h : Hp) (g : D2.g R fr h) : den prog E (cAt C [true, true]) (retQ E [.tmp 2] R) fr h := by
  exact den_enter [] trivial (by kernel_rfl) g
def L4.g (N : Option Addr → Nat → Nat → Int → Int → Hp → Prop) (fr : Fr) (h : Hp) : Prop := gSlice (fr 0) fun a0 l0 c0 => gInt .i64 (fr 5) fun x5 => gInt .i64 (fr 6) fun x6 => N a0 l0 c0 x5 x6 h
def D5.t (R : Rt) (N4 : Option Addr → Nat → Nat → Int → Int → Hp → Prop) (a0 : Option Addr) (l0 : Nat) (c0 : Nat) (x5 : Int) (x6 : Int) (h : Hp) : Prop :=
  cond (decide (x6 < x5)) (idxK a0 l0 x6 1 fun q1 =>
  ldK h q1 fun v2 =>
  gInt .u64 v2 fun x_3 =>
  cond (x_3 != 0) (letK (IntKind.i64.wrap (64 * x6)) fun n4 =>
  idxK a0 l0 x6 1 fun q5 =>
  ldK h q5 fun v6 =>
  gInt .u64 v6 fun x_7 =>
  HC bits_TrailingZeros64.id #[.int .u64 x_7] h fun v8 h9 =>
  gInt .i64 v8 fun x_10 =>
  letK (IntKind.i64.wrap (n4 + x_10)) fun n11 =>
  R (.int .i64 n11) h9) (letK (IntKind.i64.wrap (x6 + 1)) fun n12 =>
  N4 a0 l0 c0 x5 n12 h)) (D2.t R h)
def D5.g (R : Rt) (N4 : Option Addr → Nat → Nat → Int → Int → Hp → Prop) (fr : Fr) (h : Hp) : Prop := gSlice (fr 0) fun a0 l0 c0 => gInt .i64 (fr 5) fun x5 => gInt .i64 (fr 6) fun x6 => D5.t R N4 a0 l0 c0 x5 x6 h
theorem D5.ok (R : Rt) (N4 : Option Addr → Nat → Nat → Int → Int → Hp → Prop) (fr : Fr) (h : Hp) (g : D5.g R N4 fr h) : den prog E (cAt C [true, false, true, false, false]) (Ex.then (L4.g N4) (Ex.inBlock 0 (Ex.then (D2.g R) (retQ E [.tmp 2] R)))) fr h := by
  obtain ⟨a0, l0, c0, e0, g⟩ := gSlice_elim g
  obtain ⟨x5, e5, g⟩ := gInt_elim g
  obtain ⟨x6, e6, g⟩ := gInt_elim g
  exact den_enter [(0, .slice a0 l0 c0), (5, .int .i64 x5), (6, .int .i64 x6)] ⟨e0, e5, e6, trivial⟩ (by kernel_rfl) g
def L4.t (R : Rt) : Nat → Option Addr → Nat → Nat → Int → Int → Hp → Prop
  | 0 => fun _ _ _ _ _ _ => False
  | n + 1 => fun a0 l0 c0 x5 x6 h => D5.t R (L4.t R n) a0 l0 c0 x5 x6 h
theorem L4.ok (R : Rt) (fr : Fr) (h : Hp) (g : L4.g (fun a0 l0 c0 x5 x6 h => ∃ n, L4.t R n a0 l0 c0 x5 x6 h) fr h) : den prog E (cAt C [true, false, true, false]) (Ex.inBlock 0 (Ex.then (D2.g R) (retQ E [.tmp 2] R))) fr h := by
  obtain ⟨a0, l0, c0, e0, g⟩ := gSlice_elim g
  obtain ⟨x5, e5, g⟩ := gInt_elim g
  obtain ⟨x6, e6, g⟩ := gInt_elim g
  obtain ⟨n, g⟩ := g
  refine loop_ok (fun n => L4.g (L4.t R n)) (b := (cAt C [true, false, true, false, false])) (by kernel_rfl) (fun fr h g => ?_) (fun n => D5.ok R (L4.t R n)) n fr h (gSlice_intro e0 (gInt_intro e5 (gInt_intro e6 (g))))
  obtain ⟨a0, l0, c0, e0, g⟩ := gSlice_elim g
  obtain ⟨x5, e5, g⟩ := gInt_elim g
  obtain ⟨x6, e6, g⟩ := gInt_elim g
  exact g
theorem B6.ok (R : Rt) (fr : Fr) (h : Hp) (g : L4.g (fun a0 l0 c0 x5 x6 h => ∃ n, L4.t R n a0 l0 c0 x5 x6 h) fr h) : den prog E (cAt C [true, false, true]) (Ex.then (D2.g R) (retQ E [.tmp 2] R)) fr h :=
  den_block (by kernel_rfl) (L4.ok R fr h g)
def D3.t (R : Rt) (a0 : Option Addr) (l0 : Nat) (c0 : Nat) (h : Hp) : Prop :=
  (∃ n, L4.t R n a0 l0 c0 (((l0 : Nat) : Int)) 0 h)
def D3.g (R : Rt) (fr : Fr) (h : Hp) : Prop := gSlice (fr 0) fun a0 l0 c0 => D3.t R a0 l0 c0 h
theorem D3.ok (R : Rt) (fr : Fr) (h : Hp) (g : D3.g R fr h) : den prog E (cAt C [true, false]) (Ex.then (D2.g R) (retQ E [.tmp 2] R)) fr h := by
  obtain ⟨a0, l0, c0, e0, g⟩ := gSlice_elim g
  exact den_cut 1 (r := (cAt C [true, false, true])) (by kernel_rfl) (B6.ok R) (den_enter [(0, .slice a0 l0 c0)] ⟨e0, trivial⟩ (by kernel_rfl) g)
theorem W7.ok (R : Rt) (fr : Fr) (h : Hp) (g : D3.g R fr h) : den prog E (cAt C [true]) (retQ E [.tmp 2] R) fr h :=
  den_then (by kernel_rfl) (D2.ok R) (D3.ok R fr h g)
def D1.t (R : Rt) (a0 : Option Addr) (l0 : Nat) (c0 : Nat) (h : Hp) : Prop :=
  D3.t R a0 l0 c0 h
def D1.g (R : Rt) (fr : Fr) (h : Hp) : Prop := gSlice (fr 0) fun a0 l0 c0 => D1.t R a0 l0 c0 h
theorem D1.ok (R : Rt) (fr : Fr) (h : Hp) (g : D1.g R fr h) : den prog E C (retQ E [.tmp 2] R) fr h := by
  obtain ⟨a0, l0, c0, e0, g⟩ := gSlice_elim g
  exact den_cut 1 (r := (cAt C [true])) (by kernel_rfl) (W7.ok R) (den_enter [(0, .slice a0 l0 c0)] ⟨e0, trivial⟩ (by kernel_rfl) g)
def t (a0 : Option Addr) (l0 : Nat) (c0 : Nat) (h : Hp) (R : Rt) : Prop := D1.t R a0 l0 c0 h
theorem ok {a0 : Option Addr} {l0 : Nat} {c0 : Nat} {h : Hp} {R : Rt} (g : t a0 l0 c0 h R) : HC id #[.slice a0 l0 c0] h R :=
  calls_of_den' envOk (c := C) (rs := [.tmp 2]) Tryd.func73 (by kernel_rfl) (by kernel_rfl) (by kernel_rfl) (args := [.slice a0 l0 c0]) (by kernel_rfl) (D1.ok R _ h (gSlice_intro rfl (g)))
end nat_Trail

namespace natmul_rows
noncomputable def C : Code := bodyOf Tryd.f74
def L2.g (N : Option Addr → Nat → Nat → Option Addr → Nat → Nat → Option Addr → Nat → Nat → Int → Int → Hp → Prop) (fr : Fr) (h : Hp) : Prop := gSlice (fr 0) fun a0 l0 c0 => gSlice (fr 1) fun a1 l1 c1 => gSlice (fr 2) fun a2 l2 c2 => gInt .i64 (fr 13) fun x13 => gInt .i64 (fr 14) fun x14 => N a0 l0 c0 a1 l1 c1 a2 l2 c2 x13 x14 h
def D4.t (R : Rt) (N2 : Option Addr → Nat → Nat → Option Addr → Nat → Nat → Option Addr → Nat → Nat → Int → Int → Hp → Prop) (a0 : Option Addr) (l0 : Nat) (c0 : Nat) (a1 : Option Addr) (l1 : Nat) (c1 : Nat) (a2 : Option Addr) (l2 : Nat) (c2 : Nat) (x13 : Int) (x14 : Int) (h : Hp) : Prop :=
  letK (IntKind.i64.wrap (x14 + 1)) fun n1 => N2 a0 l0 c0 a1 l1 c1 a2 l2 c2 x13 n1 h
def D4.g (R : Rt) (N2 : Option Addr → Nat → Nat → Option Addr → Nat → Nat → Option Addr → Nat → Nat → Int → Int → Hp → Prop) (fr : Fr) (h : Hp) : Prop := gSlice (fr 0) fun a0 l0 c0 => gSlice (fr 1) fun a1 l1 c1 => gSlice (fr 2) fun a2 l2 c2 => gInt .i64 (fr 13) fun x13 => gInt .i64 (fr 14) fun x14 => D4.t R N2 a0 l0 c0 a1 l1 c1 a2 l2 c2 x13 x14 h
theorem D4.ok (R : Rt) (N2 : Option Addr → Nat → Nat → Option Addr → Nat → Nat → Option Addr → Nat → Nat → Int → Int → Hp → Prop) (fr : Fr) (h : Hp) (g : D4.g R N2 fr h) : den prog E (cAt C [true, false, false, true, true, true]) (Ex.then (L2.g N2) (Ex.inBlock 0 (retQ E [] R))) fr h := by
  obtain ⟨a0, l0, c0, e0, g⟩ := gSlice_elim g
  obtain ⟨a1, l1, c1, e1, g⟩ := gSlice_elim g
  obtain ⟨a2, l2, c2, e2, g⟩ := gSlice_elim g
  obtain ⟨x13, e13, g⟩ := gInt_elim g
  obtain ⟨x14, e14, g⟩ := gInt_elim g
  exact den_enter [(0, .slice a0 l0 c0), (1, .slice a1 l1 c1), (2, .slice a2 l2 c2), (13, .int .i64 x13), (14, .int .i64 x14)] ⟨e0, e1, e2, e13, e14, trivial⟩ (by kernel_rfl) g
def D6.t (R : Rt) (N2 : Option Addr → Nat → Nat → Option Addr → Nat → Nat → Option Addr → Nat → Nat → Int → Int → Hp → Prop) (a0 : Option Addr) (l0 : Nat) (c0 : Nat) (a1 : Option Addr) (l1 : Nat) (c1 : Nat) (a2 : Option Addr) (l2 : Nat) (c2 : Nat) (x6 : Int) (x7 : Int) (x13 : Int) (x14 : Int) (h : Hp) : Prop :=
  letK (IntKind.i64.wrap (x6 + (((l1 : Nat) : Int)))) fun n2 =>
  idxK a0 l0 n2 1 fun q3 =>
  stK h q3 (.int .u64 x7) fun h4 =>
  D4.t R N2 a0 l0 c0 a1 l1 c1 a2 l2 c2 x13 x14 h4
def D6.g (R : Rt) (N2 : Option Addr → Nat → Nat → Option Addr → Nat → Nat → Option Addr → Nat → Nat → Int → Int → Hp → Prop) (fr : Fr) (h : Hp) : Prop := gSlice (fr 0) fun a0 l0 c0 => gSlice (fr 1) fun a1 l1 c1 => gSlice (fr 2) fun a2 l2 c2 => gInt .i64 (fr 6) fun x6 => gInt .u64 (fr 7) fun x7 => gInt .i64 (fr 13) fun x13 => gInt .i64 (fr 14) fun x14 => D6.t R N2 a0 l0 c0 a1 l1 c1 a2 l2 c2 x6 x7 x13 x14 h
theorem D6.ok (R : Rt) (N2 : Option Addr → Nat → Nat → Option Addr → Nat → Nat → Option Addr → Nat → Nat → Int → Int → Hp → Prop) (fr : Fr) (h : Hp) (g : D6.g R N2 fr h) : den prog E (cAt C [true, false, false, true, true, false, false, true, true, true]) (Ex.inBlock 1 (Ex.then (D4.g R N2) (Ex.then (L2.g N2) (Ex.inBlock 0 (retQ E [] R))))) fr h := by
  obtain ⟨a0, l0, c0, e0, g⟩ := gSlice_elim g
  obtain ⟨a1, l1, c1, e1, g⟩ := gSlice_elim g
  obtain ⟨a2, l2, c2, e2, g⟩ := gSlice_elim g
  obtain ⟨x6, e6, g⟩ := gInt_elim g
  obtain ⟨x7, e7, g⟩ := gInt_elim g
  obtain ⟨x13, e13, g⟩ := gInt_elim g
  obtain ⟨x14, e14, g⟩ := gInt_elim g
  exact den_enter [(0, .slice a0 l0 c0), (1, .slice a1 l1 c1), (2, .slice a2 l2 c2), (6, .int .i64 x6), (7, .int .u64 x7), (13, .int .i64 x13), (14, .int .i64 x14)] ⟨e0, e1, e2, e6, e7, e13, e14, trivial⟩ (by kernel_rfl) g
def L8.g (N : Option Addr → Nat → Nat → Option Addr → Nat → Nat → Option Addr → Nat → Nat → Int → Int → Int → Int → Int → Int → Hp → Prop) (fr : Fr) (h : Hp) : Prop := gSlice (fr 0) fun a0 l0 c0 => gSlice (fr 1) fun a1 l1 c1 => gSlice (fr 2) fun a2 l2 c2 => gInt .i64 (fr 6) fun x6 => gInt .u64 (fr 7) fun x7 => gInt .i64 (fr 13) fun x13 => gInt .i64 (fr 14) fun x14 => gInt .i64 (fr 18) fun x18 => gInt .i64 (fr 19) fun x19 => N a0 l0 c0 a1 l1 c1 a2 l2 c2 x6 x7 x13 x14 x18 x19 h
def D9.t (R : Rt) (N2 : Option Addr → Nat → Nat → Option Addr → Nat → Nat → Option Addr → Nat → Nat → Int → Int → Hp → Prop) (N8 : Option Addr → Nat → Nat → Option Addr → Nat → Nat → Option Addr → Nat → Nat → Int → Int → Int → Int → Int → Int → Hp → Prop) (a0 : Option Addr) (l0 : Nat) (c0 : Nat) (a1 : Option Addr) (l1 : Nat) (c1 : Nat) (a2 : Option Addr) (l2 : Nat) (c2 : Nat) (x6 : Int) (x7 : Int) (x13 : Int) (x14 : Int) (x18 : Int) (x19 : Int) (h : Hp) : Prop :=
  cond (decide (x19 < x18)) (idxK a1 l1 x19 1 fun q5 =>
  ldK h q5 fun v6 =>
  gInt .u64 v6 fun x_7 =>
  idxK a2 l2 x6 1 fun q8 =>
  ldK h q8 fun v9 =>
  gInt .u64 v9 fun x_10 =>
  HC bits_Mul64.id #[.int .u64 x_7, .int .u64 x_10] h fun v11 h12 =>
  gTup v11 fun y13 =>
  uncons y13 fun v14 y14 =>
  gInt .u64 v14 fun x_15 =>
  uncons y14 fun v16 y16 =>
  gInt .u64 v16 fun x_17 =>
  unnil y16 <| addK x_17 x7 0 fun n18 m18 =>
  letK (IntKind.u64.wrap (x_15 + m18)) fun n19 =>
  letK (IntKind.i64.wrap (x19 + x6)) fun n20 =>
  letK (IntKind.i64.wrap (x19 + x6)) fun n21 =>
  idxK a0 l0 n21 1 fun q22 =>
  ldK h12 q22 fun v23 =>
  gInt .u64 v23 fun x_24 =>
  addK x_24 n18 0 fun n25 m25 =>
  idxK a0 l0 n20 1 fun q26 =>
  stK h12 q26 (.int .u64 n25) fun h27 =>
  letK (IntKind.u64.wrap (n19 + m25)) fun n28 =>
  letK (IntKind.i64.wrap (x19 + 1)) fun n29 =>
  N8 a0 l0 c0 a1 l1 c1 a2 l2 c2 x6 n28 x13 x14 x18 n29 h27) (D6.t R N2 a0 l0 c0 a1 l1 c1 a2 l2 c2 x6 x7 x13 x14 h)
def D9.g (R : Rt) (N2 : Option Addr → Nat → Nat → Option Addr → Nat → Nat → Option Addr → Nat → Nat → Int → Int → Hp → Prop) (N8 : Option Addr → Nat → Nat → Option Addr → Nat → Nat → Option Addr → Nat → Nat → Int → Int → Int → Int → Int → Int → Hp → Prop) (fr : Fr) (h : Hp) : Prop := gSlice (fr 0) fun a0 l0 c0 => gSlice (fr 1) fun a1 l1 c1 => gSlice (fr 2) fun a2 l2 c2 => gInt .i64 (fr 6) fun x6 => gInt .u64 (fr 7) fun x7 => gInt .i64 (fr 13) fun x13 => gInt .i64 (fr 14) fun x14 => gInt .i64 (fr 18) fun x18 => gInt .i64 (fr 19) fun x19 => D9.t R N2 N8 a0 l0 c0 a1 l1 c1 a2 l2 c2 x6 x7 x13 x14 x18 x19 h
theorem D9.ok (R : Rt) (N2 : Option Addr → Nat → Nat → Option Addr → Nat → Nat → Option Addr → Nat → Nat → Int → Int → Hp → Prop) (N8 : Option Addr → Nat → Nat → Option Addr → Nat → Nat → Option Addr → Nat → Nat → Int → Int → Int → Int → Int → Int → Hp → Prop) (fr : Fr) (h : Hp) (g : D9.g R N2 N8 fr h) : den prog E (cAt C [true, false, false, true, true, false, false, true, true, false, true, false, false]) (Ex.then (L8.g N8) (Ex.inBlock 2 (Ex.then (D6.g R N2) (Ex.inBlock 1 (Ex.then (D4.g R N2) (Ex.then (L2.g N2) (Ex.inBlock 0 (retQ E [] R)))))))) fr h := by
  obtain ⟨a0, l0, c0, e0, g⟩ := gSlice_elim g
  obtain ⟨a1, l1, c1, e1, g⟩ := gSlice_elim g
  obtain ⟨a2, l2, c2, e2, g⟩ := gSlice_elim g
  obtain ⟨x6, e6, g⟩ := gInt_elim g
  obtain ⟨x7, e7, g⟩ := gInt_elim g
  obtain ⟨x13, e13, g⟩ := gInt_elim g
  obtain ⟨x14, e14, g⟩ := gInt_elim g
  obtain ⟨x18, e18, g⟩ := gInt_elim g
  obtain ⟨x19, e19, g⟩ := gInt_elim g
  exact den_enter [(0, .slice a0 l0 c0), (1, .slice a1 l1 c1), (2, .slice a2 l2 c2), (6, .int .i64 x6), (7, .int .u64 x7), (13, .int .i64 x13), (14, .int .i64 x14), (18, .int .i64 x18), (19, .int .i64 x19)] ⟨e0, e1, e2, e6, e7, e13, e14, e18, e19, trivial⟩ (by kernel_rfl) g
def L8.t (R : Rt) (N2 : Option Addr → Nat → Nat → Option Addr → Nat → Nat → Option Addr → Nat → Nat → Int → Int → Hp → Prop) : Nat → Option Addr → Nat → Nat → Option Addr → Nat → Nat → Option Addr → Nat → Nat → Int → Int → Int → Int → Int → Int → Hp → Prop
  | 0 => fun _ _ _ _ _ _ _ _ _ _ _ _ _ _ _ _ => False
  | n + 1 => fun a0 l0 c0 a1 l1 c1 a2 l2 c2 x6 x7 x13 x14 x18 x19 h => D9.t R N2 (L8.t R N2 n) a0 l0 c0 a1 l1 c1 a2 l2 c2 x6 x7 x13 x14 x18 x19 h
theorem L8.ok (R : Rt) (N2 : Option Addr → Nat → Nat → Option Addr → Nat → Nat → Option Addr → Nat → Nat → Int → Int → Hp → Prop) (fr : Fr) (h : Hp) (g : L8.g (fun a0 l0 c0 a1 l1 c1 a2 l2 c2 x6 x7 x13 x14 x18 x19 h => ∃ n, L8.t R N2 n a0 l0 c0 a1 l1 c1 a2 l2 c2 x6 x7 x13 x14 x18 x19 h) fr h) : den prog E (cAt C [true, false, false, true, true, false, false, true, true, false, true, false]) (Ex.inBlock 2 (Ex.then (D6.g R N2) (Ex.inBlock 1 (Ex.then (D4.g R N2) (Ex.then (L2.g N2) (Ex.inBlock 0 (retQ E [] R))))))) fr h := by
  obtain ⟨a0, l0, c0, e0, g⟩ := gSlice_elim g
  obtain ⟨a1, l1, c1, e1, g⟩ := gSlice_elim g
  obtain ⟨a2, l2, c2, e2, g⟩ := gSlice_elim g
  obtain ⟨x6, e6, g⟩ := gInt_elim g
  obtain ⟨x7, e7, g⟩ := gInt_elim g
  obtain ⟨x13, e13, g⟩ := gInt_elim g
  obtain ⟨x14, e14, g⟩ := gInt_elim g
  obtain ⟨x18, e18, g⟩ := gInt_elim g
  obtain ⟨x19, e19, g⟩ := gInt_elim g
  obtain ⟨n, g⟩ := g
  refine loop_ok (fun n => L8.g (L8.t R N2 n)) (b := (cAt C [true, false, false, true, true, false, false, true, true, false, true, false, false])) (by kernel_rfl) (fun fr h g => ?_) (fun n => D9.ok R N2 (L8.t R N2 n)) n fr h (gSlice_intro e0 (gSlice_intro e1 (gSlice_intro e2 (gInt_intro e6 (gInt_intro e7 (gInt_intro e13 (gInt_intro e14 (gInt_intro e18 (gInt_intro e19 (g))))))))))
  obtain ⟨a0, l0, c0, e0, g⟩ := gSlice_elim g
  obtain ⟨a1, l1, c1, e1, g⟩ := gSlice_elim g
  obtain ⟨a2, l2, c2, e2, g⟩ := gSlice_elim g
  obtain ⟨x6, e6, g⟩ := gInt_elim g
  obtain ⟨x7, e7, g⟩ := gInt_elim g
  obtain ⟨x13, e13, g⟩ := gInt_elim g
  obtain ⟨x14, e14, g⟩ := gInt_elim g
  obtain ⟨x18, e18, g⟩ := gInt_elim g
  obtain ⟨x19, e19, g⟩ := gInt_elim g
  exact g
theorem B10.ok (R : Rt) (N2 : Option Addr → Nat → Nat → Option Addr → Nat → Nat → Option Addr → Nat → Nat → Int → Int → Hp → Prop) (fr : Fr) (h : Hp) (g : L8.g (fun a0 l0 c0 a1 l1 c1 a2 l2 c2 x6 x7 x13 x14 x18 x19 h => ∃ n, L8.t R N2 n a0 l0 c0 a1 l1 c1 a2 l2 c2 x6 x7 x13 x14 x18 x19 h) fr h) : den prog E (cAt C [true, false, false, true, true, false, false, true, true, false, true]) (Ex.then (D6.g R N2) (Ex.inBlock 1 (Ex.then (D4.g R N2) (Ex.then (L2.g N2) (Ex.inBlock 0 (retQ E [] R)))))) fr h :=
  den_block (by kernel_rfl) (L8.ok R N2 fr h g)
def D7.t (R : Rt) (N2 : Option Addr → Nat → Nat → Option Addr → Nat → Nat → Option Addr → Nat → Nat → Int → Int → Hp → Prop) (a0 : Option Addr) (l0 : Nat) (c0 : Nat) (a1 : Option Addr) (l1 : Nat) (c1 : Nat) (a2 : Option Addr) (l2 : Nat) (c2 : Nat) (x6 : Int) (x7 : Int) (x13 : Int) (x14 : Int) (h : Hp) : Prop :=
  (∃ n, L8.t R N2 n a0 l0 c0 a1 l1 c1 a2 l2 c2 x6 x7 x13 x14 (((l1 : Nat) : Int)) 0 h)
def D7.g (R : Rt) (N2 : Option Addr → Nat → Nat → Option Addr → Nat → Nat → Option Addr → Nat → Nat → Int → Int → Hp → Prop) (fr : Fr) (h : Hp) : Prop := gSlice (fr 0) fun a0 l0 c0 => gSlice (fr 1) fun a1 l1 c1 => gSlice (fr 2) fun a2 l2 c2 => gInt .i64 (fr 6) fun x6 => gInt .u64 (fr 7) fun x7 => gInt .i64 (fr 13) fun x13 => gInt .i64 (fr 14) fun x14 => D7.t R N2 a0 l0 c0 a1 l1 c1 a2 l2 c2 x6 x7 x13 x14 h
theorem D7.ok (R : Rt) (N2 : Option Addr → Nat → Nat → Option Addr → Nat → Nat → Option Addr → Nat → Nat → Int → Int → Hp → Prop) (fr : Fr) (h : Hp) (g : D7.g R N2 fr h) : den prog E (cAt C [true, false, false, true, true, false, false, true, true, false]) (Ex.then (D6.g R N2) (Ex.inBlock 1 (Ex.then (D4.g R N2) (Ex.then (L2.g N2) (Ex.inBlock 0 (retQ E [] R)))))) fr h := by
  obtain ⟨a0, l0, c0, e0, g⟩ := gSlice_elim g
  obtain ⟨a1, l1, c1, e1, g⟩ := gSlice_elim g
  obtain ⟨a2, l2, c2, e2, g⟩ := gSlice_elim g
  obtain ⟨x6, e6, g⟩ := gInt_elim g
  obtain ⟨x7, e7, g⟩ := gInt_elim g
  obtain ⟨x13, e13, g⟩ := gInt_elim g
  obtain ⟨x14, e14, g⟩ := gInt_elim g
  exact den_cut 1 (r := (cAt C [true, false, false, true, true, false, false, true, true, false, true])) (by kernel_rfl) (B10.ok R N2) (den_enter [(0, .slice a0 l0 c0), (1, .slice a1 l1 c1), (2, .slice a2 l2 c2), (6, .int .i64 x6), (7, .int .u64 x7), (13, .int .i64 x13), (14, .int .i64 x14)] ⟨e0, e1, e2, e6, e7, e13, e14, trivial⟩ (by kernel_rfl) g)
theorem W11.ok (R : Rt) (N2 : Option Addr → Nat → Nat → Option Addr → Nat → Nat → Option Addr → Nat → Nat → Int → Int → Hp → Prop) (fr : Fr) (h : Hp) (g : D7.g R N2 fr h) : den prog E (cAt C [true, false, false, true, true, false, false, true, true]) (Ex.inBlock 1 (Ex.then (D4.g R N2) (Ex.then (L2.g N2) (Ex.inBlock 0 (retQ E [] R))))) fr h :=
  den_then (by kernel_rfl) (D6.ok R N2) (D7.ok R N2 fr h g)
def D5.t (R : Rt) (N2 : Option Addr → Nat → Nat → Option Addr → Nat → Nat → Option Addr → Nat → Nat → Int → Int → Hp → Prop) (a0 : Option Addr) (l0 : Nat) (c0 : Nat) (a1 : Option Addr) (l1 : Nat) (c1 : Nat) (a2 : Option Addr) (l2 : Nat) (c2 : Nat) (x13 : Int) (x14 : Int) (h : Hp) : Prop :=
  D7.t R N2 a0 l0 c0 a1 l1 c1 a2 l2 c2 x14 0 x13 x14 h
def D5.g (R : Rt) (N2 : Option Addr → Nat → Nat → Option Addr → Nat → Nat → Option Addr → Nat → Nat → Int → Int → Hp → Prop) (fr : Fr) (h : Hp) : Prop := gSlice (fr 0) fun a0 l0 c0 => gSlice (fr 1) fun a1 l1 c1 => gSlice (fr 2) fun a2 l2 c2 => gInt .i64 (fr 13) fun x13 => gInt .i64 (fr 14) fun x14 => D5.t R N2 a0 l0 c0 a1 l1 c1 a2 l2 c2 x13 x14 h
theorem D5.ok (R : Rt) (N2 : Option Addr → Nat → Nat → Option Addr → Nat → Nat → Option Addr → Nat → Nat → Int → Int → Hp → Prop) (fr : Fr) (h : Hp) (g : D5.g R N2 fr h) : den prog E (cAt C [true, false, false, true, true, false, false]) (Ex.inBlock 1 (Ex.then (D4.g R N2) (Ex.then (L2.g N2) (Ex.inBlock 0 (retQ E [] R))))) fr h := by
  obtain ⟨a0, l0, c0, e0, g⟩ := gSlice_elim g
  obtain ⟨a1, l1, c1, e1, g⟩ := gSlice_elim g
  obtain ⟨a2, l2, c2, e2, g⟩ := gSlice_elim g
  obtain ⟨x13, e13, g⟩ := gInt_elim g
  obtain ⟨x14, e14, g⟩ := gInt_elim g
  exact den_cut 2 (r := (cAt C [true, false, false, true, true, false, false, true, true])) (by kernel_rfl) (W11.ok R N2) (den_enter [(0, .slice a0 l0 c0), (1, .slice a1 l1 c1), (2, .slice a2 l2 c2), (13, .int .i64 x13), (14, .int .i64 x14)] ⟨e0, e1, e2, e13, e14, trivial⟩ (by kernel_rfl) g)
theorem B12.ok (R : Rt) (N2 : Option Addr → Nat → Nat → Option Addr → Nat → Nat → Option Addr → Nat → Nat → Int → Int → Hp → Prop) (fr : Fr) (h : Hp) (g : D5.g R N2 fr h) : den prog E (cAt C [true, false, false, true, true, false]) (Ex.then (D4.g R N2) (Ex.then (L2.g N2) (Ex.inBlock 0 (retQ E [] R)))) fr h :=
  den_block (by kernel_rfl) (D5.ok R N2 fr h g)
theorem W13.ok (R : Rt) (N2 : Option Addr → Nat → Nat → Option Addr → Nat → Nat → Option Addr → Nat → Nat → Int → Int → Hp → Prop) (fr : Fr) (h : Hp) (g : D5.g R N2 fr h) : den prog E (cAt C [true, false, false, true, true]) (Ex.then (L2.g N2) (Ex.inBlock 0 (retQ E [] R))) fr h :=
  den_then (by kernel_rfl) (D4.ok R N2) (B12.ok R N2 fr h g)
def D3.t (R : Rt) (N2 : Option Addr → Nat → Nat → Option Addr → Nat → Nat → Option Addr → Nat → Nat → Int → Int → Hp → Prop) (a0 : Option Addr) (l0 : Nat) (c0 : Nat) (a1 : Option Addr) (l1 : Nat) (c1 : Nat) (a2 : Option Addr) (l2 : Nat) (c2 : Nat) (x13 : Int) (x14 : Int) (h : Hp) : Prop :=
  cond (decide (x14 < x13)) (D5.t R N2 a0 l0 c0 a1 l1 c1 a2 l2 c2 x13 x14 h) (R (.tuple #[]) h)
def D3.g (R : Rt) (N2 : Option Addr → Nat → Nat → Option Addr → Nat → Nat → Option Addr → Nat → Nat → Int → Int → Hp → Prop) (fr : Fr) (h : Hp) : Prop := gSlice (fr 0) fun a0 l0 c0 => gSlice (fr 1) fun a1 l1 c1 => gSlice (fr 2) fun a2 l2 c2 => gInt .i64 (fr 13) fun x13 => gInt .i64 (fr 14) fun x14 => D3.t R N2 a0 l0 c0 a1 l1 c1 a2 l2 c2 x13 x14 h
theorem D3.ok (R : Rt) (N2 : Option Addr → Nat → Nat → Option Addr → Nat → Nat → Option Addr → Nat → Nat → Int → Int → Hp → Prop) (fr : Fr) (h : Hp) (g : D3.g R N2 fr h) : den prog E (cAt C [true, false, false]) (Ex.then (L2.g N2) (Ex.inBlock 0 (retQ E [] R))) fr h := by
  obtain ⟨a0, l0, c0, e0, g⟩ := gSlice_elim g
  obtain ⟨a1, l1, c1, e1, g⟩ := gSlice_elim g
  obtain ⟨a2, l2, c2, e2, g⟩ := gSlice_elim g
  obtain ⟨x13, e13, g⟩ := gInt_elim g
  obtain ⟨x14, e14, g⟩ := gInt_elim g
  exact den_cut 2 (r := (cAt C [true, false, false, true, true])) (by kernel_rfl) (W13.ok R N2) (den_enter [(0, .slice a0 l0 c0), (1, .slice a1 l1 c1), (2, .slice a2 l2 c2), (13, .int .i64 x13), (14, .int .i64 x14)] ⟨e0, e1, e2, e13, e14, trivial⟩ (by kernel_rfl) g)
def L2.t (R : Rt) : Nat → Option Addr → Nat → Nat → Option Addr → Nat → Nat → Option Addr → Nat → Nat → Int → Int → Hp → Prop
  | 0 => fun _ _ _ _ _ _ _ _ _ _ _ _ => False
  | n + 1 => fun a0 l0 c0 a1 l1 c1 a2 l2 c2 x13 x14 h => D3.t R (L2.t R n) a0 l0 c0 a1 l1 c1 a2 l2 c2 x13 x14 h
theorem L2.ok (R : Rt) (fr : Fr) (h : Hp) (g : L2.g (fun a0 l0 c0 a1 l1 c1 a2 l2 c2 x13 x14 h => ∃ n, L2.t R n a0 l0 c0 a1 l1 c1 a2 l2 c2 x13 x14 h) fr h) : den prog E (cAt C [true, false]) (Ex.inBlock 0 (retQ E [] R)) fr h := by
  obtain ⟨a0, l0, c0, e0, g⟩ := gSlice_elim g
  obtain ⟨a1, l1, c1, e1, g⟩ := gSlice_elim g
  obtain ⟨a2, l2, c2, e2, g⟩ := gSlice_elim g
  obtain ⟨x13, e13, g⟩ := gInt_elim g
  obtain ⟨x14, e14, g⟩ := gInt_elim g
  obtain ⟨n, g⟩ := g
  refine loop_ok (fun n => L2.g (L2.t R n)) (b := (cAt C [true, false, false])) (by kernel_rfl) (fun fr h g => ?_) (fun n => D3.ok R (L2.t R n)) n fr h (gSlice_intro e0 (gSlice_intro e1 (gSlice_intro e2 (gInt_intro e13 (gInt_intro e14 (g))))))
  obtain ⟨a0, l0, c0, e0, g⟩ := gSlice_elim g
  obtain ⟨a1, l1, c1, e1, g⟩ := gSlice_elim g
  obtain ⟨a2, l2, c2, e2, g⟩ := gSlice_elim g
  obtain ⟨x13, e13, g⟩ := gInt_elim g
  obtain ⟨x14, e14, g⟩ := gInt_elim g
  exact g
theorem B14.ok (R : Rt) (fr : Fr) (h : Hp) (g : L2.g (fun a0 l0 c0 a1 l1 c1 a2 l2 c2 x13 x14 h => ∃ n, L2.t R n a0 l0 c0 a1 l1 c1 a2 l2 c2 x13 x14 h) fr h) : den prog E (cAt C [true]) (retQ E [] R) fr h :=
  den_block (by kernel_rfl) (L2.ok R fr h g)
def D1.t (R : Rt) (a0 : Option Addr) (l0 : Nat) (c0 : Nat) (a1 : Option Addr) (l1 : Nat) (c1 : Nat) (a2 : Option Addr) (l2 : Nat) (c2 : Nat) (h : Hp) : Prop :=
  (∃ n, L2.t R n a0 l0 c0 a1 l1 c1 a2 l2 c2 (((l2 : Nat) : Int)) 0 h)
def D1.g (R : Rt) (fr : Fr) (h : Hp) : Prop := gSlice (fr 0) fun a0 l0 c0 => gSlice (fr 1) fun a1 l1 c1 => gSlice (fr 2) fun a2 l2 c2 => D1.t R a0 l0 c0 a1 l1 c1 a2 l2 c2 h
theorem D1.ok (R : Rt) (fr : Fr) (h : Hp) (g : D1.g R fr h) : den prog E C (retQ E [] R) fr h := by
  obtain ⟨a0, l0, c0, e0, g⟩ := gSlice_elim g
  obtain ⟨a1, l1, c1, e1, g⟩ := gSlice_elim g
  obtain ⟨a2, l2, c2, e2, g⟩ := gSlice_elim g
  exact den_cut 1 (r := (cAt C [true])) (by kernel_rfl) (B14.ok R) (den_enter [(0, .slice a0 l0 c0), (1, .slice a1 l1 c1), (2, .slice a2 l2 c2)] ⟨e0, e1, e2, trivial⟩ (by kernel_rfl) g)
def t (a0 : Option Addr) (l0 : Nat) (c0 : Nat) (a1 : Option Addr) (l1 : Nat) (c1 : Nat) (a2 : Option Addr) (l2 : Nat) (c2 : Nat) (h : Hp) (R : Rt) : Prop := D1.t R a0 l0 c0 a1 l1 c1 a2 l2 c2 h
theorem ok {a0 : Option Addr} {l0 : Nat} {c0 : Nat} {a1 : Option Addr} {l1 : Nat} {c1 : Nat} {a2 : Option Addr} {l2 : Nat} {c2 : Nat} {h : Hp} {R : Rt} (g : t a0 l0 c0 a1 l1 c1 a2 l2 c2 h R) : HC id #[.slice a0 l0 c0, .slice a1 l1 c1, .slice a2 l2 c2] h R :=
  calls_of_den' envOk (c := C) (rs := []) Tryd.func74 (by kernel_rfl) (by kernel_rfl) (by kernel_rfl) (args := [.slice a0 l0 c0, .slice a1 l1 c1, .slice a2 l2 c2]) (by kernel_rfl) (D1.ok R _ h (gSlice_intro rfl (gSlice_intro rfl (gSlice_intro rfl (g)))))
end natmul_rows

namespace natmul_slabs
noncomputable def C : Code := bodyOf Tryd.f75
def L2.g (N : Option Addr → Nat → Nat → Option Addr → Nat → Nat → Option Addr → Nat → Nat → Int → Hp → Prop) (fr : Fr) (h : Hp) : Prop := gSlice (fr 0) fun a0 l0 c0 => gSlice (fr 1) fun a1 l1 c1 => gSlice (fr 2) fun a2 l2 c2 => gInt .i64 (fr 6) fun x6 => N a0 l0 c0 a1 l1 c1 a2 l2 c2 x6 h
def D3.t (R : Rt) (N2 : Option Addr → Nat → Nat → Option Addr → Nat → Nat → Option Addr → Nat → Nat → Int → Hp → Prop) (a0 : Option Addr) (l0 : Nat) (c0 : Nat) (a1 : Option Addr) (l1 : Nat) (c1 : Nat) (a2 : Option Addr) (l2 : Nat) (c2 : Nat) (x6 : Int) (h : Hp) : Prop :=
  cond (decide (x6 < (((l1 : Nat) : Int)))) (letK (IntKind.i64.wrap (x6 + (((l2 : Nat) : Int)))) fun n1 =>
  slK 1 a1 l1 c1 (some (.int .i64 x6)) (some (.int .i64 (if (((l1 : Nat) : Int)) < n1 then (((l1 : Nat) : Int)) else n1))) (some (.int .i64 (if (((l1 : Nat) : Int)) < n1 then (((l1 : Nat) : Int)) else n1))) fun a_2 l_2 c_2 =>
  HC natmul_trim.id #[.slice a_2 l_2 c_2] h fun v3 h4 =>
  gSlice v3 fun a_5 l_5 c_5 =>
  HC natmul_product.id #[.slice a_5 l_5 c_5, .slice a2 l2 c2] h4 fun v6 h7 =>
  gSlice v6 fun a_8 l_8 c_8 =>
  HC natmul_addAt.id #[.slice a0 l0 c0, .slice a_8 l_8 c_8, .int .i64 x6] h7 fun v9 h10 =>
  gTup v9 fun y11 =>
  unnil y11 <| letK (IntKind.i64.wrap (x6 + (((l2 : Nat) : Int)))) fun n12 =>
  N2 a0 l0 c0 a1 l1 c1 a2 l2 c2 n12 h10) (R (.tuple #[]) h)
def D3.g (R : Rt) (N2 : Option Addr → Nat → Nat → Option Addr → Nat → Nat → Option Addr → Nat → Nat → Int → Hp → Prop) (fr : Fr) (h : Hp) : Prop := gSlice (fr 0) fun a0 l0 c0 => gSlice (fr 1) fun a1 l1 c1 => gSlice (fr 2) fun a2 l2 c2 => gInt .i64 (fr 6) fun x6 => D3.t R N2 a0 l0 c0 a1 l1 c1 a2 l2 c2 x6 h
theorem D3.ok (R : Rt) (N2 : Option Addr → Nat → Nat → Option Addr → Nat → Nat → Option Addr → Nat → Nat → Int → Hp → Prop) (fr : Fr) (h : Hp) (g : D3.g R N2 fr h) : den prog E (cAt C [true, false, false]) (Ex.then (L2.g N2) (Ex.inBlock 0 (retQ E [] R))) fr h := by
  obtain ⟨a0, l0, c0, e0, g⟩ := gSlice_elim g
  obtain ⟨a1, l1, c1, e1, g⟩ := gSlice_elim g
  obtain ⟨a2, l2, c2, e2, g⟩ := gSlice_elim g
  obtain ⟨x6, e6, g⟩ := gInt_elim g
  exact den_enter [(0, .slice a0 l0 c0), (1, .slice a1 l1 c1), (2, .slice a2 l2 c2), (6, .int .i64 x6)] ⟨e0, e1, e2, e6, trivial⟩ (by kernel_rfl) g
def L2.t (R : Rt) : Nat → Option Addr → Nat → Nat → Option Addr → Nat → Nat → Option Addr → Nat → Nat → Int → Hp → Prop
  | 0 => fun _ _ _ _ _ _ _ _ _ _ _ => False
  | n + 1 => fun a0 l0 c0 a1 l1 c1 a2 l2 c2 x6 h => D3.t R (L2.t R n) a0 l0 c0 a1 l1 c1 a2 l2 c2 x6 h
theorem L2.ok (R : Rt) (fr : Fr) (h : Hp) (g : L2.g (fun a0 l0 c0 a1 l1 c1 a2 l2 c2 x6 h => ∃ n, L2.t R n a0 l0 c0 a1 l1 c1 a2 l2 c2 x6 h) fr h) : den prog E (cAt C [true, false]) (Ex.inBlock 0 (retQ E [] R)) fr h := by
  obtain ⟨a0, l0, c0, e0, g⟩ := gSlice_elim g
  obtain ⟨a1, l1, c1, e1, g⟩ := gSlice_elim g
  obtain ⟨a2, l2, c2, e2, g⟩ := gSlice_elim g
  obtain ⟨x6, e6, g⟩ := gInt_elim g
  obtain ⟨n, g⟩ := g
  refine loop_ok (fun n => L2.g (L2.t R n)) (b := (cAt C [true, false, false])) (by kernel_rfl) (fun fr h g => ?_) (fun n => D3.ok R (L2.t R n)) n fr h (gSlice_intro e0 (gSlice_intro e1 (gSlice_intro e2 (gInt_intro e6 (g)))))
  obtain ⟨a0, l0, c0, e0, g⟩ := gSlice_elim g
  obtain ⟨a1, l1, c1, e1, g⟩ := gSlice_elim g
  obtain ⟨a2, l2, c2, e2, g⟩ := gSlice_elim g
  obtain ⟨x6, e6, g⟩ := gInt_elim g
  exact g
theorem B4.ok (R : Rt) (fr : Fr) (h : Hp) (g : L2.g (fun a0 l0 c0 a1 l1 c1 a2 l2 c2 x6 h => ∃ n, L2.t R n a0 l0 c0 a1 l1 c1 a2 l2 c2 x6 h) fr h) : den prog E (cAt C [true]) (retQ E [] R) fr h :=
  den_block (by kernel_rfl) (L2.ok R fr h g)
def D1.t (R : Rt) (a0 : Option Addr) (l0 : Nat) (c0 : Nat) (a1 : Option Addr) (l1 : Nat) (c1 : Nat) (a2 : Option Addr) (l2 : Nat) (c2 : Nat) (h : Hp) : Prop :=
  (∃ n, L2.t R n a0 l0 c0 a1 l1 c1 a2 l2 c2 0 h)
def D1.g (R : Rt) (fr : Fr) (h : Hp) : Prop := gSlice (fr 0) fun a0 l0 c0 => gSlice (fr 1) fun a1 l1 c1 => gSlice (fr 2) fun a2 l2 c2 => D1.t R a0 l0 c0 a1 l1 c1 a2 l2 c2 h
theorem D1.ok (R : Rt) (fr : Fr) (h : Hp) (g : D1.g R fr h) : den prog E C (retQ E [] R) fr h := by
  obtain ⟨a0, l0, c0, e0, g⟩ := gSlice_elim g
  obtain ⟨a1, l1, c1, e1, g⟩ := gSlice_elim g
  obtain ⟨a2, l2, c2, e2, g⟩ := gSlice_elim g
  exact den_cut 1 (r := (cAt C [true])) (by kernel_rfl) (B4.ok R) (den_enter [(0, .slice a0 l0 c0), (1, .slice a1 l1 c1), (2, .slice a2 l2 c2)] ⟨e0, e1, e2, trivial⟩ (by kernel_rfl) g)
def t (a0 : Option Addr) (l0 : Nat) (c0 : Nat) (a1 : Option Addr) (l1 : Nat) (c1 : Nat) (a2 : Option Addr) (l2 : Nat) (c2 : Nat) (h : Hp) (R : Rt) : Prop := D1.t R a0 l0 c0 a1 l1 c1 a2 l2 c2 h
theorem ok {a0 : Option Addr} {l0 : Nat} {c0 : Nat} {a1 : Option Addr} {l1 : Nat} {c1 : Nat} {a2 : Option Addr} {l2 : Nat} {c2 : Nat} {h : Hp} {R : Rt} (g : t a0 l0 c0 a1 l1 c1 a2 l2 c2 h R) : HC id #[.slice a0 l0 c0, .slice a1 l1 c1, .slice a2 l2 c2] h R :=
  calls_of_den' envOk (c := C) (rs := []) Tryd.func75 (by kernel_rfl) (by kernel_rfl) (by kernel_rfl) (args := [.slice a0 l0 c0, .slice a1 l1 c1, .slice a2 l2 c2]) (by kernel_rfl) (D1.ok R _ h (gSlice_intro rfl (gSlice_intro rfl (gSlice_intro rfl (g)))))
end natmul_slabs

namespace natmul_thirds
noncomputable def C : Code := bodyOf Tryd.f76
def D1.t (R : Rt) (a0 : Option Addr) (l0 : Nat) (c0 : Nat) (a1 : Option Addr) (l1 : Nat) (c1 : Nat) (a2 : Option Addr) (l2 : Nat) (c2 : Nat) (h : Hp) : Prop :=
  letK (IntKind.i64.wrap ((((l1 : Nat) : Int)) + 1)) fun n1 =>
  (2 : Int) ≠ 0 ∧ letK (IntKind.i64.wrap (Int.tdiv n1 2)) fun n2 =>
  HC natmul_cut.id #[.slice a1 l1 c1, .int .i64 n2] h fun v3 h4 =>
  gTup v3 fun y5 =>
  uncons y5 fun v6 y6 =>
  gSlice v6 fun a_7 l_7 c_7 =>
  uncons y6 fun v8 y8 =>
  gSlice v8 fun a_9 l_9 c_9 =>
  unnil y8 <| HC natmul_cut.id #[.slice a2 l2 c2, .int .i64 n2] h4 fun v10 h11 =>
  gTup v10 fun y12 =>
  uncons y12 fun v13 y13 =>
  gSlice v13 fun a_14 l_14 c_14 =>
  uncons y13 fun v15 y15 =>
  gSlice v15 fun a_16 l_16 c_16 =>
  unnil y15 <| HC natmul_product.id #[.slice a_7 l_7 c_7, .slice a_14 l_14 c_14] h11 fun v17 h18 =>
  gSlice v17 fun a_19 l_19 c_19 =>
  HC natmul_product.id #[.slice a_9 l_9 c_9, .slice a_16 l_16 c_16] h18 fun v20 h21 =>
  gSlice v20 fun a_22 l_22 c_22 =>
  HC natmul_sum.id #[.slice a_7 l_7 c_7, .slice a_9 l_9 c_9] h21 fun v23 h24 =>
  gSlice v23 fun a_25 l_25 c_25 =>
  HC natmul_sum.id #[.slice a_14 l_14 c_14, .slice a_16 l_16 c_16] h24 fun v26 h27 =>
  gSlice v26 fun a_28 l_28 c_28 =>
  HC natmul_product.id #[.slice a_25 l_25 c_25, .slice a_28 l_28 c_28] h27 fun v29 h30 =>
  gSlice v29 fun a_31 l_31 c_31 =>
  HC natmul_takeAway.id #[.slice a_31 l_31 c_31, .slice a_19 l_19 c_19] h30 fun v32 h33 =>
  gTup v32 fun y34 =>
  unnil y34 <| HC natmul_takeAway.id #[.slice a_31 l_31 c_31, .slice a_22 l_22 c_22] h33 fun v35 h36 =>
  gTup v35 fun y37 =>
  unnil y37 <| cpK h36 1 a0 l0 (.slice a_19 l_19 c_19) fun n38 h38 =>
  HC natmul_trim.id #[.slice a_31 l_31 c_31] h38 fun v39 h40 =>
  gSlice v39 fun a_41 l_41 c_41 =>
  HC natmul_addAt.id #[.slice a0 l0 c0, .slice a_41 l_41 c_41, .int .i64 n2] h40 fun v42 h43 =>
  gTup v42 fun y44 =>
  unnil y44 <| letK (IntKind.i64.wrap (2 * n2)) fun n45 =>
  HC natmul_addAt.id #[.slice a0 l0 c0, .slice a_22 l_22 c_22, .int .i64 n45] h43 fun v46 h47 =>
  gTup v46 fun y48 =>
  unnil y48 <| R (.tuple #[]) h47
def D1.g (R : Rt) (fr : Fr) (h : Hp) : Prop := gSlice (fr 0) fun a0 l0 c0 => gSlice (fr 1) fun a1 l1 c1 => gSlice (fr 2) fun a2 l2 c2 => D1.t R a0 l0 c0 a1 l1 c1 a2 l2 c2 h
theorem D1.ok (R : Rt) (fr : Fr) (h : Hp) (g : D1.g R fr h) : den prog E C (retQ E [] R) fr h := by
  obtain ⟨a0, l0, c0, e0, g⟩ := gSlice_elim g
  obtain ⟨a1, l1, c1, e1, g⟩ := gSlice_elim g
  obtain ⟨a2, l2, c2, e2, g⟩ := gSlice_elim g
  exact den_enter [(0, .slice a0 l0 c0), (1, .slice a1 l1 c1), (2, .slice a2 l2 c2)] ⟨e0, e1, e2, trivial⟩ (by kernel_rfl) g
def t (a0 : Option Addr) (l0 : Nat) (c0 : Nat) (a1 : Option Addr) (l1 : Nat) (c1 : Nat) (a2 : Option Addr) (l2 : Nat) (c2 : Nat) (h : Hp) (R : Rt) : Prop := D1.t R a0 l0 c0 a1 l1 c1 a2 l2 c2 h
theorem ok {a0 : Option Addr} {l0 : Nat} {c0 : Nat} {a1 : Option Addr} {l1 : Nat} {c1 : Nat} {a2 : Option Addr} {l2 : Nat} {c2 : Nat} {h : Hp} {R : Rt} (g : t a0 l0 c0 a1 l1 c1 a2 l2 c2 h R) : HC id #[.slice a0 l0 c0, .slice a1 l1 c1, .slice a2 l2 c2] h R :=
  calls_of_den' envOk (c := C) (rs := []) Tryd.func76 (by kernel_rfl) (by kernel_rfl) (by kernel_rfl) (args := [.slice a0 l0 c0, .slice a1 l1 c1, .slice a2 l2 c2]) (by kernel_rfl) (D1.ok R _ h (gSlice_intro rfl (gSlice_intro rfl (gSlice_intro rfl (g)))))
end natmul_thirds

namespace num_way_more
noncomputable def C : Code := bodyOf Tryd.f78
def D1.t (R : Rt) (x0 : Int) (b1 : Bool) (b2 : Bool) (b3 : Bool) (x4 : Int) (h : Hp) : Prop :=
  cond (x0 == 0) (cond b1 (R (.bool b3) h) (R (.bool false) h)) (cond (x0 == 1) (cond (!b1) (R (.bool b3) h) (R (.bool false) h)) (cond (decide (x4 > 0)) (R (.bool true) h) (cond (x4 == 0) (R (.bool b2) h) (R (.bool false) h))))
def D1.g (R : Rt) (fr : Fr) (h : Hp) : Prop := gInt .i64 (fr 0) fun x0 => gBool (fr 1) fun b1 => gBool (fr 2) fun b2 => gBool (fr 3) fun b3 => gInt .i64 (fr 4) fun x4 => D1.t R x0 b1 b2 b3 x4 h
theorem D1.ok (R : Rt) (fr : Fr) (h : Hp) (g : D1.g R fr h) : den prog E C (retQ E [.tmp 10] R) fr h := by
  obtain ⟨x0, e0, g⟩ := gInt_elim g
  obtain ⟨b1, e1, g⟩ := gBool_elim g
  obtain ⟨b2, e2, g⟩ := gBool_elim g
  obtain ⟨b3, e3, g⟩ := gBool_elim g
  obtain ⟨x4, e4, g⟩ := gInt_elim g
  exact den_enter [(0, .int .i64 x0), (1, .bool b1), (2, .bool b2), (3, .bool b3), (4, .int .i64 x4)] ⟨e0, e1, e2, e3, e4, trivial⟩ (by kernel_rfl) g
def t (x0 : Int) (b1 : Bool) (b2 : Bool) (b3 : Bool) (x4 : Int) (h : Hp) (R : Rt) : Prop := D1.t R x0 b1 b2 b3 x4 h
theorem ok {x0 : Int} {b1 : Bool} {b2 : Bool} {b3 : Bool} {x4 : Int} {h : Hp} {R : Rt} (g : t x0 b1 b2 b3 x4 h R) : HC id #[.int .i64 x0, .bool b1, .bool b2, .bool b3, .int .i64 x4] h R :=
  calls_of_den' envOk (c := C) (rs := [.tmp 10]) Tryd.func78 (by kernel_rfl) (by kernel_rfl) (by kernel_rfl) (args := [.int .i64 x0, .bool b1, .bool b2, .bool b3, .int .i64 x4]) (by kernel_rfl) (D1.ok R _ h (gInt_intro rfl (gBool_intro rfl (gBool_intro rfl (gBool_intro rfl (gInt_intro rfl (g)))))))
end num_way_more

namespace bits_TrailingZeros64
noncomputable def C : Code := bodyOf Tryd.f79
def D2.t (R : Rt) (x0 : Int) (h : Hp) : Prop :=
  letK (IntKind.u64.wrap (0 - x0)) fun n1 =>
  letK (andI .u64 x0 n1) fun n2 =>
  letK (IntKind.u64.wrap (n2 * 285870213051353865)) fun n3 =>
  0 ≤ (58 : Int) ∧ letK (shrI .u64 n3 58) fun n4 =>
  idxK (some ⟨2, 0, none⟩) 64 n4 1 fun q5 =>
  ldK h q5 fun v6 =>
  gInt .u8 v6 fun x_7 =>
  letK (IntKind.i64.wrap x_7) fun n8 =>
  R (.int .i64 n8) h
def D2.g (R : Rt) (fr : Fr) (h : Hp) : Prop := gInt .u64 (fr 0) fun x0 => D2.t R x0 h
theorem D2.ok (R : Rt) (fr : Fr) (h : Hp) (g : D2.g R fr h) : den prog E (cAt C [true, true]) (retQ E [.tmp 2] R) fr h := by
  obtain ⟨x0, e0, g⟩ := gInt_elim g
  exact den_enter [(0, .int .u64 x0)] ⟨e0, trivial⟩ (by kernel_rfl) g
def D1.t (R : Rt) (x0 : Int) (h : Hp) : Prop :=
  cond (x0 == 0) (R (.int .i64 64) h) (D2.t R x0 h)
def D1.g (R : Rt) (fr : Fr) (h : Hp) : Prop := gInt .u64 (fr 0) fun x0 => D1.t R x0 h
theorem D1.ok (R : Rt) (fr : Fr) (h : Hp) (g : D1.g R fr h) : den prog E C (retQ E [.tmp 2] R) fr h := by
  obtain ⟨x0, e0, g⟩ := gInt_elim g
  exact den_cut 2 (r := (cAt C [true, true])) (by kernel_rfl) (D2.ok R) (den_enter [(0, .int .u64 x0)] ⟨e0, trivial⟩ (by kernel_rfl) g)
def t (x0 : Int) (h : Hp) (R : Rt) : Prop := D1.t R x0 h
theorem ok {x0 : Int} {h : Hp} {R : Rt} (g : t x0 h R) : HC id #[.int .u64 x0] h R :=
  calls_of_den' envOk (c := C) (rs := [.tmp 2]) Tryd.func79 (by kernel_rfl) (by kernel_rfl) (by kernel_rfl) (args := [.int .u64 x0]) (by kernel_rfl) (D1.ok R _ h (gInt_intro rfl (g)))
end bits_TrailingZeros64

namespace natmul_addAt
noncomputable def C : Code := bodyOf Tryd.f80
def L3.g (N : Option Addr → Nat → Nat → Int → Int → Hp → Prop) (fr : Fr) (h : Hp) : Prop := gSlice (fr 0) fun a0 l0 c0 => gInt .u64 (fr 6) fun x6 => gInt .i64 (fr 8) fun x8 => N a0 l0 c0 x6 x8 h
def D4.t (R : Rt) (N3 : Option Addr → Nat → Nat → Int → Int → Hp → Prop) (a0 : Option Addr) (l0 : Nat) (c0 : Nat) (x6 : Int) (x8 : Int) (h : Hp) : Prop :=
  cond (decide (x6 > 0)) (idxK a0 l0 x8 1 fun q2 =>
  ldK h q2 fun v3 =>
  gInt .u64 v3 fun x_4 =>
  addK x_4 0 x6 fun n5 m5 =>
  idxK a0 l0 x8 1 fun q6 =>
  stK h q6 (.int .u64 n5) fun h7 =>
  letK (IntKind.i64.wrap (x8 + 1)) fun n8 =>
  N3 a0 l0 c0 m5 n8 h7) (R (.tuple #[]) h)
def D4.g (R : Rt) (N3 : Option Addr → Nat → Nat → Int → Int → Hp → Prop) (fr : Fr) (h : Hp) : Prop := gSlice (fr 0) fun a0 l0 c0 => gInt .u64 (fr 6) fun x6 => gInt .i64 (fr 8) fun x8 => D4.t R N3 a0 l0 c0 x6 x8 h
theorem D4.ok (R : Rt) (N3 : Option Addr → Nat → Nat → Int → Int → Hp → Prop) (fr : Fr) (h : Hp) (g : D4.g R N3 fr h) : den prog E (cAt C [true, true, true, false, false]) (Ex.then (L3.g N3) (Ex.inBlock 2 (retQ E [] R))) fr h := by
  obtain ⟨a0, l0, c0, e0, g⟩ := gSlice_elim g
  obtain ⟨x6, e6, g⟩ := gInt_elim g
  obtain ⟨x8, e8, g⟩ := gInt_elim g
  exact den_enter [(0, .slice a0 l0 c0), (6, .int .u64 x6), (8, .int .i64 x8)] ⟨e0, e6, e8, trivial⟩ (by kernel_rfl) g
def L3.t (R : Rt) : Nat → Option Addr → Nat → Nat → Int → Int → Hp → Prop
  | 0 => fun _ _ _ _ _ _ => False
  | n + 1 => fun a0 l0 c0 x6 x8 h => D4.t R (L3.t R n) a0 l0 c0 x6 x8 h
theorem L3.ok (R : Rt) (fr : Fr) (h : Hp) (g : L3.g (fun a0 l0 c0 x6 x8 h => ∃ n, L3.t R n a0 l0 c0 x6 x8 h) fr h) : den prog E (cAt C [true, true, true, false]) (Ex.inBlock 2 (retQ E [] R)) fr h := by
  obtain ⟨a0, l0, c0, e0, g⟩ := gSlice_elim g
  obtain ⟨x6, e6, g⟩ := gInt_elim g
  obtain ⟨x8, e8, g⟩ := gInt_elim g
  obtain ⟨n, g⟩ := g
  refine loop_ok (fun n => L3.g (L3.t R n)) (b := (cAt C [true, true, true, false, false])) (by kernel_rfl) (fun fr h g => ?_) (fun n => D4.ok R (L3.t R n)) n fr h (gSlice_intro e0 (gInt_intro e6 (gInt_intro e8 (g))))
  obtain ⟨a0, l0, c0, e0, g⟩ := gSlice_elim g
  obtain ⟨x6, e6, g⟩ := gInt_elim g
  obtain ⟨x8, e8, g⟩ := gInt_elim g
  exact g
theorem B5.ok (R : Rt) (fr : Fr) (h : Hp) (g : L3.g (fun a0 l0 c0 x6 x8 h => ∃ n, L3.t R n a0 l0 c0 x6 x8 h) fr h) : den prog E (cAt C [true, true, true]) (retQ E [] R) fr h :=
  den_block (by kernel_rfl) (L3.ok R fr h g)
def D2.t (R : Rt) (a0 : Option Addr) (l0 : Nat) (c0 : Nat) (a1 : Option Addr) (l1 : Nat) (c1 : Nat) (x2 : Int) (x6 : Int) (h : Hp) : Prop :=
  letK (IntKind.i64.wrap (x2 + (((l1 : Nat) : Int)))) fun n1 => (∃ n, L3.t R n a0 l0 c0 x6 n1 h)
def D2.g (R : Rt) (fr : Fr) (h : Hp) : Prop := gSlice (fr 0) fun a0 l0 c0 => gSlice (fr 1) fun a1 l1 c1 => gInt .i64 (fr 2) fun x2 => gInt .u64 (fr 6) fun x6 => D2.t R a0 l0 c0 a1 l1 c1 x2 x6 h
theorem D2.ok (R : Rt) (fr : Fr) (h : Hp) (g : D2.g R fr h) : den prog E (cAt C [true, true]) (retQ E [] R) fr h := by
  obtain ⟨a0, l0, c0, e0, g⟩ := gSlice_elim g
  obtain ⟨a1, l1, c1, e1, g⟩ := gSlice_elim g
  obtain ⟨x2, e2, g⟩ := gInt_elim g
  obtain ⟨x6, e6, g⟩ := gInt_elim g
  exact den_cut 1 (r := (cAt C [true, true, true])) (by kernel_rfl) (B5.ok R) (den_enter [(0, .slice a0 l0 c0), (1, .slice a1 l1 c1), (2, .int .i64 x2), (6, .int .u64 x6)] ⟨e0, e1, e2, e6, trivial⟩ (by kernel_rfl) g)
def L7.g (N : Option Addr → Nat → Nat → Option Addr → Nat → Nat → Int → Int → Int → Int → Hp → Prop) (fr : Fr) (h : Hp) : Prop := gSlice (fr 0) fun a0 l0 c0 => gSlice (fr 1) fun a1 l1 c1 => gInt .i64 (fr 2) fun x2 => gInt .u64 (fr 6) fun x6 => gInt .i64 (fr 10) fun x10 => gInt .i64 (fr 11) fun x11 => N a0 l0 c0 a1 l1 c1 x2 x6 x10 x11 h
def D8.t (R : Rt) (N7 : Option Addr → Nat → Nat → Option Addr → Nat → Nat → Int → Int → Int → Int → Hp → Prop) (a0 : Option Addr) (l0 : Nat) (c0 : Nat) (a1 : Option Addr) (l1 : Nat) (c1 : Nat) (x2 : Int) (x6 : Int) (x10 : Int) (x11 : Int) (h : Hp) : Prop :=
  cond (decide (x11 < x10)) (letK (IntKind.i64.wrap (x2 + x11)) fun n9 =>
  letK (IntKind.i64.wrap (x2 + x11)) fun n10 =>
  idxK a0 l0 n10 1 fun q11 =>
  ldK h q11 fun v12 =>
  gInt .u64 v12 fun x_13 =>
  idxK a1 l1 x11 1 fun q14 =>
  ldK h q14 fun v15 =>
  gInt .u64 v15 fun x_16 =>
  addK x_13 x_16 x6 fun n17 m17 =>
  idxK a0 l0 n9 1 fun q18 =>
  stK h q18 (.int .u64 n17) fun h19 =>
  letK (IntKind.i64.wrap (x11 + 1)) fun n20 =>
  N7 a0 l0 c0 a1 l1 c1 x2 m17 x10 n20 h19) (D2.t R a0 l0 c0 a1 l1 c1 x2 x6 h)
def D8.g (R : Rt) (N7 : Option Addr → Nat → Nat → Option Addr → Nat → Nat → Int → Int → Int → Int → Hp → Prop) (fr : Fr) (h : Hp) : Prop := gSlice (fr 0) fun a0 l0 c0 => gSlice (fr 1) fun a1 l1 c1 => gInt .i64 (fr 2) fun x2 => gInt .u64 (fr 6) fun x6 => gInt .i64 (fr 10) fun x10 => gInt .i64 (fr 11) fun x11 => D8.t R N7 a0 l0 c0 a1 l1 c1 x2 x6 x10 x11 h
theorem D8.ok (R : Rt) (N7 : Option Addr → Nat → Nat → Option Addr → Nat → Nat → Int → Int → Int → Int → Hp → Prop) (fr : Fr) (h : Hp) (g : D8.g R N7 fr h) : den prog E (cAt C [true, false, true, false, false]) (Ex.then (L7.g N7) (Ex.inBlock 0 (Ex.then (D2.g R) (retQ E [] R)))) fr h := by
  obtain ⟨a0, l0, c0, e0, g⟩ := gSlice_elim g
  obtain ⟨a1, l1, c1, e1, g⟩ := gSlice_elim g
  obtain ⟨x2, e2, g⟩ := gInt_elim g
  obtain ⟨x6, e6, g⟩ := gInt_elim g
  obtain ⟨x10, e10, g⟩ := gInt_elim g
  obtain ⟨x11, e11, g⟩ := gInt_elim g
  exact den_enter [(0, .slice a0 l0 c0), (1, .slice a1 l1 c1), (2, .int .i64 x2), (6, .int .u64 x6), (10, .int .i64 x10), (11, .int .i64 x11)] ⟨e0, e1, e2, e6, e10, e11, trivial⟩ (by kernel_rfl) g
def L7.t (R : Rt) : Nat → Option Addr → Nat → Nat → Option Addr → Nat → Nat → Int → Int → Int → Int → Hp → Prop
  | 0 => fun _ _ _ _ _ _ _ _ _ _ _ => False
  | n + 1 => fun a0 l0 c0 a1 l1 c1 x2 x6 x10 x11 h => D8.t R (L7.t R n) a0 l0 c0 a1 l1 c1 x2 x6 x10 x11 h
theorem L7.ok (R : Rt) (fr : Fr) (h : Hp) (g : L7.g (fun a0 l0 c0 a1 l1 c1 x2 x6 x10 x11 h => ∃ n, L7.t R n a0 l0 c0 a1 l1 c1 x2 x6 x10 x11 h) fr h) : den prog E (cAt C [true, false, true, false]) (Ex.inBlock 0 (Ex.then (D2.g R) (retQ E [] R))) fr h := by
  obtain ⟨a0, l0, c0, e0, g⟩ := gSlice_elim g
  obtain ⟨a1, l1, c1, e1, g⟩ := gSlice_elim g
  obtain ⟨x2, e2, g⟩ := gInt_elim g
  obtain ⟨x6, e6, g⟩ := gInt_elim g
  obtain ⟨x10, e10, g⟩ := gInt_elim g
  obtain ⟨x11, e11, g⟩ := gInt_elim g
  obtain ⟨n, g⟩ := g
  refine loop_ok (fun n => L7.g (L7.t R n)) (b := (cAt C [true, false, true, false, false])) (by kernel_rfl) (fun fr h g => ?_) (fun n => D8.ok R (L7.t R n)) n fr h (gSlice_intro e0 (gSlice_intro e1 (gInt_intro e2 (gInt_intro e6 (gInt_intro e10 (gInt_intro e11 (g)))))))
  obtain ⟨a0, l0, c0, e0, g⟩ := gSlice_elim g
  obtain ⟨a1, l1, c1, e1, g⟩ := gSlice_elim g
  obtain ⟨x2, e2, g⟩ := gInt_elim g
  obtain ⟨x6, e6, g⟩ := gInt_elim g
  obtain ⟨x10, e10, g⟩ := gInt_elim g
  obtain ⟨x11, e11, g⟩ := gInt_elim g
  exact g
theorem B9.ok (R : Rt) (fr : Fr) (h : Hp) (g : L7.g (fun a0 l0 c0 a1 l1 c1 x2 x6 x10 x11 h => ∃ n, L7.t R n a0 l0 c0 a1 l1 c1 x2 x6 x10 x11 h) fr h) : den prog E (cAt C [true, false, true]) (Ex.then (D2.g R) (retQ E [] R)) fr h :=
  den_block (by kernel_rfl) (L7.ok R fr h g)
def D6.t (R : Rt) (a0 : Option Addr) (l0 : Nat) (c0 : Nat) (a1 : Option Addr) (l1 : Nat) (c1 : Nat) (x2 : Int) (x6 : Int) (h : Hp) : Prop :=
  (∃ n, L7.t R n a0 l0 c0 a1 l1 c1 x2 x6 (((l1 : Nat) : Int)) 0 h)
def D6.g (R : Rt) (fr : Fr) (h : Hp) : Prop := gSlice (fr 0) fun a0 l0 c0 => gSlice (fr 1) fun a1 l1 c1 => gInt .i64 (fr 2) fun x2 => gInt .u64 (fr 6) fun x6 => D6.t R a0 l0 c0 a1 l1 c1 x2 x6 h
theorem D6.ok (R : Rt) (fr : Fr) (h : Hp) (g : D6.g R fr h) : den prog E (cAt C [true, false]) (Ex.then (D2.g R) (retQ E [] R)) fr h := by
  obtain ⟨a0, l0, c0, e0, g⟩ := gSlice_elim g
  obtain ⟨a1, l1, c1, e1, g⟩ := gSlice_elim g
  obtain ⟨x2, e2, g⟩ := gInt_elim g
  obtain ⟨x6, e6, g⟩ := gInt_elim g
  exact den_cut 1 (r := (cAt C [true, false, true])) (by kernel_rfl) (B9.ok R) (den_enter [(0, .slice a0 l0 c0), (1, .slice a1 l1 c1), (2, .int .i64 x2), (6, .int .u64 x6)] ⟨e0, e1, e2, e6, trivial⟩ (by kernel_rfl) g)
theorem W10.ok (R : Rt) (fr : Fr) (h : Hp) (g : D6.g R fr h) : den prog E (cAt C [true]) (retQ E [] R) fr h :=
  den_then (by kernel_rfl) (D2.ok R) (D6.ok R fr h g)
def D1.t (R : Rt) (a0 : Option Addr) (l0 : Nat) (c0 : Nat) (a1 : Option Addr) (l1 : Nat) (c1 : Nat) (x2 : Int) (h : Hp) : Prop :=
  D6.t R a0 l0 c0 a1 l1 c1 x2 0 h
def D1.g (R : Rt) (fr : Fr) (h : Hp) : Prop := gSlice (fr 0) fun a0 l0 c0 => gSlice (fr 1) fun a1 l1 c1 => gInt .i64 (fr 2) fun x2 => D1.t R a0 l0 c0 a1 l1 c1 x2 h
theorem D1.ok (R : Rt) (fr : Fr) (h : Hp) (g : D1.g R fr h) : den prog E C (retQ E [] R) fr h := by
  obtain ⟨a0, l0, c0, e0, g⟩ := gSlice_elim g
  obtain ⟨a1, l1, c1, e1, g⟩ := gSlice_elim g
  obtain ⟨x2, e2, g⟩ := gInt_elim g
  exact den_cut 1 (r := (cAt C [true])) (by kernel_rfl) (W10.ok R) (den_enter [(0, .slice a0 l0 c0), (1, .slice a1 l1 c1), (2, .int .i64 x2)] ⟨e0, e1, e2, trivial⟩ (by kernel_rfl) g)
def t (a0 : Option Addr) (l0 : Nat) (c0 : Nat) (a1 : Option Addr) (l1 : Nat) (c1 : Nat) (x2 : Int) (h : Hp) (R : Rt) : Prop := D1.t R a0 l0 c0 a1 l1 c1 x2 h
theorem ok {a0 : Option Addr} {l0 : Nat} {c0 : Nat} {a1 : Option Addr} {l1 : Nat} {c1 : Nat} {x2 : Int} {h : Hp} {R : Rt} (g : t a0 l0 c0 a1 l1 c1 x2 h R) : HC id #[.slice a0 l0 c0, .slice a1 l1 c1, .int .i64 x2] h R :=
  calls_of_den' envOk (c := C) (rs := []) Tryd.func80 (by kernel_rfl) (by kernel_rfl) (by kernel_rfl) (args := [.slice a0 l0 c0, .slice a1 l1 c1, .int .i64 x2]) (by kernel_rfl) (D1.ok R _ h (gSlice_intro rfl (gSlice_intro rfl (gInt_intro rfl (g)))))
end natmul_addAt

namespace natmul_cut
noncomputable def C : Code := bodyOf Tryd.f81
def D1.t (R : Rt) (a0 : Option Addr) (l0 : Nat) (c0 : Nat) (x1 : Int) (h : Hp) : Prop :=
  cond (decide (x1 ≥ (((l0 : Nat) : Int)))) (slK 1 a0 l0 c0 none (some (.int .i64 (((l0 : Nat) : Int)))) (some (.int .i64 (((l0 : Nat) : Int)))) fun a_1 l_1 c_1 =>
  HC natmul_trim.id #[.slice a_1 l_1 c_1] h fun v2 h3 =>
  gSlice v2 fun a_4 l_4 c_4 =>
  R (.tuple #[.slice a_4 l_4 c_4, .slice none 0 0]) h3) (slK 1 a0 l0 c0 none (some (.int .i64 x1)) (some (.int .i64 x1)) fun a_5 l_5 c_5 =>
  HC natmul_trim.id #[.slice a_5 l_5 c_5] h fun v6 h7 =>
  gSlice v6 fun a_8 l_8 c_8 =>
  slK 1 a0 l0 c0 (some (.int .i64 x1)) (some (.int .i64 (((l0 : Nat) : Int)))) (some (.int .i64 (((l0 : Nat) : Int)))) fun a_9 l_9 c_9 =>
  R (.tuple #[.slice a_8 l_8 c_8, .slice a_9 l_9 c_9]) h7)
def D1.g (R : Rt) (fr : Fr) (h : Hp) : Prop := gSlice (fr 0) fun a0 l0 c0 => gInt .i64 (fr 1) fun x1 => D1.t R a0 l0 c0 x1 h
theorem D1.ok (R : Rt) (fr : Fr) (h : Hp) (g : D1.g R fr h) : den prog E C (retQ E [.tmp 4, .tmp 5] R) fr h := by
  obtain ⟨a0, l0, c0, e0, g⟩ := gSlice_elim g
  obtain ⟨x1, e1, g⟩ := gInt_elim g
  exact den_enter [(0, .slice a0 l0 c0), (1, .int .i64 x1)] ⟨e0, e1, trivial⟩ (by kernel_rfl) g
def t (a0 : Option Addr) (l0 : Nat) (c0 : Nat) (x1 : Int) (h : Hp) (R : Rt) : Prop := D1.t R a0 l0 c0 x1 h
theorem ok {a0 : Option Addr} {l0 : Nat} {c0 : Nat} {x1 : Int} {h : Hp} {R : Rt} (g : t a0 l0 c0 x1 h R) : HC id #[.slice a0 l0 c0, .int .i64 x1] h R :=
  calls_of_den' envOk (c := C) (rs := [.tmp 4, .tmp 5]) Tryd.func81 (by kernel_rfl) (by kernel_rfl) (by kernel_rfl) (args := [.slice a0 l0 c0, .int .i64 x1]) (by kernel_rfl) (D1.ok R _ h (gSlice_intro rfl (gInt_intro rfl (g))))
end natmul_cut

namespace natmul_sum
noncomputable def C : Code := bodyOf Tryd.f82
def D2.t (R : Rt) (a0 : Option Addr) (l0 : Nat) (c0 : Nat) (a1 : Option Addr) (l1 : Nat) (c1 : Nat) (h : Hp) : Prop :=
  letK (IntKind.i64.wrap ((((l0 : Nat) : Int)) + 1)) fun n1 =>
  mkK h 28 T28 n1 n1 fun q2 h3 =>
  cpK h3 1 (some q2) n1.toNat (.slice a0 l0 c0) fun n4 h4 =>
  HC natmul_addAt.id #[.slice (some q2) n1.toNat n1.toNat, .slice a1 l1 c1, .int .i64 0] h4 fun v5 h6 =>
  gTup v5 fun y7 =>
  unnil y7 <| HC natmul_trim.id #[.slice (some q2) n1.toNat n1.toNat] h6 fun v8 h9 =>
  gSlice v8 fun a_10 l_10 c_10 =>
  R (.slice a_10 l_10 c_10) h9
def D2.g (R : Rt) (fr : Fr) (h : Hp) : Prop := gSlice (fr 0) fun a0 l0 c0 => gSlice (fr 1) fun a1 l1 c1 => D2.t R a0 l0 c0 a1 l1 c1 h
theorem D2.ok (R : Rt) (fr : Fr) (h : Hp) (g : D2.g R fr h) : den prog E (cAt C [true, true]) (retQ E [.tmp 4] R) fr h := by
  obtain ⟨a0, l0, c0, e0, g⟩ := gSlice_elim g
  obtain ⟨a1, l1, c1, e1, g⟩ := gSlice_elim g
  exact den_enter [(0, .slice a0 l0 c0), (1, .slice a1 l1 c1)] ⟨e0, e1, trivial⟩ (by kernel_rfl) g
def D1.t (R : Rt) (a0 : Option Addr) (l0 : Nat) (c0 : Nat) (a1 : Option Addr) (l1 : Nat) (c1 : Nat) (h : Hp) : Prop :=
  cond (decide ((((l0 : Nat) : Int)) < (((l1 : Nat) : Int)))) (D2.t R a1 l1 c1 a0 l0 c0 h) (D2.t R a0 l0 c0 a1 l1 c1 h)
def D1.g (R : Rt) (fr : Fr) (h : Hp) : Prop := gSlice (fr 0) fun a0 l0 c0 => gSlice (fr 1) fun a1 l1 c1 => D1.t R a0 l0 c0 a1 l1 c1 h
theorem D1.ok (R : Rt) (fr : Fr) (h : Hp) (g : D1.g R fr h) : den prog E C (retQ E [.tmp 4] R) fr h := by
  obtain ⟨a0, l0, c0, e0, g⟩ := gSlice_elim g
  obtain ⟨a1, l1, c1, e1, g⟩ := gSlice_elim g
  exact den_cut 2 (r := (cAt C [true, true])) (by kernel_rfl) (D2.ok R) (den_enter [(0, .slice a0 l0 c0), (1, .slice a1 l1 c1)] ⟨e0, e1, trivial⟩ (by kernel_rfl) g)
def t (a0 : Option Addr) (l0 : Nat) (c0 : Nat) (a1 : Option Addr) (l1 : Nat) (c1 : Nat) (h : Hp) (R : Rt) : Prop := D1.t R a0 l0 c0 a1 l1 c1 h
theorem ok {a0 : Option Addr} {l0 : Nat} {c0 : Nat} {a1 : Option Addr} {l1 : Nat} {c1 : Nat} {h : Hp} {R : Rt} (g : t a0 l0 c0 a1 l1 c1 h R) : HC id #[.slice a0 l0 c0, .slice a1 l1 c1] h R :=
  calls_of_den' envOk (c := C) (rs := [.tmp 4]) Tryd.func82 (by kernel_rfl) (by kernel_rfl) (by kernel_rfl) (args := [.slice a0 l0 c0, .slice a1 l1 c1]) (by kernel_rfl) (D1.ok R _ h (gSlice_intro rfl (gSlice_intro rfl (g))))
end natmul_sum

namespace natmul_takeAway
noncomputable def C : Code := bodyOf Tryd.f83
def L3.g (N : Option Addr → Nat → Nat → Int → Int → Hp → Prop) (fr : Fr) (h : Hp) : Prop := gSlice (fr 0) fun a0 l0 c0 => gInt .u64 (fr 4) fun x4 => gInt .i64 (fr 6) fun x6 => N a0 l0 c0 x4 x6 h
def D4.t (R : Rt) (N3 : Option Addr → Nat → Nat → Int → Int → Hp → Prop) (a0 : Option Addr) (l0 : Nat) (c0 : Nat) (x4 : Int) (x6 : Int) (h : Hp) : Prop :=
  cond (decide (x4 > 0)) (idxK a0 l0 x6 1 fun q1 =>
  ldK h q1 fun v2 =>
  gInt .u64 v2 fun x_3 =>
  subK x_3 0 x4 fun n4 m4 =>
  idxK a0 l0 x6 1 fun q5 =>
  stK h q5 (.int .u64 n4) fun h6 =>
  letK (IntKind.i64.wrap (x6 + 1)) fun n7 =>
  N3 a0 l0 c0 m4 n7 h6) (R (.tuple #[]) h)
def D4.g (R : Rt) (N3 : Option Addr → Nat → Nat → Int → Int → Hp → Prop) (fr : Fr) (h : Hp) : Prop := gSlice (fr 0) fun a0 l0 c0 => gInt .u64 (fr 4) fun x4 => gInt .i64 (fr 6) fun x6 => D4.t R N3 a0 l0 c0 x4 x6 h
theorem D4.ok (R : Rt) (N3 : Option Addr → Nat → Nat → Int → Int → Hp → Prop) (fr : Fr) (h : Hp) (g : D4.g R N3 fr h) : den prog E (cAt C [true, true, true, false, false]) (Ex.then (L3.g N3) (Ex.inBlock 2 (retQ E [] R))) fr h := by
  obtain ⟨a0, l0, c0, e0, g⟩ := gSlice_elim g
  obtain ⟨x4, e4, g⟩ := gInt_elim g
  obtain ⟨x6, e6, g⟩ := gInt_elim g
  exact den_enter [(0, .slice a0 l0 c0), (4, .int .u64 x4), (6, .int .i64 x6)] ⟨e0, e4, e6, trivial⟩ (by kernel_rfl) g
def L3.t (R : Rt) : Nat → Option Addr → Nat → Nat → Int → Int → Hp → Prop
  | 0 => fun _ _ _ _ _ _ => False
  | n + 1 => fun a0 l0 c0 x4 x6 h => D4.t R (L3.t R n) a0 l0 c0 x4 x6 h
theorem L3.ok (R : Rt) (fr : Fr) (h : Hp) (g : L3.g (fun a0 l0 c0 x4 x6 h => ∃ n, L3.t R n a0 l0 c0 x4 x6 h) fr h) : den prog E (cAt C [true, true, true, false]) (Ex.inBlock 2 (retQ E [] R)) fr h := by
  obtain ⟨a0, l0, c0, e0, g⟩ := gSlice_elim g
  obtain ⟨x4, e4, g⟩ := gInt_elim g
  obtain ⟨x6, e6, g⟩ := gInt_elim g
  obtain ⟨n, g⟩ := g
  refine loop_ok (fun n => L3.g (L3.t R n)) (b := (cAt C [true, true, true, false, false])) (by kernel_rfl) (fun fr h g => ?_) (fun n => D4.ok R (L3.t R n)) n fr h (gSlice_intro e0 (gInt_intro e4 (gInt_intro e6 (g))))
  obtain ⟨a0, l0, c0, e0, g⟩ := gSlice_elim g
  obtain ⟨x4, e4, g⟩ := gInt_elim g
  obtain ⟨x6, e6, g⟩ := gInt_elim g
  exact g
theorem B5.ok (R : Rt) (fr : Fr) (h : Hp) (g : L3.g (fun a0 l0 c0 x4 x6 h => ∃ n, L3.t R n a0 l0 c0 x4 x6 h) fr h) : den prog E (cAt C [true, true, true]) (retQ E [] R) fr h :=
  den_block (by kernel_rfl) (L3.ok R fr h g)
def D2.t (R : Rt) (a0 : Option Addr) (l0 : Nat) (c0 : Nat) (a1 : Option Addr) (l1 : Nat) (c1 : Nat) (x4 : Int) (h : Hp) : Prop :=
  (∃ n, L3.t R n a0 l0 c0 x4 (((l1 : Nat) : Int)) h)
def D2.g (R : Rt) (fr : Fr) (h : Hp) : Prop := gSlice (fr 0) fun a0 l0 c0 => gSlice (fr 1) fun a1 l1 c1 => gInt .u64 (fr 4) fun x4 => D2.t R a0 l0 c0 a1 l1 c1 x4 h
theorem D2.ok (R : Rt) (fr : Fr) (h : Hp) (g : D2.g R fr h) : den prog E (cAt C [true, true]) (retQ E [] R) fr h := by
  obtain ⟨a0, l0, c0, e0, g⟩ := gSlice_elim g
  obtain ⟨a1, l1, c1, e1, g⟩ := gSlice_elim g
  obtain ⟨x4, e4, g⟩ := gInt_elim g
  exact den_cut 1 (r := (cAt C [true, true, true])) (by kernel_rfl) (B5.ok R) (den_enter [(0, .slice a0 l0 c0), (1, .slice a1 l1 c1), (4, .int .u64 x4)] ⟨e0, e1, e4, trivial⟩ (by kernel_rfl) g)
def L7.g (N : Option Addr → Nat → Nat → Option Addr → Nat → Nat → Int → Int → Int → Hp → Prop) (fr : Fr) (h : Hp) : Prop := gSlice (fr 0) fun a0 l0 c0 => gSlice (fr 1) fun a1 l1 c1 => gInt .u64 (fr 4) fun x4 => gInt .i64 (fr 8) fun x8 => gInt .i64 (fr 9) fun x9 => N a0 l0 c0 a1 l1 c1 x4 x8 x9 h
def D8.t (R : Rt) (N7 : Option Addr → Nat → Nat → Option Addr → Nat → Nat → Int → Int → Int → Hp → Prop) (a0 : Option Addr) (l0 : Nat) (c0 : Nat) (a1 : Option Addr) (l1 : Nat) (c1 : Nat) (x4 : Int) (x8 : Int) (x9 : Int) (h : Hp) : Prop :=
  cond (decide (x9 < x8)) (idxK a0 l0 x9 1 fun q8 =>
  ldK h q8 fun v9 =>
  gInt .u64 v9 fun x_10 =>
  idxK a1 l1 x9 1 fun q11 =>
  ldK h q11 fun v12 =>
  gInt .u64 v12 fun x_13 =>
  subK x_10 x_13 x4 fun n14 m14 =>
  idxK a0 l0 x9 1 fun q15 =>
  stK h q15 (.int .u64 n14) fun h16 =>
  letK (IntKind.i64.wrap (x9 + 1)) fun n17 =>
  N7 a0 l0 c0 a1 l1 c1 m14 x8 n17 h16) (D2.t R a0 l0 c0 a1 l1 c1 x4 h)
def D8.g (R : Rt) (N7 : Option Addr → Nat → Nat → Option Addr → Nat → Nat → Int → Int → Int → Hp → Prop) (fr : Fr) (h : Hp) : Prop := gSlice (fr 0) fun a0 l0 c0 => gSlice (fr 1) fun a1 l1 c1 => gInt .u64 (fr 4) fun x4 => gInt .i64 (fr 8) fun x8 => gInt .i64 (fr 9) fun x9 => D8.t R N7 a0 l0 c0 a1 l1 c1 x4 x8 x9 h
theorem D8.ok (R : Rt) (N7 : Option Addr → Nat → Nat → Option Addr → Nat → Nat → Int → Int → Int → Hp → Prop) (fr : Fr) (h : Hp) (g : D8.g R N7 fr h) : den prog E (cAt C [true, false, true, false, false]) (Ex.then (L7.g N7) (Ex.inBlock 0 (Ex.then (D2.g R) (retQ E [] R)))) fr h := by
  obtain ⟨a0, l0, c0, e0, g⟩ := gSlice_elim g
  obtain ⟨a1, l1, c1, e1, g⟩ := gSlice_elim g
  obtain ⟨x4, e4, g⟩ := gInt_elim g
  obtain ⟨x8, e8, g⟩ := gInt_elim g
  obtain ⟨x9, e9, g⟩ := gInt_elim g
  exact den_enter [(0, .slice a0 l0 c0), (1, .slice a1 l1 c1), (4, .int .u64 x4), (8, .int .i64 x8), (9, .int .i64 x9)] ⟨e0, e1, e4, e8, e9, trivial⟩ (by kernel_rfl) g
def L7.t (R : Rt) : Nat → Option Addr → Nat → Nat → Option Addr → Nat → Nat → Int → Int → Int → Hp → Prop
  | 0 => fun _ _ _ _ _ _ _ _ _ _ => False
  | n + 1 => fun a0 l0 c0 a1 l1 c1 x4 x8 x9 h => D8.t R (L7.t R n) a0 l0 c0 a1 l1 c1 x4 x8 x9 h
theorem L7.ok (R : Rt) (fr : Fr) (h : Hp) (g : L7.g (fun a0 l0 c0 a1 l1 c1 x4 x8 x9 h => ∃ n, L7.t R n a0 l0 c0 a1 l1 c1 x4 x8 x9 h) fr h) : den prog E (cAt C [true, false, true, false]) (Ex.inBlock 0 (Ex.then (D2.g R) (retQ E [] R))) fr h := by
  obtain ⟨a0, l0, c0, e0, g⟩ := gSlice_elim g
  obtain ⟨a1, l1, c1, e1, g⟩ := gSlice_elim g
  obtain ⟨x4, e4, g⟩ := gInt_elim g
  obtain ⟨x8, e8, g⟩ := gInt_elim g
  obtain ⟨x9, e9, g⟩ := gInt_elim g
  obtain ⟨n, g⟩ := g
  refine loop_ok (fun n => L7.g (L7.t R n)) (b := (cAt C [true, false, true, false, false])) (by kernel_rfl) (fun fr h g => ?_) (fun n => D8.ok R (L7.t R n)) n fr h (gSlice_intro e0 (gSlice_intro e1 (gInt_intro e4 (gInt_intro e8 (gInt_intro e9 (g))))))
  obtain ⟨a0, l0, c0, e0, g⟩ := gSlice_elim g
  obtain ⟨a1, l1, c1, e1, g⟩ := gSlice_elim g
  obtain ⟨x4, e4, g⟩ := gInt_elim g
  obtain ⟨x8, e8, g⟩ := gInt_elim g
  obtain ⟨x9, e9, g⟩ := gInt_elim g
  exact g
theorem B9.ok (R : Rt) (fr : Fr) (h : Hp) (g : L7.g (fun a0 l0 c0 a1 l1 c1 x4 x8 x9 h => ∃ n, L7.t R n a0 l0 c0 a1 l1 c1 x4 x8 x9 h) fr h) : den prog E (cAt C [true, false, true]) (Ex.then (D2.g R) (retQ E [] R)) fr h :=
  den_block (by kernel_rfl) (L7.ok R fr h g)
def D6.t (R : Rt) (a0 : Option Addr) (l0 : Nat) (c0 : Nat) (a1 : Option Addr) (l1 : Nat) (c1 : Nat) (x4 : Int) (h : Hp) : Prop :=
  (∃ n, L7.t R n a0 l0 c0 a1 l1 c1 x4 (((l1 : Nat) : Int)) 0 h)
def D6.g (R : Rt) (fr : Fr) (h : Hp) : Prop := gSlice (fr 0) fun a0 l0 c0 => gSlice (fr 1) fun a1 l1 c1 => gInt .u64 (fr 4) fun x4 => D6.t R a0 l0 c0 a1 l1 c1 x4 h
theorem D6.ok (R : Rt) (fr : Fr) (h : Hp) (g : D6.g R fr h) : den prog E (cAt C [true, false]) (Ex.then (D2.g R) (retQ E [] R)) fr h := by
  obtain ⟨a0, l0, c0, e0, g⟩ := gSlice_elim g
  obtain ⟨a1, l1, c1, e1, g⟩ := gSlice_elim g
  obtain ⟨x4, e4, g⟩ := gInt_elim g
  exact den_cut 1 (r := (cAt C [true, false, true])) (by kernel_rfl) (B9.ok R) (den_enter [(0, .slice a0 l0 c0), (1, .slice a1 l1 c1), (4, .int .u64 x4)] ⟨e0, e1, e4, trivial⟩ (by kernel_rfl) g)
theorem W10.ok (R : Rt) (fr : Fr) (h : Hp) (g : D6.g R fr h) : den prog E (cAt C [true]) (retQ E [] R) fr h :=
  den_then (by kernel_rfl) (D2.ok R) (D6.ok R fr h g)
def D1.t (R : Rt) (a0 : Option Addr) (l0 : Nat) (c0 : Nat) (a1 : Option Addr) (l1 : Nat) (c1 : Nat) (h : Hp) : Prop :=
  D6.t R a0 l0 c0 a1 l1 c1 0 h
def D1.g (R : Rt) (fr : Fr) (h : Hp) : Prop := gSlice (fr 0) fun a0 l0 c0 => gSlice (fr 1) fun a1 l1 c1 => D1.t R a0 l0 c0 a1 l1 c1 h
theorem D1.ok (R : Rt) (fr : Fr) (h : Hp) (g : D1.g R fr h) : den prog E C (retQ E [] R) fr h := by
  obtain ⟨a0, l0, c0, e0, g⟩ := gSlice_elim g
  obtain ⟨a1, l1, c1, e1, g⟩ := gSlice_elim g
  exact den_cut 1 (r := (cAt C [true])) (by kernel_rfl) (W10.ok R) (den_enter [(0, .slice a0 l0 c0), (1, .slice a1 l1 c1)] ⟨e0, e1, trivial⟩ (by kernel_rfl) g)
def t (a0 : Option Addr) (l0 : Nat) (c0 : Nat) (a1 : Option Addr) (l1 : Nat) (c1 : Nat) (h : Hp) (R : Rt) : Prop := D1.t R a0 l0 c0 a1 l1 c1 h
theorem ok {a0 : Option Addr} {l0 : Nat} {c0 : Nat} {a1 : Option Addr} {l1 : Nat} {c1 : Nat} {h : Hp} {R : Rt} (g : t a0 l0 c0 a1 l1 c1 h R) : HC id #[.slice a0 l0 c0, .slice a1 l1 c1] h R :=
  calls_of_den' envOk (c := C) (rs := []) Tryd.func83 (by kernel_rfl) (by kernel_rfl) (by kernel_rfl) (args := [.slice a0 l0 c0, .slice a1 l1 c1]) (by kernel_rfl) (D1.ok R _ h (gSlice_intro rfl (gSlice_intro rfl (g))))
end natmul_takeAway

end Go.Proofs.YtabkkcbpckcfnaaDoor.G
