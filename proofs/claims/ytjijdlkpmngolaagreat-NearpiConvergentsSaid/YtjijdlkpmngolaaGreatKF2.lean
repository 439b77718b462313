/- Texts of this work, joined: Fp2. -/
import Derived.Test.YtjijdlkpmngolaaGreatKE
/- Functions of the translation as predicates over heaps, and that their calls do so. Written by a program of this work. -/
namespace Go.Proofs.YtjijdlkpmngolaaGreat.G
open Go.Gv
set_option linter.unusedVariables false
set_option maxRecDepth 100000




namespace piconst_arctan
noncomputable def C : Code := bodyOf Tryz.f105
def D2.t (R : Rt) (a8 : Option Addr) (l8 : Nat) (c8 : Nat) (a9 : Option Addr) (l9 : Nat) (c9 : Nat) (x10 : Int) (h : Hp) : Prop :=
  HC nat_Sub.id #[.slice a8 l8 c8, .slice a9 l9 c9] h fun v24 h25 =>
  gTup v24 fun y26 =>
  uncons y26 fun v27 y27 =>
  gSlice v27 fun a_28 l_28 c_28 =>
  uncons y27 fun v29 y29 =>
  gInt .i64 v29 fun x_30 =>
  unnil y29 <| R (.tuple #[.slice a_28 l_28 c_28, .int .u64 x10]) h25
def D2.g (R : Rt) (fr : Fr) (h : Hp) : Prop := gSlice (fr 8) fun a8 l8 c8 => gSlice (fr 9) fun a9 l9 c9 => gInt .u64 (fr 10) fun x10 => D2.t R a8 l8 c8 a9 l9 c9 x10 h
theorem D2.ok (R : Rt) (fr : Fr) (h : Hp) (g : D2.g R fr h) : den prog E (cAt C [true, true, true, true, true, true]) (retQ E [.tmp 4, .tmp 5] R) fr h := by
  obtain ⟨a8, l8, c8, e8, g⟩ := gSlice_elim g
  obtain ⟨a9, l9, c9, e9, g⟩ := gSlice_elim g
  obtain ⟨x10, e10, g⟩ := gInt_elim g
  exact den_enter [(8, .slice a8 l8 c8), (9, .slice a9 l9 c9), (10, .int .u64 x10)] ⟨e8, e9, e10, trivial⟩ (by kernel_rfl) g
def L4.g (N : Int → Option Addr → Nat → Nat → Option Addr → Nat → Nat → Option Addr → Nat → Nat → Int → Int → Hp → Prop) (fr : Fr) (h : Hp) : Prop := gInt .u64 (fr 0) fun x0 => gSlice (fr 6) fun a6 l6 c6 => gSlice (fr 8) fun a8 l8 c8 => gSlice (fr 9) fun a9 l9 c9 => gInt .u64 (fr 10) fun x10 => gInt .u64 (fr 11) fun x11 => N x0 a6 l6 c6 a8 l8 c8 a9 l9 c9 x10 x11 h
def D5.t (R : Rt) (N4 : Int → Option Addr → Nat → Nat → Option Addr → Nat → Nat → Option Addr → Nat → Nat → Int → Int → Hp → Prop) (x0 : Int) (a6 : Option Addr) (l6 : Nat) (c6 : Nat) (a8 : Option Addr) (l8 : Nat) (c8 : Nat) (a9 : Option Addr) (l9 : Nat) (c9 : Nat) (x10 : Int) (x11 : Int) (h : Hp) : Prop :=
  cond (decide ((((l6 : Nat) : Int)) > 0)) (HC nat_DivWord.id #[.slice a6 l6 c6, .int .u64 x11] h fun v31 h32 =>
  gTup v31 fun y33 =>
  uncons y33 fun v34 y34 =>
  gSlice v34 fun a_35 l_35 c_35 =>
  uncons y34 fun v36 y36 =>
  gInt .u64 v36 fun x_37 =>
  uncons y36 fun v38 y38 =>
  gInt .i64 v38 fun x_39 =>
  unnil y38 <| (4 : Int) ≠ 0 ∧ letK (Int.tmod x11 4) fun n40 =>
  cond (n40 == 1) (HC nat_Add.id #[.slice a8 l8 c8, .slice a_35 l_35 c_35] h32 fun v41 h42 =>
  gTup v41 fun y43 =>
  uncons y43 fun v44 y44 =>
  gSlice v44 fun a_45 l_45 c_45 =>
  uncons y44 fun v46 y46 =>
  gInt .i64 v46 fun x_47 =>
  unnil y46 <| HC piconst_next.id #[.slice a6 l6 c6, .int .u64 x0] h42 fun v48 h49 =>
  gSlice v48 fun a_50 l_50 c_50 =>
  letK (IntKind.u64.wrap (x10 + 3)) fun n51 =>
  letK (IntKind.u64.wrap (x11 + 2)) fun n52 =>
  N4 x0 a_50 l_50 c_50 a_45 l_45 c_45 a9 l9 c9 n51 n52 h49) (HC nat_Add.id #[.slice a9 l9 c9, .slice a_35 l_35 c_35] h32 fun v53 h54 =>
  gTup v53 fun y55 =>
  uncons y55 fun v56 y56 =>
  gSlice v56 fun a_57 l_57 c_57 =>
  uncons y56 fun v58 y58 =>
  gInt .i64 v58 fun x_59 =>
  unnil y58 <| HC piconst_next.id #[.slice a6 l6 c6, .int .u64 x0] h54 fun v60 h61 =>
  gSlice v60 fun a_62 l_62 c_62 =>
  letK (IntKind.u64.wrap (x10 + 3)) fun n63 =>
  letK (IntKind.u64.wrap (x11 + 2)) fun n64 =>
  N4 x0 a_62 l_62 c_62 a8 l8 c8 a_57 l_57 c_57 n63 n64 h61)) (D2.t R a8 l8 c8 a9 l9 c9 x10 h)
def D5.g (R : Rt) (N4 : Int → Option Addr → Nat → Nat → Option Addr → Nat → Nat → Option Addr → Nat → Nat → Int → Int → Hp → Prop) (fr : Fr) (h : Hp) : Prop := gInt .u64 (fr 0) fun x0 => gSlice (fr 6) fun a6 l6 c6 => gSlice (fr 8) fun a8 l8 c8 => gSlice (fr 9) fun a9 l9 c9 => gInt .u64 (fr 10) fun x10 => gInt .u64 (fr 11) fun x11 => D5.t R N4 x0 a6 l6 c6 a8 l8 c8 a9 l9 c9 x10 x11 h
theorem D5.ok (R : Rt) (N4 : Int → Option Addr → Nat → Nat → Option Addr → Nat → Nat → Option Addr → Nat → Nat → Int → Int → Hp → Prop) (fr : Fr) (h : Hp) (g : D5.g R N4 fr h) : den prog E (cAt C [true, true, true, true, true, false, true, false, false]) (Ex.then (L4.g N4) (Ex.inBlock 0 (Ex.then (D2.g R) (retQ E [.tmp 4, .tmp 5] R)))) fr h := by
  obtain ⟨x0, e0, g⟩ := gInt_elim g
  obtain ⟨a6, l6, c6, e6, g⟩ := gSlice_elim g
  obtain ⟨a8, l8, c8, e8, g⟩ := gSlice_elim g
  obtain ⟨a9, l9, c9, e9, g⟩ := gSlice_elim g
  obtain ⟨x10, e10, g⟩ := gInt_elim g
  obtain ⟨x11, e11, g⟩ := gInt_elim g
  exact den_enter [(0, .int .u64 x0), (6, .slice a6 l6 c6), (8, .slice a8 l8 c8), (9, .slice a9 l9 c9), (10, .int .u64 x10), (11, .int .u64 x11)] ⟨e0, e6, e8, e9, e10, e11, trivial⟩ (by kernel_rfl) g
def L4.t (R : Rt) : Nat → Int → Option Addr → Nat → Nat → Option Addr → Nat → Nat → Option Addr → Nat → Nat → Int → Int → Hp → Prop
  | 0 => fun _ _ _ _ _ _ _ _ _ _ _ _ _ => False
  | n + 1 => fun x0 a6 l6 c6 a8 l8 c8 a9 l9 c9 x10 x11 h => D5.t R (L4.t R n) x0 a6 l6 c6 a8 l8 c8 a9 l9 c9 x10 x11 h
theorem L4.ok (R : Rt) (fr : Fr) (h : Hp) (g : L4.g (fun x0 a6 l6 c6 a8 l8 c8 a9 l9 c9 x10 x11 h => ∃ n, L4.t R n x0 a6 l6 c6 a8 l8 c8 a9 l9 c9 x10 x11 h) fr h) : den prog E (cAt C [true, true, true, true, true, false, true, false]) (Ex.inBlock 0 (Ex.then (D2.g R) (retQ E [.tmp 4, .tmp 5] R))) fr h := by
  obtain ⟨x0, e0, g⟩ := gInt_elim g
  obtain ⟨a6, l6, c6, e6, g⟩ := gSlice_elim g
  obtain ⟨a8, l8, c8, e8, g⟩ := gSlice_elim g
  obtain ⟨a9, l9, c9, e9, g⟩ := gSlice_elim g
  obtain ⟨x10, e10, g⟩ := gInt_elim g
  obtain ⟨x11, e11, g⟩ := gInt_elim g
  obtain ⟨n, g⟩ := g
  refine loop_ok (fun n => L4.g (L4.t R n)) (b := (cAt C [true, true, true, true, true, false, true, false, false])) (by kernel_rfl) (fun fr h g => ?_) (fun n => D5.ok R (L4.t R n)) n fr h (gInt_intro e0 (gSlice_intro e6 (gSlice_intro e8 (gSlice_intro e9 (gInt_intro e10 (gInt_intro e11 (g)))))))
  obtain ⟨x0, e0, g⟩ := gInt_elim g
  obtain ⟨a6, l6, c6, e6, g⟩ := gSlice_elim g
  obtain ⟨a8, l8, c8, e8, g⟩ := gSlice_elim g
  obtain ⟨a9, l9, c9, e9, g⟩ := gSlice_elim g
  obtain ⟨x10, e10, g⟩ := gInt_elim g
  obtain ⟨x11, e11, g⟩ := gInt_elim g
  exact g
theorem B6.ok (R : Rt) (fr : Fr) (h : Hp) (g : L4.g (fun x0 a6 l6 c6 a8 l8 c8 a9 l9 c9 x10 x11 h => ∃ n, L4.t R n x0 a6 l6 c6 a8 l8 c8 a9 l9 c9 x10 x11 h) fr h) : den prog E (cAt C [true, true, true, true, true, false, true]) (Ex.then (D2.g R) (retQ E [.tmp 4, .tmp 5] R)) fr h :=
  den_block (by kernel_rfl) (L4.ok R fr h g)
def D3.t (R : Rt) (x0 : Int) (a6 : Option Addr) (l6 : Nat) (c6 : Nat) (a8 : Option Addr) (l8 : Nat) (c8 : Nat) (a9 : Option Addr) (l9 : Nat) (c9 : Nat) (x10 : Int) (h : Hp) : Prop :=
  (∃ n, L4.t R n x0 a6 l6 c6 a8 l8 c8 a9 l9 c9 x10 1 h)
def D3.g (R : Rt) (fr : Fr) (h : Hp) : Prop := gInt .u64 (fr 0) fun x0 => gSlice (fr 6) fun a6 l6 c6 => gSlice (fr 8) fun a8 l8 c8 => gSlice (fr 9) fun a9 l9 c9 => gInt .u64 (fr 10) fun x10 => D3.t R x0 a6 l6 c6 a8 l8 c8 a9 l9 c9 x10 h
theorem D3.ok (R : Rt) (fr : Fr) (h : Hp) (g : D3.g R fr h) : den prog E (cAt C [true, true, true, true, true, false]) (Ex.then (D2.g R) (retQ E [.tmp 4, .tmp 5] R)) fr h := by
  obtain ⟨x0, e0, g⟩ := gInt_elim g
  obtain ⟨a6, l6, c6, e6, g⟩ := gSlice_elim g
  obtain ⟨a8, l8, c8, e8, g⟩ := gSlice_elim g
  obtain ⟨a9, l9, c9, e9, g⟩ := gSlice_elim g
  obtain ⟨x10, e10, g⟩ := gInt_elim g
  exact den_cut 1 (r := (cAt C [true, true, true, true, true, false, true])) (by kernel_rfl) (B6.ok R) (den_enter [(0, .int .u64 x0), (6, .slice a6 l6 c6), (8, .slice a8 l8 c8), (9, .slice a9 l9 c9), (10, .int .u64 x10)] ⟨e0, e6, e8, e9, e10, trivial⟩ (by kernel_rfl) g)
theorem W7.ok (R : Rt) (fr : Fr) (h : Hp) (g : D3.g R fr h) : den prog E (cAt C [true, true, true, true, true]) (retQ E [.tmp 4, .tmp 5] R) fr h :=
  den_then (by kernel_rfl) (D2.ok R) (D3.ok R fr h g)
def D1.t (R : Rt) (x0 : Int) (x1 : Int) (h : Hp) : Prop :=
  HC nat_Word.id #[.int .u64 1] h fun v1 h2 =>
  gSlice v1 fun a_3 l_3 c_3 =>
  HC nat_Shl.id #[.slice a_3 l_3 c_3, .int .i64 x1] h2 fun v4 h5 =>
  gTup v4 fun y6 =>
  uncons y6 fun v7 y7 =>
  gSlice v7 fun a_8 l_8 c_8 =>
  uncons y7 fun v9 y9 =>
  gInt .i64 v9 fun x_10 =>
  unnil y9 <| HC nat_DivWord.id #[.slice a_8 l_8 c_8, .int .u64 x0] h5 fun v11 h12 =>
  gTup v11 fun y13 =>
  uncons y13 fun v14 y14 =>
  gSlice v14 fun a_15 l_15 c_15 =>
  uncons y14 fun v16 y16 =>
  gInt .u64 v16 fun x_17 =>
  uncons y16 fun v18 y18 =>
  gInt .i64 v18 fun x_19 =>
  unnil y18 <| boxK h12 35 [] fun q20 h21 =>
  boxK h21 35 [] fun q22 h23 =>
  D3.t R x0 a_15 l_15 c_15 (some q20) 0 0 (some q22) 0 0 2 h23
def D1.g (R : Rt) (fr : Fr) (h : Hp) : Prop := gInt .u64 (fr 0) fun x0 => gInt .i64 (fr 1) fun x1 => D1.t R x0 x1 h
theorem D1.ok (R : Rt) (fr : Fr) (h : Hp) (g : D1.g R fr h) : den prog E C (retQ E [.tmp 4, .tmp 5] R) fr h := by
  obtain ⟨x0, e0, g⟩ := gInt_elim g
  obtain ⟨x1, e1, g⟩ := gInt_elim g
  exact den_cut 5 (r := (cAt C [true, true, true, true, true])) (by kernel_rfl) (W7.ok R) (den_enter [(0, .int .u64 x0), (1, .int .i64 x1)] ⟨e0, e1, trivial⟩ (by kernel_rfl) g)
def t (x0 : Int) (x1 : Int) (h : Hp) (R : Rt) : Prop := D1.t R x0 x1 h
theorem ok {x0 : Int} {x1 : Int} {h : Hp} {R : Rt} (g : t x0 x1 h R) : HC id #[.int .u64 x0, .int .i64 x1] h R :=
  calls_of_den' envOk (c := C) (rs := [.tmp 4, .tmp 5]) Tryz.func105 (by kernel_rfl) (by kernel_rfl) (by kernel_rfl) (args := [.int .u64 x0, .int .i64 x1]) (by kernel_rfl) (D1.ok R _ h (gInt_intro rfl (gInt_intro rfl (g))))
end piconst_arctan

namespace piconst_around
noncomputable def C : Code := bodyOf Tryz.f106
def D1.t (R : Rt) (a0 : Option Addr) (l0 : Nat) (c0 : Nat) (x1 : Int) (h : Hp) : Prop :=
  HC nat_Word.id #[.int .u64 x1] h fun v1 h2 =>
  gSlice v1 fun a_3 l_3 c_3 =>
  HC nat_Sub.id #[.slice a0 l0 c0, .slice a_3 l_3 c_3] h2 fun v4 h5 =>
  gTup v4 fun y6 =>
  uncons y6 fun v7 y7 =>
  gSlice v7 fun a_8 l_8 c_8 =>
  uncons y7 fun v9 y9 =>
  gInt .i64 v9 fun x_10 =>
  unnil y9 <| HC nat_Word.id #[.int .u64 x1] h5 fun v11 h12 =>
  gSlice v11 fun a_13 l_13 c_13 =>
  HC nat_Add.id #[.slice a0 l0 c0, .slice a_13 l_13 c_13] h12 fun v14 h15 =>
  gTup v14 fun y16 =>
  uncons y16 fun v17 y17 =>
  gSlice v17 fun a_18 l_18 c_18 =>
  uncons y17 fun v19 y19 =>
  gInt .i64 v19 fun x_20 =>
  unnil y19 <| R (.tuple #[.slice a_8 l_8 c_8, .slice a_18 l_18 c_18]) h15
def D1.g (R : Rt) (fr : Fr) (h : Hp) : Prop := gSlice (fr 0) fun a0 l0 c0 => gInt .u64 (fr 1) fun x1 => D1.t R a0 l0 c0 x1 h
theorem D1.ok (R : Rt) (fr : Fr) (h : Hp) (g : D1.g R fr h) : den prog E C (retQ E [.tmp 4, .tmp 5] R) fr h := by
  obtain ⟨a0, l0, c0, e0, g⟩ := gSlice_elim g
  obtain ⟨x1, e1, g⟩ := gInt_elim g
  exact den_enter [(0, .slice a0 l0 c0), (1, .int .u64 x1)] ⟨e0, e1, trivial⟩ (by kernel_rfl) g
def t (a0 : Option Addr) (l0 : Nat) (c0 : Nat) (x1 : Int) (h : Hp) (R : Rt) : Prop := D1.t R a0 l0 c0 x1 h
theorem ok {a0 : Option Addr} {l0 : Nat} {c0 : Nat} {x1 : Int} {h : Hp} {R : Rt} (g : t a0 l0 c0 x1 h R) : HC id #[.slice a0 l0 c0, .int .u64 x1] h R :=
  calls_of_den' envOk (c := C) (rs := [.tmp 4, .tmp 5]) Tryz.func106 (by kernel_rfl) (by kernel_rfl) (by kernel_rfl) (args := [.slice a0 l0 c0, .int .u64 x1]) (by kernel_rfl) (D1.ok R _ h (gSlice_intro rfl (gInt_intro rfl (g))))
end piconst_around

namespace nat_Norm
noncomputable def C : Code := bodyOf Tryz.f107
def D1.t (R : Rt) (a0 : Option Addr) (l0 : Nat) (c0 : Nat) (h : Hp) : Prop :=
  HC nat_trim.id #[.slice a0 l0 c0] h fun v1 h2 =>
  gSlice v1 fun a_3 l_3 c_3 =>
  cond (decide ((((l_3 : Nat) : Int)) > 8192)) (R (.tuple #[.slice none 0 0, .int .i64 5]) h2) (mkK h2 35 T35 (((l_3 : Nat) : Int)) (((l_3 : Nat) : Int)) fun q4 h5 =>
  cpK h5 1 (some q4) ((((l_3 : Nat) : Int)).toNat) (.slice a_3 l_3 c_3) fun n6 h6 =>
  R (.tuple #[.slice (some q4) ((((l_3 : Nat) : Int)).toNat) ((((l_3 : Nat) : Int)).toNat), .int .i64 0]) h6)
def D1.g (R : Rt) (fr : Fr) (h : Hp) : Prop := gSlice (fr 0) fun a0 l0 c0 => D1.t R a0 l0 c0 h
theorem D1.ok (R : Rt) (fr : Fr) (h : Hp) (g : D1.g R fr h) : den prog E C (retQ E [.tmp 2, .tmp 3] R) fr h := by
  obtain ⟨a0, l0, c0, e0, g⟩ := gSlice_elim g
  exact den_enter [(0, .slice a0 l0 c0)] ⟨e0, trivial⟩ (by kernel_rfl) g
def t (a0 : Option Addr) (l0 : Nat) (c0 : Nat) (h : Hp) (R : Rt) : Prop := D1.t R a0 l0 c0 h
theorem ok {a0 : Option Addr} {l0 : Nat} {c0 : Nat} {h : Hp} {R : Rt} (g : t a0 l0 c0 h R) : HC id #[.slice a0 l0 c0] h R :=
  calls_of_den' envOk (c := C) (rs := [.tmp 2, .tmp 3]) Tryz.func107 (by kernel_rfl) (by kernel_rfl) (by kernel_rfl) (args := [.slice a0 l0 c0]) (by kernel_rfl) (D1.ok R _ h (gSlice_intro rfl (g)))
end nat_Norm

namespace nat_DivWord
noncomputable def C : Code := bodyOf Tryz.f108
def D2.t (R : Rt) (a7 : Option Addr) (l7 : Nat) (c7 : Nat) (x8 : Int) (h : Hp) : Prop :=
  HC nat_told.id #[.slice a7 l7 c7] h fun v6 h7 =>
  gTup v6 fun y8 =>
  uncons y8 fun v9 y9 =>
  gSlice v9 fun a_10 l_10 c_10 =>
  uncons y9 fun v11 y11 =>
  gInt .i64 v11 fun x_12 =>
  unnil y11 <| R (.tuple #[.slice a_10 l_10 c_10, .int .u64 x8, .int .i64 0]) h7
def D2.g (R : Rt) (fr : Fr) (h : Hp) : Prop := gSlice (fr 7) fun a7 l7 c7 => gInt .u64 (fr 8) fun x8 => D2.t R a7 l7 c7 x8 h
theorem D2.ok (R : Rt) (fr : Fr) (h : Hp) (g : D2.g R fr h) : den prog E (cAt C [true, true, true, true, true, true]) (retQ E [.tmp 4, .tmp 5, .tmp 6] R) fr h := by
  obtain ⟨a7, l7, c7, e7, g⟩ := gSlice_elim g
  obtain ⟨x8, e8, g⟩ := gInt_elim g
  exact den_enter [(7, .slice a7 l7 c7), (8, .int .u64 x8)] ⟨e7, e8, trivial⟩ (by kernel_rfl) g
def L4.g (N : Option Addr → Nat → Nat → Int → Option Addr → Nat → Nat → Int → Int → Hp → Prop) (fr : Fr) (h : Hp) : Prop := gSlice (fr 0) fun a0 l0 c0 => gInt .u64 (fr 1) fun x1 => gSlice (fr 7) fun a7 l7 c7 => gInt .u64 (fr 8) fun x8 => gInt .i64 (fr 9) fun x9 => N a0 l0 c0 x1 a7 l7 c7 x8 x9 h
def D5.t (R : Rt) (N4 : Option Addr → Nat → Nat → Int → Option Addr → Nat → Nat → Int → Int → Hp → Prop) (a0 : Option Addr) (l0 : Nat) (c0 : Nat) (x1 : Int) (a7 : Option Addr) (l7 : Nat) (c7 : Nat) (x8 : Int) (x9 : Int) (h : Hp) : Prop :=
  cond (decide (x9 ≥ 0)) (idxK a0 l0 x9 1 fun q14 =>
  ldK h q14 fun v15 =>
  gInt .u64 v15 fun x_16 =>
  HC bits_Div64.id #[.int .u64 x8, .int .u64 x_16, .int .u64 x1] h fun v17 h18 =>
  gTup v17 fun y19 =>
  uncons y19 fun v20 y20 =>
  gInt .u64 v20 fun x_21 =>
  uncons y20 fun v22 y22 =>
  gInt .u64 v22 fun x_23 =>
  unnil y22 <| idxK a7 l7 x9 1 fun q24 =>
  stK h18 q24 (.int .u64 x_21) fun h25 =>
  letK (IntKind.i64.wrap (x9 - 1)) fun n26 =>
  N4 a0 l0 c0 x1 a7 l7 c7 x_23 n26 h25) (D2.t R a7 l7 c7 x8 h)
def D5.g (R : Rt) (N4 : Option Addr → Nat → Nat → Int → Option Addr → Nat → Nat → Int → Int → Hp → Prop) (fr : Fr) (h : Hp) : Prop := gSlice (fr 0) fun a0 l0 c0 => gInt .u64 (fr 1) fun x1 => gSlice (fr 7) fun a7 l7 c7 => gInt .u64 (fr 8) fun x8 => gInt .i64 (fr 9) fun x9 => D5.t R N4 a0 l0 c0 x1 a7 l7 c7 x8 x9 h
theorem D5.ok (R : Rt) (N4 : Option Addr → Nat → Nat → Int → Option Addr → Nat → Nat → Int → Int → Hp → Prop) (fr : Fr) (h : Hp) (g : D5.g R N4 fr h) : den prog E (cAt C [true, true, true, true, true, false, true, false, false]) (Ex.then (L4.g N4) (Ex.inBlock 0 (Ex.then (D2.g R) (retQ E [.tmp 4, .tmp 5, .tmp 6] R)))) fr h := by
  obtain ⟨a0, l0, c0, e0, g⟩ := gSlice_elim g
  obtain ⟨x1, e1, g⟩ := gInt_elim g
  obtain ⟨a7, l7, c7, e7, g⟩ := gSlice_elim g
  obtain ⟨x8, e8, g⟩ := gInt_elim g
  obtain ⟨x9, e9, g⟩ := gInt_elim g
  exact den_enter [(0, .slice a0 l0 c0), (1, .int .u64 x1), (7, .slice a7 l7 c7), (8, .int .u64 x8), (9, .int .i64 x9)] ⟨e0, e1, e7, e8, e9, trivial⟩ (by kernel_rfl) g
def L4.t (R : Rt) : Nat → Option Addr → Nat → Nat → Int → Option Addr → Nat → Nat → Int → Int → Hp → Prop
  | 0 => fun _ _ _ _ _ _ _ _ _ _ => False
  | n + 1 => fun a0 l0 c0 x1 a7 l7 c7 x8 x9 h => D5.t R (L4.t R n) a0 l0 c0 x1 a7 l7 c7 x8 x9 h
theorem L4.ok (R : Rt) (fr : Fr) (h : Hp) (g : L4.g (fun a0 l0 c0 x1 a7 l7 c7 x8 x9 h => ∃ n, L4.t R n a0 l0 c0 x1 a7 l7 c7 x8 x9 h) fr h) : den prog E (cAt C [true, true, true, true, true, false, true, false]) (Ex.inBlock 0 (Ex.then (D2.g R) (retQ E [.tmp 4, .tmp 5, .tmp 6] R))) fr h := by
  obtain ⟨a0, l0, c0, e0, g⟩ := gSlice_elim g
  obtain ⟨x1, e1, g⟩ := gInt_elim g
  obtain ⟨a7, l7, c7, e7, g⟩ := gSlice_elim g
  obtain ⟨x8, e8, g⟩ := gInt_elim g
  obtain ⟨x9, e9, g⟩ := gInt_elim g
  obtain ⟨n, g⟩ := g
  refine loop_ok (fun n => L4.g (L4.t R n)) (b := (cAt C [true, true, true, true, true, false, true, false, false])) (by kernel_rfl) (fun fr h g => ?_) (fun n => D5.ok R (L4.t R n)) n fr h (gSlice_intro e0 (gInt_intro e1 (gSlice_intro e7 (gInt_intro e8 (gInt_intro e9 (g))))))
  obtain ⟨a0, l0, c0, e0, g⟩ := gSlice_elim g
  obtain ⟨x1, e1, g⟩ := gInt_elim g
  obtain ⟨a7, l7, c7, e7, g⟩ := gSlice_elim g
  obtain ⟨x8, e8, g⟩ := gInt_elim g
  obtain ⟨x9, e9, g⟩ := gInt_elim g
  exact g
theorem B6.ok (R : Rt) (fr : Fr) (h : Hp) (g : L4.g (fun a0 l0 c0 x1 a7 l7 c7 x8 x9 h => ∃ n, L4.t R n a0 l0 c0 x1 a7 l7 c7 x8 x9 h) fr h) : den prog E (cAt C [true, true, true, true, true, false, true]) (Ex.then (D2.g R) (retQ E [.tmp 4, .tmp 5, .tmp 6] R)) fr h :=
  den_block (by kernel_rfl) (L4.ok R fr h g)
def D3.t (R : Rt) (a0 : Option Addr) (l0 : Nat) (c0 : Nat) (x1 : Int) (a7 : Option Addr) (l7 : Nat) (c7 : Nat) (x8 : Int) (h : Hp) : Prop :=
  letK (IntKind.i64.wrap ((((l0 : Nat) : Int)) - 1)) fun n13 => (∃ n, L4.t R n a0 l0 c0 x1 a7 l7 c7 x8 n13 h)
def D3.g (R : Rt) (fr : Fr) (h : Hp) : Prop := gSlice (fr 0) fun a0 l0 c0 => gInt .u64 (fr 1) fun x1 => gSlice (fr 7) fun a7 l7 c7 => gInt .u64 (fr 8) fun x8 => D3.t R a0 l0 c0 x1 a7 l7 c7 x8 h
theorem D3.ok (R : Rt) (fr : Fr) (h : Hp) (g : D3.g R fr h) : den prog E (cAt C [true, true, true, true, true, false]) (Ex.then (D2.g R) (retQ E [.tmp 4, .tmp 5, .tmp 6] R)) fr h := by
  obtain ⟨a0, l0, c0, e0, g⟩ := gSlice_elim g
  obtain ⟨x1, e1, g⟩ := gInt_elim g
  obtain ⟨a7, l7, c7, e7, g⟩ := gSlice_elim g
  obtain ⟨x8, e8, g⟩ := gInt_elim g
  exact den_cut 1 (r := (cAt C [true, true, true, true, true, false, true])) (by kernel_rfl) (B6.ok R) (den_enter [(0, .slice a0 l0 c0), (1, .int .u64 x1), (7, .slice a7 l7 c7), (8, .int .u64 x8)] ⟨e0, e1, e7, e8, trivial⟩ (by kernel_rfl) g)
theorem W7.ok (R : Rt) (fr : Fr) (h : Hp) (g : D3.g R fr h) : den prog E (cAt C [true, true, true, true, true]) (retQ E [.tmp 4, .tmp 5, .tmp 6] R) fr h :=
  den_then (by kernel_rfl) (D2.ok R) (D3.ok R fr h g)
def D1.t (R : Rt) (a0 : Option Addr) (l0 : Nat) (c0 : Nat) (x1 : Int) (h : Hp) : Prop :=
  HC nat_Form.id #[.slice a0 l0 c0] h fun v1 h2 =>
  gBool v1 fun b_3 =>
  cond (!b_3) (R (.tuple #[.slice none 0 0, .int .u64 0, .int .i64 2]) h2) (cond (x1 == 0) (R (.tuple #[.slice none 0 0, .int .u64 0, .int .i64 4]) h2) (mkK h2 35 T35 (((l0 : Nat) : Int)) (((l0 : Nat) : Int)) fun q4 h5 =>
  D3.t R a0 l0 c0 x1 (some q4) ((((l0 : Nat) : Int)).toNat) ((((l0 : Nat) : Int)).toNat) 0 h5))
def D1.g (R : Rt) (fr : Fr) (h : Hp) : Prop := gSlice (fr 0) fun a0 l0 c0 => gInt .u64 (fr 1) fun x1 => D1.t R a0 l0 c0 x1 h
theorem D1.ok (R : Rt) (fr : Fr) (h : Hp) (g : D1.g R fr h) : den prog E C (retQ E [.tmp 4, .tmp 5, .tmp 6] R) fr h := by
  obtain ⟨a0, l0, c0, e0, g⟩ := gSlice_elim g
  obtain ⟨x1, e1, g⟩ := gInt_elim g
  exact den_cut 5 (r := (cAt C [true, true, true, true, true])) (by kernel_rfl) (W7.ok R) (den_enter [(0, .slice a0 l0 c0), (1, .int .u64 x1)] ⟨e0, e1, trivial⟩ (by kernel_rfl) g)
def t (a0 : Option Addr) (l0 : Nat) (c0 : Nat) (x1 : Int) (h : Hp) (R : Rt) : Prop := D1.t R a0 l0 c0 x1 h
theorem ok {a0 : Option Addr} {l0 : Nat} {c0 : Nat} {x1 : Int} {h : Hp} {R : Rt} (g : t a0 l0 c0 x1 h R) : HC id #[.slice a0 l0 c0, .int .u64 x1] h R :=
  calls_of_den' envOk (c := C) (rs := [.tmp 4, .tmp 5, .tmp 6]) Tryz.func108 (by kernel_rfl) (by kernel_rfl) (by kernel_rfl) (args := [.slice a0 l0 c0, .int .u64 x1]) (by kernel_rfl) (D1.ok R _ h (gSlice_intro rfl (gInt_intro rfl (g))))
end nat_DivWord

namespace bits_LeadingZeros64
noncomputable def C : Code := bodyOf Tryz.f109
def D1.t (R : Rt) (x0 : Int) (h : Hp) : Prop :=
  HC bits_Len64.id #[.int .u64 x0] h fun v1 h2 =>
  gInt .i64 v1 fun x_3 =>
  letK (IntKind.i64.wrap (64 - x_3)) fun n4 =>
  R (.int .i64 n4) h2
def D1.g (R : Rt) (fr : Fr) (h : Hp) : Prop := gInt .u64 (fr 0) fun x0 => D1.t R x0 h
theorem D1.ok (R : Rt) (fr : Fr) (h : Hp) (g : D1.g R fr h) : den prog E C (retQ E [.tmp 2] R) fr h := by
  obtain ⟨x0, e0, g⟩ := gInt_elim g
  exact den_enter [(0, .int .u64 x0)] ⟨e0, trivial⟩ (by kernel_rfl) g
def t (x0 : Int) (h : Hp) (R : Rt) : Prop := D1.t R x0 h
theorem ok {x0 : Int} {h : Hp} {R : Rt} (g : t x0 h R) : HC id #[.int .u64 x0] h R :=
  calls_of_den' envOk (c := C) (rs := [.tmp 2]) Tryz.func109 (by kernel_rfl) (by kernel_rfl) (by kernel_rfl) (args := [.int .u64 x0]) (by kernel_rfl) (D1.ok R _ h (gInt_intro rfl (g)))
end bits_LeadingZeros64

namespace natdiv_shifted
noncomputable def C : Code := bodyOf Tryz.f110
def D2.t (R : Rt) (a7 : Option Addr) (l7 : Nat) (c7 : Nat) (h : Hp) : Prop :=
  R (.slice a7 l7 c7) h
def D2.g (R : Rt) (fr : Fr) (h : Hp) : Prop := gSlice (fr 7) fun a7 l7 c7 => D2.t R a7 l7 c7 h
theorem D2.ok (R : Rt) (fr : Fr) (h : Hp) (g : D2.g R fr h) : den prog E (cAt C [true, true, true, true, true, true]) (retQ E [.tmp 6] R) fr h := by
  obtain ⟨a7, l7, c7, e7, g⟩ := gSlice_elim g
  exact den_enter [(7, .slice a7 l7 c7)] ⟨e7, trivial⟩ (by kernel_rfl) g
def L4.g (N : Int → Option Addr → Nat → Nat → Int → Int → Int → Hp → Prop) (fr : Fr) (h : Hp) : Prop := gInt .i64 (fr 1) fun x1 => gSlice (fr 7) fun a7 l7 c7 => gInt .u64 (fr 8) fun x8 => gInt .i64 (fr 19) fun x19 => gInt .i64 (fr 20) fun x20 => N x1 a7 l7 c7 x8 x19 x20 h
def D5.t (R : Rt) (N4 : Int → Option Addr → Nat → Nat → Int → Int → Int → Hp → Prop) (x1 : Int) (a7 : Option Addr) (l7 : Nat) (c7 : Nat) (x8 : Int) (x19 : Int) (x20 : Int) (h : Hp) : Prop :=
  cond (decide (x20 < x19)) (idxK a7 l7 x20 1 fun q4 =>
  ldK h q4 fun v5 =>
  gInt .u64 v5 fun x_6 =>
  0 ≤ x1 ∧ letK (shlI .u64 x_6 x1) fun n7 =>
  letK (orI .u64 n7 x8) fun n8 =>
  idxK a7 l7 x20 1 fun q9 =>
  ldK h q9 fun v10 =>
  gInt .u64 v10 fun x_11 =>
  letK (IntKind.i64.wrap (64 - x1)) fun n12 =>
  0 ≤ n12 ∧ letK (shrI .u64 x_11 n12) fun n13 =>
  idxK a7 l7 x20 1 fun q14 =>
  stK h q14 (.int .u64 n8) fun h15 =>
  letK (IntKind.i64.wrap (x20 + 1)) fun n16 =>
  N4 x1 a7 l7 c7 n13 x19 n16 h15) (D2.t R a7 l7 c7 h)
def D5.g (R : Rt) (N4 : Int → Option Addr → Nat → Nat → Int → Int → Int → Hp → Prop) (fr : Fr) (h : Hp) : Prop := gInt .i64 (fr 1) fun x1 => gSlice (fr 7) fun a7 l7 c7 => gInt .u64 (fr 8) fun x8 => gInt .i64 (fr 19) fun x19 => gInt .i64 (fr 20) fun x20 => D5.t R N4 x1 a7 l7 c7 x8 x19 x20 h
theorem D5.ok (R : Rt) (N4 : Int → Option Addr → Nat → Nat → Int → Int → Int → Hp → Prop) (fr : Fr) (h : Hp) (g : D5.g R N4 fr h) : den prog E (cAt C [true, true, true, true, true, false, true, false, false]) (Ex.then (L4.g N4) (Ex.inBlock 0 (Ex.then (D2.g R) (retQ E [.tmp 6] R)))) fr h := by
  obtain ⟨x1, e1, g⟩ := gInt_elim g
  obtain ⟨a7, l7, c7, e7, g⟩ := gSlice_elim g
  obtain ⟨x8, e8, g⟩ := gInt_elim g
  obtain ⟨x19, e19, g⟩ := gInt_elim g
  obtain ⟨x20, e20, g⟩ := gInt_elim g
  exact den_enter [(1, .int .i64 x1), (7, .slice a7 l7 c7), (8, .int .u64 x8), (19, .int .i64 x19), (20, .int .i64 x20)] ⟨e1, e7, e8, e19, e20, trivial⟩ (by kernel_rfl) g
def L4.t (R : Rt) : Nat → Int → Option Addr → Nat → Nat → Int → Int → Int → Hp → Prop
  | 0 => fun _ _ _ _ _ _ _ _ => False
  | n + 1 => fun x1 a7 l7 c7 x8 x19 x20 h => D5.t R (L4.t R n) x1 a7 l7 c7 x8 x19 x20 h
theorem L4.ok (R : Rt) (fr : Fr) (h : Hp) (g : L4.g (fun x1 a7 l7 c7 x8 x19 x20 h => ∃ n, L4.t R n x1 a7 l7 c7 x8 x19 x20 h) fr h) : den prog E (cAt C [true, true, true, true, true, false, true, false]) (Ex.inBlock 0 (Ex.then (D2.g R) (retQ E [.tmp 6] R))) fr h := by
  obtain ⟨x1, e1, g⟩ := gInt_elim g
  obtain ⟨a7, l7, c7, e7, g⟩ := gSlice_elim g
  obtain ⟨x8, e8, g⟩ := gInt_elim g
  obtain ⟨x19, e19, g⟩ := gInt_elim g
  obtain ⟨x20, e20, g⟩ := gInt_elim g
  obtain ⟨n, g⟩ := g
  refine loop_ok (fun n => L4.g (L4.t R n)) (b := (cAt C [true, true, true, true, true, false, true, false, false])) (by kernel_rfl) (fun fr h g => ?_) (fun n => D5.ok R (L4.t R n)) n fr h (gInt_intro e1 (gSlice_intro e7 (gInt_intro e8 (gInt_intro e19 (gInt_intro e20 (g))))))
  obtain ⟨x1, e1, g⟩ := gInt_elim g
  obtain ⟨a7, l7, c7, e7, g⟩ := gSlice_elim g
  obtain ⟨x8, e8, g⟩ := gInt_elim g
  obtain ⟨x19, e19, g⟩ := gInt_elim g
  obtain ⟨x20, e20, g⟩ := gInt_elim g
  exact g
theorem B6.ok (R : Rt) (fr : Fr) (h : Hp) (g : L4.g (fun x1 a7 l7 c7 x8 x19 x20 h => ∃ n, L4.t R n x1 a7 l7 c7 x8 x19 x20 h) fr h) : den prog E (cAt C [true, true, true, true, true, false, true]) (Ex.then (D2.g R) (retQ E [.tmp 6] R)) fr h :=
  den_block (by kernel_rfl) (L4.ok R fr h g)
def D3.t (R : Rt) (x1 : Int) (a7 : Option Addr) (l7 : Nat) (c7 : Nat) (x8 : Int) (h : Hp) : Prop :=
  (∃ n, L4.t R n x1 a7 l7 c7 x8 (((l7 : Nat) : Int)) 0 h)
def D3.g (R : Rt) (fr : Fr) (h : Hp) : Prop := gInt .i64 (fr 1) fun x1 => gSlice (fr 7) fun a7 l7 c7 => gInt .u64 (fr 8) fun x8 => D3.t R x1 a7 l7 c7 x8 h
theorem D3.ok (R : Rt) (fr : Fr) (h : Hp) (g : D3.g R fr h) : den prog E (cAt C [true, true, true, true, true, false]) (Ex.then (D2.g R) (retQ E [.tmp 6] R)) fr h := by
  obtain ⟨x1, e1, g⟩ := gInt_elim g
  obtain ⟨a7, l7, c7, e7, g⟩ := gSlice_elim g
  obtain ⟨x8, e8, g⟩ := gInt_elim g
  exact den_cut 1 (r := (cAt C [true, true, true, true, true, false, true])) (by kernel_rfl) (B6.ok R) (den_enter [(1, .int .i64 x1), (7, .slice a7 l7 c7), (8, .int .u64 x8)] ⟨e1, e7, e8, trivial⟩ (by kernel_rfl) g)
theorem W7.ok (R : Rt) (fr : Fr) (h : Hp) (g : D3.g R fr h) : den prog E (cAt C [true, true, true, true, true]) (retQ E [.tmp 6] R) fr h :=
  den_then (by kernel_rfl) (D2.ok R) (D3.ok R fr h g)
def D1.t (R : Rt) (a0 : Option Addr) (l0 : Nat) (c0 : Nat) (x1 : Int) (x2 : Int) (h : Hp) : Prop :=
  mkK h 35 T35 x2 x2 fun q1 h2 =>
  cpK h2 1 (some q1) x2.toNat (.slice a0 l0 c0) fun n3 h3 =>
  cond (x1 == 0) (R (.slice (some q1) x2.toNat x2.toNat) h3) (D3.t R x1 (some q1) x2.toNat x2.toNat 0 h3)
def D1.g (R : Rt) (fr : Fr) (h : Hp) : Prop := gSlice (fr 0) fun a0 l0 c0 => gInt .i64 (fr 1) fun x1 => gInt .i64 (fr 2) fun x2 => D1.t R a0 l0 c0 x1 x2 h
theorem D1.ok (R : Rt) (fr : Fr) (h : Hp) (g : D1.g R fr h) : den prog E C (retQ E [.tmp 6] R) fr h := by
  obtain ⟨a0, l0, c0, e0, g⟩ := gSlice_elim g
  obtain ⟨x1, e1, g⟩ := gInt_elim g
  obtain ⟨x2, e2, g⟩ := gInt_elim g
  exact den_cut 5 (r := (cAt C [true, true, true, true, true])) (by kernel_rfl) (W7.ok R) (den_enter [(0, .slice a0 l0 c0), (1, .int .i64 x1), (2, .int .i64 x2)] ⟨e0, e1, e2, trivial⟩ (by kernel_rfl) g)
def t (a0 : Option Addr) (l0 : Nat) (c0 : Nat) (x1 : Int) (x2 : Int) (h : Hp) (R : Rt) : Prop := D1.t R a0 l0 c0 x1 x2 h
theorem ok {a0 : Option Addr} {l0 : Nat} {c0 : Nat} {x1 : Int} {x2 : Int} {h : Hp} {R : Rt} (g : t a0 l0 c0 x1 x2 h R) : HC id #[.slice a0 l0 c0, .int .i64 x1, .int .i64 x2] h R :=
  calls_of_den' envOk (c := C) (rs := [.tmp 6]) Tryz.func110 (by kernel_rfl) (by kernel_rfl) (by kernel_rfl) (args := [.slice a0 l0 c0, .int .i64 x1, .int .i64 x2]) (by kernel_rfl) (D1.ok R _ h (gSlice_intro rfl (gInt_intro rfl (gInt_intro rfl (g)))))
end natdiv_shifted

namespace natdiv_long
noncomputable def C : Code := bodyOf Tryz.f111
def D3.t (R : Rt) (a6 : Option Addr) (l6 : Nat) (c6 : Nat) (h : Hp) : Prop :=
  R (.slice a6 l6 c6) h
def D3.g (R : Rt) (fr : Fr) (h : Hp) : Prop := gSlice (fr 6) fun a6 l6 c6 => D3.t R a6 l6 c6 h
theorem D3.ok (R : Rt) (fr : Fr) (h : Hp) (g : D3.g R fr h) : den prog E (cAt C [true, false, true, true, true, true]) (retQ E [.tmp 4] R) fr h := by
  obtain ⟨a6, l6, c6, e6, g⟩ := gSlice_elim g
  exact den_enter [(6, .slice a6 l6 c6)] ⟨e6, trivial⟩ (by kernel_rfl) g
def L5.g (N : Option Addr → Nat → Nat → Option Addr → Nat → Nat → Int → Option Addr → Nat → Nat → Int → Hp → Prop) (fr : Fr) (h : Hp) : Prop := gSlice (fr 0) fun a0 l0 c0 => gSlice (fr 1) fun a1 l1 c1 => gInt .i64 (fr 5) fun x5 => gSlice (fr 6) fun a6 l6 c6 => gInt .i64 (fr 7) fun x7 => N a0 l0 c0 a1 l1 c1 x5 a6 l6 c6 x7 h
def D7.t (R : Rt) (N5 : Option Addr → Nat → Nat → Option Addr → Nat → Nat → Int → Option Addr → Nat → Nat → Int → Hp → Prop) (a0 : Option Addr) (l0 : Nat) (c0 : Nat) (a1 : Option Addr) (l1 : Nat) (c1 : Nat) (x5 : Int) (a6 : Option Addr) (l6 : Nat) (c6 : Nat) (x7 : Int) (h : Hp) : Prop :=
  letK (IntKind.i64.wrap (x7 - 1)) fun n6 => N5 a0 l0 c0 a1 l1 c1 x5 a6 l6 c6 n6 h
def D7.g (R : Rt) (N5 : Option Addr → Nat → Nat → Option Addr → Nat → Nat → Int → Option Addr → Nat → Nat → Int → Hp → Prop) (fr : Fr) (h : Hp) : Prop := gSlice (fr 0) fun a0 l0 c0 => gSlice (fr 1) fun a1 l1 c1 => gInt .i64 (fr 5) fun x5 => gSlice (fr 6) fun a6 l6 c6 => gInt .i64 (fr 7) fun x7 => D7.t R N5 a0 l0 c0 a1 l1 c1 x5 a6 l6 c6 x7 h
theorem D7.ok (R : Rt) (N5 : Option Addr → Nat → Nat → Option Addr → Nat → Nat → Int → Option Addr → Nat → Nat → Int → Hp → Prop) (fr : Fr) (h : Hp) (g : D7.g R N5 fr h) : den prog E (cAt C [true, false, true, true, true, false, true, false, false, true, true]) (Ex.then (L5.g N5) (Ex.inBlock 0 (Ex.then (D3.g R) (retQ E [.tmp 4] R)))) fr h := by
  obtain ⟨a0, l0, c0, e0, g⟩ := gSlice_elim g
  obtain ⟨a1, l1, c1, e1, g⟩ := gSlice_elim g
  obtain ⟨x5, e5, g⟩ := gInt_elim g
  obtain ⟨a6, l6, c6, e6, g⟩ := gSlice_elim g
  obtain ⟨x7, e7, g⟩ := gInt_elim g
  exact den_enter [(0, .slice a0 l0 c0), (1, .slice a1 l1 c1), (5, .int .i64 x5), (6, .slice a6 l6 c6), (7, .int .i64 x7)] ⟨e0, e1, e5, e6, e7, trivial⟩ (by kernel_rfl) g
def L9.g (N : Option Addr → Nat → Nat → Option Addr → Nat → Nat → Int → Option Addr → Nat → Nat → Int → Int → Option Addr → Nat → Nat → Hp → Prop) (fr : Fr) (h : Hp) : Prop := gSlice (fr 0) fun a0 l0 c0 => gSlice (fr 1) fun a1 l1 c1 => gInt .i64 (fr 5) fun x5 => gSlice (fr 6) fun a6 l6 c6 => gInt .i64 (fr 7) fun x7 => gInt .u64 (fr 8) fun x8 => gSlice (fr 9) fun a9 l9 c9 => N a0 l0 c0 a1 l1 c1 x5 a6 l6 c6 x7 x8 a9 l9 c9 h
def D10.t (R : Rt) (N5 : Option Addr → Nat → Nat → Option Addr → Nat → Nat → Int → Option Addr → Nat → Nat → Int → Hp → Prop) (N9 : Option Addr → Nat → Nat → Option Addr → Nat → Nat → Int → Option Addr → Nat → Nat → Int → Int → Option Addr → Nat → Nat → Hp → Prop) (a0 : Option Addr) (l0 : Nat) (c0 : Nat) (a1 : Option Addr) (l1 : Nat) (c1 : Nat) (x5 : Int) (a6 : Option Addr) (l6 : Nat) (c6 : Nat) (x7 : Int) (x8 : Int) (a9 : Option Addr) (l9 : Nat) (c9 : Nat) (h : Hp) : Prop :=
  letK (IntKind.u64.wrap (x8 - 1)) fun n31 =>
  HC natdiv_giveBack.id #[.slice a9 l9 c9, .slice a1 l1 c1] h fun v32 h33 =>
  gInt .u64 v32 fun x_34 =>
  cond (x_34 == 1) (idxK a6 l6 x7 1 fun q35 =>
  stK h33 q35 (.int .u64 n31) fun h36 =>
  D7.t R N5 a0 l0 c0 a1 l1 c1 x5 a6 l6 c6 x7 h36) (N9 a0 l0 c0 a1 l1 c1 x5 a6 l6 c6 x7 n31 a9 l9 c9 h33)
def D10.g (R : Rt) (N5 : Option Addr → Nat → Nat → Option Addr → Nat → Nat → Int → Option Addr → Nat → Nat → Int → Hp → Prop) (N9 : Option Addr → Nat → Nat → Option Addr → Nat → Nat → Int → Option Addr → Nat → Nat → Int → Int → Option Addr → Nat → Nat → Hp → Prop) (fr : Fr) (h : Hp) : Prop := gSlice (fr 0) fun a0 l0 c0 => gSlice (fr 1) fun a1 l1 c1 => gInt .i64 (fr 5) fun x5 => gSlice (fr 6) fun a6 l6 c6 => gInt .i64 (fr 7) fun x7 => gInt .u64 (fr 8) fun x8 => gSlice (fr 9) fun a9 l9 c9 => D10.t R N5 N9 a0 l0 c0 a1 l1 c1 x5 a6 l6 c6 x7 x8 a9 l9 c9 h
theorem D10.ok (R : Rt) (N5 : Option Addr → Nat → Nat → Option Addr → Nat → Nat → Int → Option Addr → Nat → Nat → Int → Hp → Prop) (N9 : Option Addr → Nat → Nat → Option Addr → Nat → Nat → Int → Option Addr → Nat → Nat → Int → Int → Option Addr → Nat → Nat → Hp → Prop) (fr : Fr) (h : Hp) (g : D10.g R N5 N9 fr h) : den prog E (cAt C [true, false, true, true, true, false, true, false, false, true, false, false, true, true, true, false, false]) (Ex.then (L9.g N9) (Ex.inBlock 2 (Ex.inBlock 1 (Ex.then (D7.g R N5) (Ex.then (L5.g N5) (Ex.inBlock 0 (Ex.then (D3.g R) (retQ E [.tmp 4] R)))))))) fr h := by
  obtain ⟨a0, l0, c0, e0, g⟩ := gSlice_elim g
  obtain ⟨a1, l1, c1, e1, g⟩ := gSlice_elim g
  obtain ⟨x5, e5, g⟩ := gInt_elim g
  obtain ⟨a6, l6, c6, e6, g⟩ := gSlice_elim g
  obtain ⟨x7, e7, g⟩ := gInt_elim g
  obtain ⟨x8, e8, g⟩ := gInt_elim g
  obtain ⟨a9, l9, c9, e9, g⟩ := gSlice_elim g
  exact den_enter [(0, .slice a0 l0 c0), (1, .slice a1 l1 c1), (5, .int .i64 x5), (6, .slice a6 l6 c6), (7, .int .i64 x7), (8, .int .u64 x8), (9, .slice a9 l9 c9)] ⟨e0, e1, e5, e6, e7, e8, e9, trivial⟩ (by kernel_rfl) g
def L9.t (R : Rt) (N5 : Option Addr → Nat → Nat → Option Addr → Nat → Nat → Int → Option Addr → Nat → Nat → Int → Hp → Prop) : Nat → Option Addr → Nat → Nat → Option Addr → Nat → Nat → Int → Option Addr → Nat → Nat → Int → Int → Option Addr → Nat → Nat → Hp → Prop
  | 0 => fun _ _ _ _ _ _ _ _ _ _ _ _ _ _ _ _ => False
  | n + 1 => fun a0 l0 c0 a1 l1 c1 x5 a6 l6 c6 x7 x8 a9 l9 c9 h => D10.t R N5 (L9.t R N5 n) a0 l0 c0 a1 l1 c1 x5 a6 l6 c6 x7 x8 a9 l9 c9 h
theorem L9.ok (R : Rt) (N5 : Option Addr → Nat → Nat → Option Addr → Nat → Nat → Int → Option Addr → Nat → Nat → Int → Hp → Prop) (fr : Fr) (h : Hp) (g : L9.g (fun a0 l0 c0 a1 l1 c1 x5 a6 l6 c6 x7 x8 a9 l9 c9 h => ∃ n, L9.t R N5 n a0 l0 c0 a1 l1 c1 x5 a6 l6 c6 x7 x8 a9 l9 c9 h) fr h) : den prog E (cAt C [true, false, true, true, true, false, true, false, false, true, false, false, true, true, true, false]) (Ex.inBlock 2 (Ex.inBlock 1 (Ex.then (D7.g R N5) (Ex.then (L5.g N5) (Ex.inBlock 0 (Ex.then (D3.g R) (retQ E [.tmp 4] R))))))) fr h := by
  obtain ⟨a0, l0, c0, e0, g⟩ := gSlice_elim g
  obtain ⟨a1, l1, c1, e1, g⟩ := gSlice_elim g
  obtain ⟨x5, e5, g⟩ := gInt_elim g
  obtain ⟨a6, l6, c6, e6, g⟩ := gSlice_elim g
  obtain ⟨x7, e7, g⟩ := gInt_elim g
  obtain ⟨x8, e8, g⟩ := gInt_elim g
  obtain ⟨a9, l9, c9, e9, g⟩ := gSlice_elim g
  obtain ⟨n, g⟩ := g
  refine loop_ok (fun n => L9.g (L9.t R N5 n)) (b := (cAt C [true, false, true, true, true, false, true, false, false, true, false, false, true, true, true, false, false])) (by kernel_rfl) (fun fr h g => ?_) (fun n => D10.ok R N5 (L9.t R N5 n)) n fr h (gSlice_intro e0 (gSlice_intro e1 (gInt_intro e5 (gSlice_intro e6 (gInt_intro e7 (gInt_intro e8 (gSlice_intro e9 (g))))))))
  obtain ⟨a0, l0, c0, e0, g⟩ := gSlice_elim g
  obtain ⟨a1, l1, c1, e1, g⟩ := gSlice_elim g
  obtain ⟨x5, e5, g⟩ := gInt_elim g
  obtain ⟨a6, l6, c6, e6, g⟩ := gSlice_elim g
  obtain ⟨x7, e7, g⟩ := gInt_elim g
  obtain ⟨x8, e8, g⟩ := gInt_elim g
  obtain ⟨a9, l9, c9, e9, g⟩ := gSlice_elim g
  exact g
theorem B11.ok (R : Rt) (N5 : Option Addr → Nat → Nat → Option Addr → Nat → Nat → Int → Option Addr → Nat → Nat → Int → Hp → Prop) (fr : Fr) (h : Hp) (g : L9.g (fun a0 l0 c0 a1 l1 c1 x5 a6 l6 c6 x7 x8 a9 l9 c9 h => ∃ n, L9.t R N5 n a0 l0 c0 a1 l1 c1 x5 a6 l6 c6 x7 x8 a9 l9 c9 h) fr h) : den prog E (cAt C [true, false, true, true, true, false, true, false, false, true, false, false, true, true, true]) (Ex.inBlock 1 (Ex.then (D7.g R N5) (Ex.then (L5.g N5) (Ex.inBlock 0 (Ex.then (D3.g R) (retQ E [.tmp 4] R)))))) fr h :=
  den_block (by kernel_rfl) (L9.ok R N5 fr h g)
def D8.t (R : Rt) (N5 : Option Addr → Nat → Nat → Option Addr → Nat → Nat → Int → Option Addr → Nat → Nat → Int → Hp → Prop) (a0 : Option Addr) (l0 : Nat) (c0 : Nat) (a1 : Option Addr) (l1 : Nat) (c1 : Nat) (x5 : Int) (a6 : Option Addr) (l6 : Nat) (c6 : Nat) (x7 : Int) (h : Hp) : Prop :=
  letK (IntKind.i64.wrap (x7 + x5)) fun n7 =>
  idxK a0 l0 n7 1 fun q8 =>
  ldK h q8 fun v9 =>
  gInt .u64 v9 fun x_10 =>
  letK (IntKind.i64.wrap (x7 + x5)) fun n11 =>
  letK (IntKind.i64.wrap (n11 - 1)) fun n12 =>
  idxK a0 l0 n12 1 fun q13 =>
  ldK h q13 fun v14 =>
  gInt .u64 v14 fun x_15 =>
  letK (IntKind.i64.wrap (x5 - 1)) fun n16 =>
  idxK a1 l1 n16 1 fun q17 =>
  ldK h q17 fun v18 =>
  gInt .u64 v18 fun x_19 =>
  HC natdiv_trial.id #[.int .u64 x_10, .int .u64 x_15, .int .u64 x_19] h fun v20 h21 =>
  gInt .u64 v20 fun x_22 =>
  letK (IntKind.i64.wrap (x7 + x5)) fun n23 =>
  letK (IntKind.i64.wrap (n23 + 1)) fun n24 =>
  slK 1 a0 l0 c0 (some (.int .i64 x7)) (some (.int .i64 n24)) none fun a_25 l_25 c_25 =>
  HC natdiv_takeMul.id #[.slice a_25 l_25 c_25, .slice a1 l1 c1, .int .u64 x_22] h21 fun v26 h27 =>
  gInt .u64 v26 fun x_28 =>
  cond (x_28 == 0) (idxK a6 l6 x7 1 fun q29 =>
  stK h27 q29 (.int .u64 x_22) fun h30 =>
  D7.t R N5 a0 l0 c0 a1 l1 c1 x5 a6 l6 c6 x7 h30) ((∃ n, L9.t R N5 n a0 l0 c0 a1 l1 c1 x5 a6 l6 c6 x7 x_22 a_25 l_25 c_25 h27))
def D8.g (R : Rt) (N5 : Option Addr → Nat → Nat → Option Addr → Nat → Nat → Int → Option Addr → Nat → Nat → Int → Hp → Prop) (fr : Fr) (h : Hp) : Prop := gSlice (fr 0) fun a0 l0 c0 => gSlice (fr 1) fun a1 l1 c1 => gInt .i64 (fr 5) fun x5 => gSlice (fr 6) fun a6 l6 c6 => gInt .i64 (fr 7) fun x7 => D8.t R N5 a0 l0 c0 a1 l1 c1 x5 a6 l6 c6 x7 h
theorem D8.ok (R : Rt) (N5 : Option Addr → Nat → Nat → Option Addr → Nat → Nat → Int → Option Addr → Nat → Nat → Int → Hp → Prop) (fr : Fr) (h : Hp) (g : D8.g R N5 fr h) : den prog E (cAt C [true, false, true, true, true, false, true, false, false, true, false, false]) (Ex.inBlock 1 (Ex.then (D7.g R N5) (Ex.then (L5.g N5) (Ex.inBlock 0 (Ex.then (D3.g R) (retQ E [.tmp 4] R)))))) fr h := by
  obtain ⟨a0, l0, c0, e0, g⟩ := gSlice_elim g
  obtain ⟨a1, l1, c1, e1, g⟩ := gSlice_elim g
  obtain ⟨x5, e5, g⟩ := gInt_elim g
  obtain ⟨a6, l6, c6, e6, g⟩ := gSlice_elim g
  obtain ⟨x7, e7, g⟩ := gInt_elim g
  exact den_cut 3 (r := (cAt C [true, false, true, true, true, false, true, false, false, true, false, false, true, true, true])) (by kernel_rfl) (B11.ok R N5) (den_enter [(0, .slice a0 l0 c0), (1, .slice a1 l1 c1), (5, .int .i64 x5), (6, .slice a6 l6 c6), (7, .int .i64 x7)] ⟨e0, e1, e5, e6, e7, trivial⟩ (by kernel_rfl) g)
theorem B12.ok (R : Rt) (N5 : Option Addr → Nat → Nat → Option Addr → Nat → Nat → Int → Option Addr → Nat → Nat → Int → Hp → Prop) (fr : Fr) (h : Hp) (g : D8.g R N5 fr h) : den prog E (cAt C [true, false, true, true, true, false, true, false, false, true, false]) (Ex.then (D7.g R N5) (Ex.then (L5.g N5) (Ex.inBlock 0 (Ex.then (D3.g R) (retQ E [.tmp 4] R))))) fr h :=
  den_block (by kernel_rfl) (D8.ok R N5 fr h g)
theorem W13.ok (R : Rt) (N5 : Option Addr → Nat → Nat → Option Addr → Nat → Nat → Int → Option Addr → Nat → Nat → Int → Hp → Prop) (fr : Fr) (h : Hp) (g : D8.g R N5 fr h) : den prog E (cAt C [true, false, true, true, true, false, true, false, false, true]) (Ex.then (L5.g N5) (Ex.inBlock 0 (Ex.then (D3.g R) (retQ E [.tmp 4] R)))) fr h :=
  den_then (by kernel_rfl) (D7.ok R N5) (B12.ok R N5 fr h g)
def D6.t (R : Rt) (N5 : Option Addr → Nat → Nat → Option Addr → Nat → Nat → Int → Option Addr → Nat → Nat → Int → Hp → Prop) (a0 : Option Addr) (l0 : Nat) (c0 : Nat) (a1 : Option Addr) (l1 : Nat) (c1 : Nat) (x5 : Int) (a6 : Option Addr) (l6 : Nat) (c6 : Nat) (x7 : Int) (h : Hp) : Prop :=
  cond (decide (x7 ≥ 0)) (D8.t R N5 a0 l0 c0 a1 l1 c1 x5 a6 l6 c6 x7 h) (D3.t R a6 l6 c6 h)
def D6.g (R : Rt) (N5 : Option Addr → Nat → Nat → Option Addr → Nat → Nat → Int → Option Addr → Nat → Nat → Int → Hp → Prop) (fr : Fr) (h : Hp) : Prop := gSlice (fr 0) fun a0 l0 c0 => gSlice (fr 1) fun a1 l1 c1 => gInt .i64 (fr 5) fun x5 => gSlice (fr 6) fun a6 l6 c6 => gInt .i64 (fr 7) fun x7 => D6.t R N5 a0 l0 c0 a1 l1 c1 x5 a6 l6 c6 x7 h
theorem D6.ok (R : Rt) (N5 : Option Addr → Nat → Nat → Option Addr → Nat → Nat → Int → Option Addr → Nat → Nat → Int → Hp → Prop) (fr : Fr) (h : Hp) (g : D6.g R N5 fr h) : den prog E (cAt C [true, false, true, true, true, false, true, false, false]) (Ex.then (L5.g N5) (Ex.inBlock 0 (Ex.then (D3.g R) (retQ E [.tmp 4] R)))) fr h := by
  obtain ⟨a0, l0, c0, e0, g⟩ := gSlice_elim g
  obtain ⟨a1, l1, c1, e1, g⟩ := gSlice_elim g
  obtain ⟨x5, e5, g⟩ := gInt_elim g
  obtain ⟨a6, l6, c6, e6, g⟩ := gSlice_elim g
  obtain ⟨x7, e7, g⟩ := gInt_elim g
  exact den_cut 1 (r := (cAt C [true, false, true, true, true, false, true, false, false, true])) (by kernel_rfl) (W13.ok R N5) (den_enter [(0, .slice a0 l0 c0), (1, .slice a1 l1 c1), (5, .int .i64 x5), (6, .slice a6 l6 c6), (7, .int .i64 x7)] ⟨e0, e1, e5, e6, e7, trivial⟩ (by kernel_rfl) g)
def L5.t (R : Rt) : Nat → Option Addr → Nat → Nat → Option Addr → Nat → Nat → Int → Option Addr → Nat → Nat → Int → Hp → Prop
  | 0 => fun _ _ _ _ _ _ _ _ _ _ _ _ => False
  | n + 1 => fun a0 l0 c0 a1 l1 c1 x5 a6 l6 c6 x7 h => D6.t R (L5.t R n) a0 l0 c0 a1 l1 c1 x5 a6 l6 c6 x7 h
theorem L5.ok (R : Rt) (fr : Fr) (h : Hp) (g : L5.g (fun a0 l0 c0 a1 l1 c1 x5 a6 l6 c6 x7 h => ∃ n, L5.t R n a0 l0 c0 a1 l1 c1 x5 a6 l6 c6 x7 h) fr h) : den prog E (cAt C [true, false, true, true, true, false, true, false]) (Ex.inBlock 0 (Ex.then (D3.g R) (retQ E [.tmp 4] R))) fr h := by
  obtain ⟨a0, l0, c0, e0, g⟩ := gSlice_elim g
  obtain ⟨a1, l1, c1, e1, g⟩ := gSlice_elim g
  obtain ⟨x5, e5, g⟩ := gInt_elim g
  obtain ⟨a6, l6, c6, e6, g⟩ := gSlice_elim g
  obtain ⟨x7, e7, g⟩ := gInt_elim g
  obtain ⟨n, g⟩ := g
  refine loop_ok (fun n => L5.g (L5.t R n)) (b := (cAt C [true, false, true, true, true, false, true, false, false])) (by kernel_rfl) (fun fr h g => ?_) (fun n => D6.ok R (L5.t R n)) n fr h (gSlice_intro e0 (gSlice_intro e1 (gInt_intro e5 (gSlice_intro e6 (gInt_intro e7 (g))))))
  obtain ⟨a0, l0, c0, e0, g⟩ := gSlice_elim g
  obtain ⟨a1, l1, c1, e1, g⟩ := gSlice_elim g
  obtain ⟨x5, e5, g⟩ := gInt_elim g
  obtain ⟨a6, l6, c6, e6, g⟩ := gSlice_elim g
  obtain ⟨x7, e7, g⟩ := gInt_elim g
  exact g
theorem B14.ok (R : Rt) (fr : Fr) (h : Hp) (g : L5.g (fun a0 l0 c0 a1 l1 c1 x5 a6 l6 c6 x7 h => ∃ n, L5.t R n a0 l0 c0 a1 l1 c1 x5 a6 l6 c6 x7 h) fr h) : den prog E (cAt C [true, false, true, true, true, false, true]) (Ex.then (D3.g R) (retQ E [.tmp 4] R)) fr h :=
  den_block (by kernel_rfl) (L5.ok R fr h g)
def D4.t (R : Rt) (a0 : Option Addr) (l0 : Nat) (c0 : Nat) (a1 : Option Addr) (l1 : Nat) (c1 : Nat) (x5 : Int) (a6 : Option Addr) (l6 : Nat) (c6 : Nat) (h : Hp) : Prop :=
  letK (IntKind.i64.wrap ((((l0 : Nat) : Int)) - x5)) fun n4 =>
  letK (IntKind.i64.wrap (n4 - 1)) fun n5 =>
  (∃ n, L5.t R n a0 l0 c0 a1 l1 c1 x5 a6 l6 c6 n5 h)
def D4.g (R : Rt) (fr : Fr) (h : Hp) : Prop := gSlice (fr 0) fun a0 l0 c0 => gSlice (fr 1) fun a1 l1 c1 => gInt .i64 (fr 5) fun x5 => gSlice (fr 6) fun a6 l6 c6 => D4.t R a0 l0 c0 a1 l1 c1 x5 a6 l6 c6 h
theorem D4.ok (R : Rt) (fr : Fr) (h : Hp) (g : D4.g R fr h) : den prog E (cAt C [true, false, true, true, true, false]) (Ex.then (D3.g R) (retQ E [.tmp 4] R)) fr h := by
  obtain ⟨a0, l0, c0, e0, g⟩ := gSlice_elim g
  obtain ⟨a1, l1, c1, e1, g⟩ := gSlice_elim g
  obtain ⟨x5, e5, g⟩ := gInt_elim g
  obtain ⟨a6, l6, c6, e6, g⟩ := gSlice_elim g
  exact den_cut 1 (r := (cAt C [true, false, true, true, true, false, true])) (by kernel_rfl) (B14.ok R) (den_enter [(0, .slice a0 l0 c0), (1, .slice a1 l1 c1), (5, .int .i64 x5), (6, .slice a6 l6 c6)] ⟨e0, e1, e5, e6, trivial⟩ (by kernel_rfl) g)
theorem W15.ok (R : Rt) (fr : Fr) (h : Hp) (g : D4.g R fr h) : den prog E (cAt C [true, false, true, true, true]) (retQ E [.tmp 4] R) fr h :=
  den_then (by kernel_rfl) (D3.ok R) (D4.ok R fr h g)
def D2.t (R : Rt) (a0 : Option Addr) (l0 : Nat) (c0 : Nat) (a1 : Option Addr) (l1 : Nat) (c1 : Nat) (h : Hp) : Prop :=
  letK (IntKind.i64.wrap ((((l0 : Nat) : Int)) - (((l1 : Nat) : Int)))) fun n1 =>
  mkK h 35 T35 n1 n1 fun q2 h3 =>
  D4.t R a0 l0 c0 a1 l1 c1 (((l1 : Nat) : Int)) (some q2) n1.toNat n1.toNat h3
def D2.g (R : Rt) (fr : Fr) (h : Hp) : Prop := gSlice (fr 0) fun a0 l0 c0 => gSlice (fr 1) fun a1 l1 c1 => D2.t R a0 l0 c0 a1 l1 c1 h
theorem D2.ok (R : Rt) (fr : Fr) (h : Hp) (g : D2.g R fr h) : den prog E (cAt C [true, false]) (retQ E [.tmp 4] R) fr h := by
  obtain ⟨a0, l0, c0, e0, g⟩ := gSlice_elim g
  obtain ⟨a1, l1, c1, e1, g⟩ := gSlice_elim g
  exact den_cut 3 (r := (cAt C [true, false, true, true, true])) (by kernel_rfl) (W15.ok R) (den_enter [(0, .slice a0 l0 c0), (1, .slice a1 l1 c1)] ⟨e0, e1, trivial⟩ (by kernel_rfl) g)
theorem B16.ok (R : Rt) (fr : Fr) (h : Hp) (g : D2.g R fr h) : den prog E (cAt C [true]) (retQ E [.tmp 4] R) fr h :=
  den_scope (by kernel_rfl) (D2.ok R fr h g)
def D1.t (R : Rt) (a0 : Option Addr) (l0 : Nat) (c0 : Nat) (a1 : Option Addr) (l1 : Nat) (c1 : Nat) (h : Hp) : Prop :=
  D2.t R a0 l0 c0 a1 l1 c1 h
def D1.g (R : Rt) (fr : Fr) (h : Hp) : Prop := gSlice (fr 0) fun a0 l0 c0 => gSlice (fr 1) fun a1 l1 c1 => D1.t R a0 l0 c0 a1 l1 c1 h
theorem D1.ok (R : Rt) (fr : Fr) (h : Hp) (g : D1.g R fr h) : den prog E C (retQ E [.tmp 4] R) fr h := by
  obtain ⟨a0, l0, c0, e0, g⟩ := gSlice_elim g
  obtain ⟨a1, l1, c1, e1, g⟩ := gSlice_elim g
  exact den_cut 1 (r := (cAt C [true])) (by kernel_rfl) (B16.ok R) (den_enter [(0, .slice a0 l0 c0), (1, .slice a1 l1 c1)] ⟨e0, e1, trivial⟩ (by kernel_rfl) g)
def t (a0 : Option Addr) (l0 : Nat) (c0 : Nat) (a1 : Option Addr) (l1 : Nat) (c1 : Nat) (h : Hp) (R : Rt) : Prop := D1.t R a0 l0 c0 a1 l1 c1 h
theorem ok {a0 : Option Addr} {l0 : Nat} {c0 : Nat} {a1 : Option Addr} {l1 : Nat} {c1 : Nat} {h : Hp} {R : Rt} (g : t a0 l0 c0 a1 l1 c1 h R) : HC id #[.slice a0 l0 c0, .slice a1 l1 c1] h R :=
  calls_of_den' envOk (c := C) (rs := [.tmp 4]) Tryz.func111 (by kernel_rfl) (by kernel_rfl) (by kernel_rfl) (args := [.slice a0 l0 c0, .slice a1 l1 c1]) (by kernel_rfl) (D1.ok R _ h (gSlice_intro rfl (gSlice_intro rfl (g))))
end natdiv_long

namespace natmul_fill
noncomputable def C : Code := bodyOf Tryz.f113
def D2.t (R : Rt) (a0 : Option Addr) (l0 : Nat) (c0 : Nat) (a1 : Option Addr) (l1 : Nat) (c1 : Nat) (a2 : Option Addr) (l2 : Nat) (c2 : Nat) (h : Hp) : Prop :=
  cond (decide ((((l2 : Nat) : Int)) < 40)) (HC natmul_rows.id #[.slice a0 l0 c0, .slice a1 l1 c1, .slice a2 l2 c2] h fun v1 h2 =>
  gTup v1 fun y3 =>
  unnil y3 <| R (.tuple #[]) h2) (letK (IntKind.i64.wrap (2 * (((l2 : Nat) : Int)))) fun n4 =>
  cond (decide ((((l1 : Nat) : Int)) ≥ n4)) (HC natmul_slabs.id #[.slice a0 l0 c0, .slice a1 l1 c1, .slice a2 l2 c2] h fun v5 h6 =>
  gTup v5 fun y7 =>
  unnil y7 <| R (.tuple #[]) h6) (HC natmul_thirds.id #[.slice a0 l0 c0, .slice a1 l1 c1, .slice a2 l2 c2] h fun v8 h9 =>
  gTup v8 fun y10 =>
  unnil y10 <| R (.tuple #[]) h9))
def D2.g (R : Rt) (fr : Fr) (h : Hp) : Prop := gSlice (fr 0) fun a0 l0 c0 => gSlice (fr 1) fun a1 l1 c1 => gSlice (fr 2) fun a2 l2 c2 => D2.t R a0 l0 c0 a1 l1 c1 a2 l2 c2 h
theorem D2.ok (R : Rt) (fr : Fr) (h : Hp) (g : D2.g R fr h) : den prog E (cAt C [true]) (retQ E [] R) fr h := by
  obtain ⟨a0, l0, c0, e0, g⟩ := gSlice_elim g
  obtain ⟨a1, l1, c1, e1, g⟩ := gSlice_elim g
  obtain ⟨a2, l2, c2, e2, g⟩ := gSlice_elim g
  exact den_enter [(0, .slice a0 l0 c0), (1, .slice a1 l1 c1), (2, .slice a2 l2 c2)] ⟨e0, e1, e2, trivial⟩ (by kernel_rfl) g
def D1.t (R : Rt) (a0 : Option Addr) (l0 : Nat) (c0 : Nat) (a1 : Option Addr) (l1 : Nat) (c1 : Nat) (a2 : Option Addr) (l2 : Nat) (c2 : Nat) (h : Hp) : Prop :=
  cond (decide ((((l1 : Nat) : Int)) < (((l2 : Nat) : Int)))) (D2.t R a0 l0 c0 a2 l2 c2 a1 l1 c1 h) (D2.t R a0 l0 c0 a1 l1 c1 a2 l2 c2 h)
def D1.g (R : Rt) (fr : Fr) (h : Hp) : Prop := gSlice (fr 0) fun a0 l0 c0 => gSlice (fr 1) fun a1 l1 c1 => gSlice (fr 2) fun a2 l2 c2 => D1.t R a0 l0 c0 a1 l1 c1 a2 l2 c2 h
theorem D1.ok (R : Rt) (fr : Fr) (h : Hp) (g : D1.g R fr h) : den prog E C (retQ E [] R) fr h := by
  obtain ⟨a0, l0, c0, e0, g⟩ := gSlice_elim g
  obtain ⟨a1, l1, c1, e1, g⟩ := gSlice_elim g
  obtain ⟨a2, l2, c2, e2, g⟩ := gSlice_elim g
  exact den_cut 1 (r := (cAt C [true])) (by kernel_rfl) (D2.ok R) (den_enter [(0, .slice a0 l0 c0), (1, .slice a1 l1 c1), (2, .slice a2 l2 c2)] ⟨e0, e1, e2, trivial⟩ (by kernel_rfl) g)
def t (a0 : Option Addr) (l0 : Nat) (c0 : Nat) (a1 : Option Addr) (l1 : Nat) (c1 : Nat) (a2 : Option Addr) (l2 : Nat) (c2 : Nat) (h : Hp) (R : Rt) : Prop := D1.t R a0 l0 c0 a1 l1 c1 a2 l2 c2 h
theorem ok {a0 : Option Addr} {l0 : Nat} {c0 : Nat} {a1 : Option Addr} {l1 : Nat} {c1 : Nat} {a2 : Option Addr} {l2 : Nat} {c2 : Nat} {h : Hp} {R : Rt} (g : t a0 l0 c0 a1 l1 c1 a2 l2 c2 h R) : HC id #[.slice a0 l0 c0, .slice a1 l1 c1, .slice a2 l2 c2] h R :=
  calls_of_den' envOk (c := C) (rs := []) Tryz.func113 (by kernel_rfl) (by kernel_rfl) (by kernel_rfl) (args := [.slice a0 l0 c0, .slice a1 l1 c1, .slice a2 l2 c2]) (by kernel_rfl) (D1.ok R _ h (gSlice_intro rfl (gSlice_intro rfl (gSlice_intro rfl (g)))))
end natmul_fill

namespace natmul_trim
noncomputable def C : Code := bodyOf Tryz.f114
def D2.t (R : Rt) (a0 : Option Addr) (l0 : Nat) (c0 : Nat) (x3 : Int) (h : Hp) : Prop :=
  slK 1 a0 l0 c0 none (some (.int .i64 x3)) (some (.int .i64 x3)) fun a_1 l_1 c_1 => R (.slice a_1 l_1 c_1) h
def D2.g (R : Rt) (fr : Fr) (h : Hp) : Prop := gSlice (fr 0) fun a0 l0 c0 => gInt .i64 (fr 3) fun x3 => D2.t R a0 l0 c0 x3 h
theorem D2.ok (R : Rt) (fr : Fr) (h : Hp) (g : D2.g R fr h) : den prog E (cAt C [true, true, true]) (retQ E [.tmp 2] R) fr h := by
  obtain ⟨a0, l0, c0, e0, g⟩ := gSlice_elim g
  obtain ⟨x3, e3, g⟩ := gInt_elim g
  exact den_enter [(0, .slice a0 l0 c0), (3, .int .i64 x3)] ⟨e0, e3, trivial⟩ (by kernel_rfl) g
def L3.g (N : Option Addr → Nat → Nat → Int → Hp → Prop) (fr : Fr) (h : Hp) : Prop := gSlice (fr 0) fun a0 l0 c0 => gInt .i64 (fr 3) fun x3 => N a0 l0 c0 x3 h
def D4.t (R : Rt) (N3 : Option Addr → Nat → Nat → Int → Hp → Prop) (a0 : Option Addr) (l0 : Nat) (c0 : Nat) (x3 : Int) (h : Hp) : Prop :=
  cond (decide (x3 > 0)) (letK (IntKind.i64.wrap (x3 - 1)) fun n2 =>
  idxK a0 l0 n2 1 fun q3 =>
  ldK h q3 fun v4 =>
  gInt .u64 v4 fun x_5 =>
  cond (x_5 == 0) (letK (IntKind.i64.wrap (x3 - 1)) fun n6 =>
  N3 a0 l0 c0 n6 h) (D2.t R a0 l0 c0 x3 h)) (D2.t R a0 l0 c0 x3 h)
def D4.g (R : Rt) (N3 : Option Addr → Nat → Nat → Int → Hp → Prop) (fr : Fr) (h : Hp) : Prop := gSlice (fr 0) fun a0 l0 c0 => gInt .i64 (fr 3) fun x3 => D4.t R N3 a0 l0 c0 x3 h
theorem D4.ok (R : Rt) (N3 : Option Addr → Nat → Nat → Int → Hp → Prop) (fr : Fr) (h : Hp) (g : D4.g R N3 fr h) : den prog E (cAt C [true, true, false, false, false]) (Ex.then (L3.g N3) (Ex.inBlock 0 (Ex.then (D2.g R) (retQ E [.tmp 2] R)))) fr h := by
  obtain ⟨a0, l0, c0, e0, g⟩ := gSlice_elim g
  obtain ⟨x3, e3, g⟩ := gInt_elim g
  exact den_enter [(0, .slice a0 l0 c0), (3, .int .i64 x3)] ⟨e0, e3, trivial⟩ (by kernel_rfl) g
def L3.t (R : Rt) : Nat → Option Addr → Nat → Nat → Int → Hp → Prop
  | 0 => fun _ _ _ _ _ => False
  | n + 1 => fun a0 l0 c0 x3 h => D4.t R (L3.t R n) a0 l0 c0 x3 h
theorem L3.ok (R : Rt) (fr : Fr) (h : Hp) (g : L3.g (fun a0 l0 c0 x3 h => ∃ n, L3.t R n a0 l0 c0 x3 h) fr h) : den prog E (cAt C [true, true, false, false]) (Ex.inBlock 0 (Ex.then (D2.g R) (retQ E [.tmp 2] R))) fr h := by
  obtain ⟨a0, l0, c0, e0, g⟩ := gSlice_elim g
  obtain ⟨x3, e3, g⟩ := gInt_elim g
  obtain ⟨n, g⟩ := g
  refine loop_ok (fun n => L3.g (L3.t R n)) (b := (cAt C [true, true, false, false, false])) (by kernel_rfl) (fun fr h g => ?_) (fun n => D4.ok R (L3.t R n)) n fr h (gSlice_intro e0 (gInt_intro e3 (g)))
  obtain ⟨a0, l0, c0, e0, g⟩ := gSlice_elim g
  obtain ⟨x3, e3, g⟩ := gInt_elim g
  exact g
theorem B5.ok (R : Rt) (fr : Fr) (h : Hp) (g : L3.g (fun a0 l0 c0 x3 h => ∃ n, L3.t R n a0 l0 c0 x3 h) fr h) : den prog E (cAt C [true, true, false]) (Ex.then (D2.g R) (retQ E [.tmp 2] R)) fr h :=
  den_block (by kernel_rfl) (L3.ok R fr h g)
theorem W6.ok (R : Rt) (fr : Fr) (h : Hp) (g : L3.g (fun a0 l0 c0 x3 h => ∃ n, L3.t R n a0 l0 c0 x3 h) fr h) : den prog E (cAt C [true, true]) (retQ E [.tmp 2] R) fr h :=
  den_then (by kernel_rfl) (D2.ok R) (B5.ok R fr h g)
def D1.t (R : Rt) (a0 : Option Addr) (l0 : Nat) (c0 : Nat) (h : Hp) : Prop :=
  (∃ n, L3.t R n a0 l0 c0 (((l0 : Nat) : Int)) h)
def D1.g (R : Rt) (fr : Fr) (h : Hp) : Prop := gSlice (fr 0) fun a0 l0 c0 => D1.t R a0 l0 c0 h
theorem D1.ok (R : Rt) (fr : Fr) (h : Hp) (g : D1.g R fr h) : den prog E C (retQ E [.tmp 2] R) fr h := by
  obtain ⟨a0, l0, c0, e0, g⟩ := gSlice_elim g
  exact den_cut 2 (r := (cAt C [true, true])) (by kernel_rfl) (W6.ok R) (den_enter [(0, .slice a0 l0 c0)] ⟨e0, trivial⟩ (by kernel_rfl) g)
def t (a0 : Option Addr) (l0 : Nat) (c0 : Nat) (h : Hp) (R : Rt) : Prop := D1.t R a0 l0 c0 h
theorem ok {a0 : Option Addr} {l0 : Nat} {c0 : Nat} {h : Hp} {R : Rt} (g : t a0 l0 c0 h R) : HC id #[.slice a0 l0 c0] h R :=
  calls_of_den' envOk (c := C) (rs := [.tmp 2]) Tryz.func114 (by kernel_rfl) (by kernel_rfl) (by kernel_rfl) (args := [.slice a0 l0 c0]) (by kernel_rfl) (D1.ok R _ h (gSlice_intro rfl (g)))
end natmul_trim



namespace piconst_next
noncomputable def C : Code := bodyOf Tryz.f117
def D1.t (R : Rt) (a0 : Option Addr) (l0 : Nat) (c0 : Nat) (x1 : Int) (h : Hp) : Prop :=
  cond (decide (x1 < 4294967296)) (letK (IntKind.u64.wrap (x1 * x1)) fun n1 =>
  HC nat_DivWord.id #[.slice a0 l0 c0, .int .u64 n1] h fun v2 h3 =>
  gTup v2 fun y4 =>
  uncons y4 fun v5 y5 =>
  gSlice v5 fun a_6 l_6 c_6 =>
  uncons y5 fun v7 y7 =>
  gInt .u64 v7 fun x_8 =>
  uncons y7 fun v9 y9 =>
  gInt .i64 v9 fun x_10 =>
  unnil y9 <| R (.slice a_6 l_6 c_6) h3) (HC nat_DivWord.id #[.slice a0 l0 c0, .int .u64 x1] h fun v11 h12 =>
  gTup v11 fun y13 =>
  uncons y13 fun v14 y14 =>
  gSlice v14 fun a_15 l_15 c_15 =>
  uncons y14 fun v16 y16 =>
  gInt .u64 v16 fun x_17 =>
  uncons y16 fun v18 y18 =>
  gInt .i64 v18 fun x_19 =>
  unnil y18 <| HC nat_DivWord.id #[.slice a_15 l_15 c_15, .int .u64 x1] h12 fun v20 h21 =>
  gTup v20 fun y22 =>
  uncons y22 fun v23 y23 =>
  gSlice v23 fun a_24 l_24 c_24 =>
  uncons y23 fun v25 y25 =>
  gInt .u64 v25 fun x_26 =>
  uncons y25 fun v27 y27 =>
  gInt .i64 v27 fun x_28 =>
  unnil y27 <| R (.slice a_24 l_24 c_24) h21)
def D1.g (R : Rt) (fr : Fr) (h : Hp) : Prop := gSlice (fr 0) fun a0 l0 c0 => gInt .u64 (fr 1) fun x1 => D1.t R a0 l0 c0 x1 h
theorem D1.ok (R : Rt) (fr : Fr) (h : Hp) (g : D1.g R fr h) : den prog E C (retQ E [.tmp 4] R) fr h := by
  obtain ⟨a0, l0, c0, e0, g⟩ := gSlice_elim g
  obtain ⟨x1, e1, g⟩ := gInt_elim g
  exact den_enter [(0, .slice a0 l0 c0), (1, .int .u64 x1)] ⟨e0, e1, trivial⟩ (by kernel_rfl) g
def t (a0 : Option Addr) (l0 : Nat) (c0 : Nat) (x1 : Int) (h : Hp) (R : Rt) : Prop := D1.t R a0 l0 c0 x1 h
theorem ok {a0 : Option Addr} {l0 : Nat} {c0 : Nat} {x1 : Int} {h : Hp} {R : Rt} (g : t a0 l0 c0 x1 h R) : HC id #[.slice a0 l0 c0, .int .u64 x1] h R :=
  calls_of_den' envOk (c := C) (rs := [.tmp 4]) Tryz.func117 (by kernel_rfl) (by kernel_rfl) (by kernel_rfl) (args := [.slice a0 l0 c0, .int .u64 x1]) (by kernel_rfl) (D1.ok R _ h (gSlice_intro rfl (gInt_intro rfl (g))))
end piconst_next

namespace bits_Div64
noncomputable def C : Code := bodyOf Tryz.f118
def D5.t (R : Rt) (x2 : Int) (x8 : Int) (x14 : Int) (x15 : Int) (x17 : Int) (x18 : Int) (h : Hp) : Prop :=
  letK (IntKind.u64.wrap (x15 * 4294967296)) fun n27 =>
  letK (IntKind.u64.wrap (n27 + x18)) fun n28 =>
  letK (IntKind.u64.wrap (x17 * 4294967296)) fun n29 =>
  letK (IntKind.u64.wrap (n29 + x14)) fun n30 =>
  letK (IntKind.u64.wrap (x18 * x2)) fun n31 =>
  letK (IntKind.u64.wrap (n30 - n31)) fun n32 =>
  0 ≤ x8 ∧ letK (shrI .u64 n32 x8) fun n33 =>
  R (.tuple #[.int .u64 n28, .int .u64 n33]) h
def D5.g (R : Rt) (fr : Fr) (h : Hp) : Prop := gInt .u64 (fr 2) fun x2 => gInt .u64 (fr 8) fun x8 => gInt .u64 (fr 14) fun x14 => gInt .u64 (fr 15) fun x15 => gInt .u64 (fr 17) fun x17 => gInt .u64 (fr 18) fun x18 => D5.t R x2 x8 x14 x15 x17 x18 h
theorem D5.ok (R : Rt) (fr : Fr) (h : Hp) (g : D5.g R fr h) : den prog E (cAt C [true, true, true, true, true, true, true, true, true, true, true, true, true, true, true, true, true, true, true]) (retQ E [.tmp 6, .tmp 7] R) fr h := by
  obtain ⟨x2, e2, g⟩ := gInt_elim g
  obtain ⟨x8, e8, g⟩ := gInt_elim g
  obtain ⟨x14, e14, g⟩ := gInt_elim g
  obtain ⟨x15, e15, g⟩ := gInt_elim g
  obtain ⟨x17, e17, g⟩ := gInt_elim g
  obtain ⟨x18, e18, g⟩ := gInt_elim g
  exact den_enter [(2, .int .u64 x2), (8, .int .u64 x8), (14, .int .u64 x14), (15, .int .u64 x15), (17, .int .u64 x17), (18, .int .u64 x18)] ⟨e2, e8, e14, e15, e17, e18, trivial⟩ (by kernel_rfl) g
def L6.g (N : Int → Int → Int → Int → Int → Int → Int → Int → Int → Hp → Prop) (fr : Fr) (h : Hp) : Prop := gInt .u64 (fr 2) fun x2 => gInt .u64 (fr 8) fun x8 => gInt .u64 (fr 9) fun x9 => gInt .u64 (fr 10) fun x10 => gInt .u64 (fr 14) fun x14 => gInt .u64 (fr 15) fun x15 => gInt .u64 (fr 16) fun x16 => gInt .u64 (fr 17) fun x17 => gInt .u64 (fr 18) fun x18 => N x2 x8 x9 x10 x14 x15 x16 x17 x18 h
def D8.t (R : Rt) (N6 : Int → Int → Int → Int → Int → Int → Int → Int → Int → Hp → Prop) (x2 : Int) (x8 : Int) (x9 : Int) (x10 : Int) (x14 : Int) (x15 : Int) (x16 : Int) (x17 : Int) (x18 : Int) (h : Hp) : Prop :=
  letK (IntKind.u64.wrap (x18 - 1)) fun n34 =>
  letK (IntKind.u64.wrap (x16 + x9)) fun n35 =>
  cond (decide (n35 ≥ 4294967296)) (D5.t R x2 x8 x14 x15 x17 n34 h) (N6 x2 x8 x9 x10 x14 x15 n35 x17 n34 h)
def D8.g (R : Rt) (N6 : Int → Int → Int → Int → Int → Int → Int → Int → Int → Hp → Prop) (fr : Fr) (h : Hp) : Prop := gInt .u64 (fr 2) fun x2 => gInt .u64 (fr 8) fun x8 => gInt .u64 (fr 9) fun x9 => gInt .u64 (fr 10) fun x10 => gInt .u64 (fr 14) fun x14 => gInt .u64 (fr 15) fun x15 => gInt .u64 (fr 16) fun x16 => gInt .u64 (fr 17) fun x17 => gInt .u64 (fr 18) fun x18 => D8.t R N6 x2 x8 x9 x10 x14 x15 x16 x17 x18 h
theorem D8.ok (R : Rt) (N6 : Int → Int → Int → Int → Int → Int → Int → Int → Int → Hp → Prop) (fr : Fr) (h : Hp) (g : D8.g R N6 fr h) : den prog E (cAt C [true, true, true, true, true, true, true, true, true, true, true, true, true, true, true, true, true, true, false, false, false, true]) (Ex.then (L6.g N6) (Ex.inBlock 2 (Ex.then (D5.g R) (retQ E [.tmp 6, .tmp 7] R)))) fr h := by
  obtain ⟨x2, e2, g⟩ := gInt_elim g
  obtain ⟨x8, e8, g⟩ := gInt_elim g
  obtain ⟨x9, e9, g⟩ := gInt_elim g
  obtain ⟨x10, e10, g⟩ := gInt_elim g
  obtain ⟨x14, e14, g⟩ := gInt_elim g
  obtain ⟨x15, e15, g⟩ := gInt_elim g
  obtain ⟨x16, e16, g⟩ := gInt_elim g
  obtain ⟨x17, e17, g⟩ := gInt_elim g
  obtain ⟨x18, e18, g⟩ := gInt_elim g
  exact den_enter [(2, .int .u64 x2), (8, .int .u64 x8), (9, .int .u64 x9), (10, .int .u64 x10), (14, .int .u64 x14), (15, .int .u64 x15), (16, .int .u64 x16), (17, .int .u64 x17), (18, .int .u64 x18)] ⟨e2, e8, e9, e10, e14, e15, e16, e17, e18, trivial⟩ (by kernel_rfl) g
def D7.t (R : Rt) (N6 : Int → Int → Int → Int → Int → Int → Int → Int → Int → Hp → Prop) (x2 : Int) (x8 : Int) (x9 : Int) (x10 : Int) (x14 : Int) (x15 : Int) (x16 : Int) (x17 : Int) (x18 : Int) (h : Hp) : Prop :=
  cond (decide (x18 ≥ 4294967296)) (D8.t R N6 x2 x8 x9 x10 x14 x15 x16 x17 x18 h) (letK (IntKind.u64.wrap (x18 * x10)) fun n36 =>
  letK (IntKind.u64.wrap (4294967296 * x16)) fun n37 =>
  letK (IntKind.u64.wrap (n37 + x14)) fun n38 =>
  cond (decide (n36 > n38)) (D8.t R N6 x2 x8 x9 x10 x14 x15 x16 x17 x18 h) (D5.t R x2 x8 x14 x15 x17 x18 h))
def D7.g (R : Rt) (N6 : Int → Int → Int → Int → Int → Int → Int → Int → Int → Hp → Prop) (fr : Fr) (h : Hp) : Prop := gInt .u64 (fr 2) fun x2 => gInt .u64 (fr 8) fun x8 => gInt .u64 (fr 9) fun x9 => gInt .u64 (fr 10) fun x10 => gInt .u64 (fr 14) fun x14 => gInt .u64 (fr 15) fun x15 => gInt .u64 (fr 16) fun x16 => gInt .u64 (fr 17) fun x17 => gInt .u64 (fr 18) fun x18 => D7.t R N6 x2 x8 x9 x10 x14 x15 x16 x17 x18 h
theorem D7.ok (R : Rt) (N6 : Int → Int → Int → Int → Int → Int → Int → Int → Int → Hp → Prop) (fr : Fr) (h : Hp) (g : D7.g R N6 fr h) : den prog E (cAt C [true, true, true, true, true, true, true, true, true, true, true, true, true, true, true, true, true, true, false, false, false]) (Ex.then (L6.g N6) (Ex.inBlock 2 (Ex.then (D5.g R) (retQ E [.tmp 6, .tmp 7] R)))) fr h := by
  obtain ⟨x2, e2, g⟩ := gInt_elim g
  obtain ⟨x8, e8, g⟩ := gInt_elim g
  obtain ⟨x9, e9, g⟩ := gInt_elim g
  obtain ⟨x10, e10, g⟩ := gInt_elim g
  obtain ⟨x14, e14, g⟩ := gInt_elim g
  obtain ⟨x15, e15, g⟩ := gInt_elim g
  obtain ⟨x16, e16, g⟩ := gInt_elim g
  obtain ⟨x17, e17, g⟩ := gInt_elim g
  obtain ⟨x18, e18, g⟩ := gInt_elim g
  exact den_cut 1 (r := (cAt C [true, true, true, true, true, true, true, true, true, true, true, true, true, true, true, true, true, true, false, false, false, true])) (by kernel_rfl) (D8.ok R N6) (den_enter [(2, .int .u64 x2), (8, .int .u64 x8), (9, .int .u64 x9), (10, .int .u64 x10), (14, .int .u64 x14), (15, .int .u64 x15), (16, .int .u64 x16), (17, .int .u64 x17), (18, .int .u64 x18)] ⟨e2, e8, e9, e10, e14, e15, e16, e17, e18, trivial⟩ (by kernel_rfl) g)
def L6.t (R : Rt) : Nat → Int → Int → Int → Int → Int → Int → Int → Int → Int → Hp → Prop
  | 0 => fun _ _ _ _ _ _ _ _ _ _ => False
  | n + 1 => fun x2 x8 x9 x10 x14 x15 x16 x17 x18 h => D7.t R (L6.t R n) x2 x8 x9 x10 x14 x15 x16 x17 x18 h
theorem L6.ok (R : Rt) (fr : Fr) (h : Hp) (g : L6.g (fun x2 x8 x9 x10 x14 x15 x16 x17 x18 h => ∃ n, L6.t R n x2 x8 x9 x10 x14 x15 x16 x17 x18 h) fr h) : den prog E (cAt C [true, true, true, true, true, true, true, true, true, true, true, true, true, true, true, true, true, true, false, false]) (Ex.inBlock 2 (Ex.then (D5.g R) (retQ E [.tmp 6, .tmp 7] R))) fr h := by
  obtain ⟨x2, e2, g⟩ := gInt_elim g
  obtain ⟨x8, e8, g⟩ := gInt_elim g
  obtain ⟨x9, e9, g⟩ := gInt_elim g
  obtain ⟨x10, e10, g⟩ := gInt_elim g
  obtain ⟨x14, e14, g⟩ := gInt_elim g
  obtain ⟨x15, e15, g⟩ := gInt_elim g
  obtain ⟨x16, e16, g⟩ := gInt_elim g
  obtain ⟨x17, e17, g⟩ := gInt_elim g
  obtain ⟨x18, e18, g⟩ := gInt_elim g
  obtain ⟨n, g⟩ := g
  refine loop_ok (fun n => L6.g (L6.t R n)) (b := (cAt C [true, true, true, true, true, true, true, true, true, true, true, true, true, true, true, true, true, true, false, false, false])) (by kernel_rfl) (fun fr h g => ?_) (fun n => D7.ok R (L6.t R n)) n fr h (gInt_intro e2 (gInt_intro e8 (gInt_intro e9 (gInt_intro e10 (gInt_intro e14 (gInt_intro e15 (gInt_intro e16 (gInt_intro e17 (gInt_intro e18 (g))))))))))
  obtain ⟨x2, e2, g⟩ := gInt_elim g
  obtain ⟨x8, e8, g⟩ := gInt_elim g
  obtain ⟨x9, e9, g⟩ := gInt_elim g
  obtain ⟨x10, e10, g⟩ := gInt_elim g
  obtain ⟨x14, e14, g⟩ := gInt_elim g
  obtain ⟨x15, e15, g⟩ := gInt_elim g
  obtain ⟨x16, e16, g⟩ := gInt_elim g
  obtain ⟨x17, e17, g⟩ := gInt_elim g
  obtain ⟨x18, e18, g⟩ := gInt_elim g
  exact g
theorem B9.ok (R : Rt) (fr : Fr) (h : Hp) (g : L6.g (fun x2 x8 x9 x10 x14 x15 x16 x17 x18 h => ∃ n, L6.t R n x2 x8 x9 x10 x14 x15 x16 x17 x18 h) fr h) : den prog E (cAt C [true, true, true, true, true, true, true, true, true, true, true, true, true, true, true, true, true, true, false]) (Ex.then (D5.g R) (retQ E [.tmp 6, .tmp 7] R)) fr h :=
  den_block (by kernel_rfl) (L6.ok R fr h g)
theorem W10.ok (R : Rt) (fr : Fr) (h : Hp) (g : L6.g (fun x2 x8 x9 x10 x14 x15 x16 x17 x18 h => ∃ n, L6.t R n x2 x8 x9 x10 x14 x15 x16 x17 x18 h) fr h) : den prog E (cAt C [true, true, true, true, true, true, true, true, true, true, true, true, true, true, true, true, true, true]) (retQ E [.tmp 6, .tmp 7] R) fr h :=
  den_then (by kernel_rfl) (D5.ok R) (B9.ok R fr h g)
def D4.t (R : Rt) (x2 : Int) (x8 : Int) (x9 : Int) (x10 : Int) (x11 : Int) (x13 : Int) (x14 : Int) (x15 : Int) (h : Hp) : Prop :=
  letK (IntKind.u64.wrap (x11 * 4294967296)) fun n20 =>
  letK (IntKind.u64.wrap (n20 + x13)) fun n21 =>
  letK (IntKind.u64.wrap (x15 * x2)) fun n22 =>
  letK (IntKind.u64.wrap (n21 - n22)) fun n23 =>
  x9 ≠ 0 ∧ letK (IntKind.u64.wrap (Int.tdiv n23 x9)) fun n24 =>
  letK (IntKind.u64.wrap (n24 * x9)) fun n25 =>
  letK (IntKind.u64.wrap (n23 - n25)) fun n26 =>
  (∃ n, L6.t R n x2 x8 x9 x10 x14 x15 n26 n23 n24 h)
def D4.g (R : Rt) (fr : Fr) (h : Hp) : Prop := gInt .u64 (fr 2) fun x2 => gInt .u64 (fr 8) fun x8 => gInt .u64 (fr 9) fun x9 => gInt .u64 (fr 10) fun x10 => gInt .u64 (fr 11) fun x11 => gInt .u64 (fr 13) fun x13 => gInt .u64 (fr 14) fun x14 => gInt .u64 (fr 15) fun x15 => D4.t R x2 x8 x9 x10 x11 x13 x14 x15 h
theorem D4.ok (R : Rt) (fr : Fr) (h : Hp) (g : D4.g R fr h) : den prog E (cAt C [true, true, true, true, true, true, true, true, true, true, true, true, true, true, true]) (retQ E [.tmp 6, .tmp 7] R) fr h := by
  obtain ⟨x2, e2, g⟩ := gInt_elim g
  obtain ⟨x8, e8, g⟩ := gInt_elim g
  obtain ⟨x9, e9, g⟩ := gInt_elim g
  obtain ⟨x10, e10, g⟩ := gInt_elim g
  obtain ⟨x11, e11, g⟩ := gInt_elim g
  obtain ⟨x13, e13, g⟩ := gInt_elim g
  obtain ⟨x14, e14, g⟩ := gInt_elim g
  obtain ⟨x15, e15, g⟩ := gInt_elim g
  exact den_cut 3 (r := (cAt C [true, true, true, true, true, true, true, true, true, true, true, true, true, true, true, true, true, true])) (by kernel_rfl) (W10.ok R) (den_enter [(2, .int .u64 x2), (8, .int .u64 x8), (9, .int .u64 x9), (10, .int .u64 x10), (11, .int .u64 x11), (13, .int .u64 x13), (14, .int .u64 x14), (15, .int .u64 x15)] ⟨e2, e8, e9, e10, e11, e13, e14, e15, trivial⟩ (by kernel_rfl) g)
def L11.g (N : Int → Int → Int → Int → Int → Int → Int → Int → Int → Hp → Prop) (fr : Fr) (h : Hp) : Prop := gInt .u64 (fr 2) fun x2 => gInt .u64 (fr 8) fun x8 => gInt .u64 (fr 9) fun x9 => gInt .u64 (fr 10) fun x10 => gInt .u64 (fr 11) fun x11 => gInt .u64 (fr 13) fun x13 => gInt .u64 (fr 14) fun x14 => gInt .u64 (fr 15) fun x15 => gInt .u64 (fr 16) fun x16 => N x2 x8 x9 x10 x11 x13 x14 x15 x16 h
def D13.t (R : Rt) (N11 : Int → Int → Int → Int → Int → Int → Int → Int → Int → Hp → Prop) (x2 : Int) (x8 : Int) (x9 : Int) (x10 : Int) (x11 : Int) (x13 : Int) (x14 : Int) (x15 : Int) (x16 : Int) (h : Hp) : Prop :=
  letK (IntKind.u64.wrap (x15 - 1)) fun n39 =>
  letK (IntKind.u64.wrap (x16 + x9)) fun n40 =>
  cond (decide (n40 ≥ 4294967296)) (D4.t R x2 x8 x9 x10 x11 x13 x14 n39 h) (N11 x2 x8 x9 x10 x11 x13 x14 n39 n40 h)
def D13.g (R : Rt) (N11 : Int → Int → Int → Int → Int → Int → Int → Int → Int → Hp → Prop) (fr : Fr) (h : Hp) : Prop := gInt .u64 (fr 2) fun x2 => gInt .u64 (fr 8) fun x8 => gInt .u64 (fr 9) fun x9 => gInt .u64 (fr 10) fun x10 => gInt .u64 (fr 11) fun x11 => gInt .u64 (fr 13) fun x13 => gInt .u64 (fr 14) fun x14 => gInt .u64 (fr 15) fun x15 => gInt .u64 (fr 16) fun x16 => D13.t R N11 x2 x8 x9 x10 x11 x13 x14 x15 x16 h
theorem D13.ok (R : Rt) (N11 : Int → Int → Int → Int → Int → Int → Int → Int → Int → Hp → Prop) (fr : Fr) (h : Hp) (g : D13.g R N11 fr h) : den prog E (cAt C [true, true, true, true, true, true, true, true, true, true, true, true, true, true, false, false, false, true]) (Ex.then (L11.g N11) (Ex.inBlock 0 (Ex.then (D4.g R) (retQ E [.tmp 6, .tmp 7] R)))) fr h := by
  obtain ⟨x2, e2, g⟩ := gInt_elim g
  obtain ⟨x8, e8, g⟩ := gInt_elim g
  obtain ⟨x9, e9, g⟩ := gInt_elim g
  obtain ⟨x10, e10, g⟩ := gInt_elim g
  obtain ⟨x11, e11, g⟩ := gInt_elim g
  obtain ⟨x13, e13, g⟩ := gInt_elim g
  obtain ⟨x14, e14, g⟩ := gInt_elim g
  obtain ⟨x15, e15, g⟩ := gInt_elim g
  obtain ⟨x16, e16, g⟩ := gInt_elim g
  exact den_enter [(2, .int .u64 x2), (8, .int .u64 x8), (9, .int .u64 x9), (10, .int .u64 x10), (11, .int .u64 x11), (13, .int .u64 x13), (14, .int .u64 x14), (15, .int .u64 x15), (16, .int .u64 x16)] ⟨e2, e8, e9, e10, e11, e13, e14, e15, e16, trivial⟩ (by kernel_rfl) g
def D12.t (R : Rt) (N11 : Int → Int → Int → Int → Int → Int → Int → Int → Int → Hp → Prop) (x2 : Int) (x8 : Int) (x9 : Int) (x10 : Int) (x11 : Int) (x13 : Int) (x14 : Int) (x15 : Int) (x16 : Int) (h : Hp) : Prop :=
  cond (decide (x15 ≥ 4294967296)) (D13.t R N11 x2 x8 x9 x10 x11 x13 x14 x15 x16 h) (letK (IntKind.u64.wrap (x15 * x10)) fun n41 =>
  letK (IntKind.u64.wrap (4294967296 * x16)) fun n42 =>
  letK (IntKind.u64.wrap (n42 + x13)) fun n43 =>
  cond (decide (n41 > n43)) (D13.t R N11 x2 x8 x9 x10 x11 x13 x14 x15 x16 h) (D4.t R x2 x8 x9 x10 x11 x13 x14 x15 h))
def D12.g (R : Rt) (N11 : Int → Int → Int → Int → Int → Int → Int → Int → Int → Hp → Prop) (fr : Fr) (h : Hp) : Prop := gInt .u64 (fr 2) fun x2 => gInt .u64 (fr 8) fun x8 => gInt .u64 (fr 9) fun x9 => gInt .u64 (fr 10) fun x10 => gInt .u64 (fr 11) fun x11 => gInt .u64 (fr 13) fun x13 => gInt .u64 (fr 14) fun x14 => gInt .u64 (fr 15) fun x15 => gInt .u64 (fr 16) fun x16 => D12.t R N11 x2 x8 x9 x10 x11 x13 x14 x15 x16 h
theorem D12.ok (R : Rt) (N11 : Int → Int → Int → Int → Int → Int → Int → Int → Int → Hp → Prop) (fr : Fr) (h : Hp) (g : D12.g R N11 fr h) : den prog E (cAt C [true, true, true, true, true, true, true, true, true, true, true, true, true, true, false, false, false]) (Ex.then (L11.g N11) (Ex.inBlock 0 (Ex.then (D4.g R) (retQ E [.tmp 6, .tmp 7] R)))) fr h := by
  obtain ⟨x2, e2, g⟩ := gInt_elim g
  obtain ⟨x8, e8, g⟩ := gInt_elim g
  obtain ⟨x9, e9, g⟩ := gInt_elim g
  obtain ⟨x10, e10, g⟩ := gInt_elim g
  obtain ⟨x11, e11, g⟩ := gInt_elim g
  obtain ⟨x13, e13, g⟩ := gInt_elim g
  obtain ⟨x14, e14, g⟩ := gInt_elim g
  obtain ⟨x15, e15, g⟩ := gInt_elim g
  obtain ⟨x16, e16, g⟩ := gInt_elim g
  exact den_cut 1 (r := (cAt C [true, true, true, true, true, true, true, true, true, true, true, true, true, true, false, false, false, true])) (by kernel_rfl) (D13.ok R N11) (den_enter [(2, .int .u64 x2), (8, .int .u64 x8), (9, .int .u64 x9), (10, .int .u64 x10), (11, .int .u64 x11), (13, .int .u64 x13), (14, .int .u64 x14), (15, .int .u64 x15), (16, .int .u64 x16)] ⟨e2, e8, e9, e10, e11, e13, e14, e15, e16, trivial⟩ (by kernel_rfl) g)
def L11.t (R : Rt) : Nat → Int → Int → Int → Int → Int → Int → Int → Int → Int → Hp → Prop
  | 0 => fun _ _ _ _ _ _ _ _ _ _ => False
  | n + 1 => fun x2 x8 x9 x10 x11 x13 x14 x15 x16 h => D12.t R (L11.t R n) x2 x8 x9 x10 x11 x13 x14 x15 x16 h
theorem L11.ok (R : Rt) (fr : Fr) (h : Hp) (g : L11.g (fun x2 x8 x9 x10 x11 x13 x14 x15 x16 h => ∃ n, L11.t R n x2 x8 x9 x10 x11 x13 x14 x15 x16 h) fr h) : den prog E (cAt C [true, true, true, true, true, true, true, true, true, true, true, true, true, true, false, false]) (Ex.inBlock 0 (Ex.then (D4.g R) (retQ E [.tmp 6, .tmp 7] R))) fr h := by
  obtain ⟨x2, e2, g⟩ := gInt_elim g
  obtain ⟨x8, e8, g⟩ := gInt_elim g
  obtain ⟨x9, e9, g⟩ := gInt_elim g
  obtain ⟨x10, e10, g⟩ := gInt_elim g
  obtain ⟨x11, e11, g⟩ := gInt_elim g
  obtain ⟨x13, e13, g⟩ := gInt_elim g
  obtain ⟨x14, e14, g⟩ := gInt_elim g
  obtain ⟨x15, e15, g⟩ := gInt_elim g
  obtain ⟨x16, e16, g⟩ := gInt_elim g
  obtain ⟨n, g⟩ := g
  refine loop_ok (fun n => L11.g (L11.t R n)) (b := (cAt C [true, true, true, true, true, true, true, true, true, true, true, true, true, true, false, false, false])) (by kernel_rfl) (fun fr h g => ?_) (fun n => D12.ok R (L11.t R n)) n fr h (gInt_intro e2 (gInt_intro e8 (gInt_intro e9 (gInt_intro e10 (gInt_intro e11 (gInt_intro e13 (gInt_intro e14 (gInt_intro e15 (gInt_intro e16 (g))))))))))
  obtain ⟨x2, e2, g⟩ := gInt_elim g
  obtain ⟨x8, e8, g⟩ := gInt_elim g
  obtain ⟨x9, e9, g⟩ := gInt_elim g
  obtain ⟨x10, e10, g⟩ := gInt_elim g
  obtain ⟨x11, e11, g⟩ := gInt_elim g
  obtain ⟨x13, e13, g⟩ := gInt_elim g
  obtain ⟨x14, e14, g⟩ := gInt_elim g
  obtain ⟨x15, e15, g⟩ := gInt_elim g
  obtain ⟨x16, e16, g⟩ := gInt_elim g
  exact g
theorem B14.ok (R : Rt) (fr : Fr) (h : Hp) (g : L11.g (fun x2 x8 x9 x10 x11 x13 x14 x15 x16 h => ∃ n, L11.t R n x2 x8 x9 x10 x11 x13 x14 x15 x16 h) fr h) : den prog E (cAt C [true, true, true, true, true, true, true, true, true, true, true, true, true, true, false]) (Ex.then (D4.g R) (retQ E [.tmp 6, .tmp 7] R)) fr h :=
  den_block (by kernel_rfl) (L11.ok R fr h g)
theorem W15.ok (R : Rt) (fr : Fr) (h : Hp) (g : L11.g (fun x2 x8 x9 x10 x11 x13 x14 x15 x16 h => ∃ n, L11.t R n x2 x8 x9 x10 x11 x13 x14 x15 x16 h) fr h) : den prog E (cAt C [true, true, true, true, true, true, true, true, true, true, true, true, true, true]) (retQ E [.tmp 6, .tmp 7] R) fr h :=
  den_then (by kernel_rfl) (D4.ok R) (B14.ok R fr h g)
def D3.t (R : Rt) (x0 : Int) (x1 : Int) (x2 : Int) (h : Hp) : Prop :=
  cond (x0 == 0) (x2 ≠ 0 ∧ letK (IntKind.u64.wrap (Int.tdiv x1 x2)) fun n1 =>
  x2 ≠ 0 ∧ letK (Int.tmod x1 x2) fun n2 =>
  R (.tuple #[.int .u64 n1, .int .u64 n2]) h) (HC bits_LeadingZeros64.id #[.int .u64 x2] h fun v3 h4 =>
  gInt .i64 v3 fun x_5 =>
  letK (IntKind.u64.wrap x_5) fun n6 =>
  0 ≤ n6 ∧ letK (shlI .u64 x2 n6) fun n7 =>
  0 ≤ (32 : Int) ∧ letK (shrI .u64 n7 32) fun n8 =>
  letK (andI .u64 n7 4294967295) fun n9 =>
  0 ≤ n6 ∧ letK (shlI .u64 x0 n6) fun n10 =>
  letK (IntKind.u64.wrap (64 - n6)) fun n11 =>
  0 ≤ n11 ∧ letK (shrI .u64 x1 n11) fun n12 =>
  letK (orI .u64 n10 n12) fun n13 =>
  0 ≤ n6 ∧ letK (shlI .u64 x1 n6) fun n14 =>
  0 ≤ (32 : Int) ∧ letK (shrI .u64 n14 32) fun n15 =>
  letK (andI .u64 n14 4294967295) fun n16 =>
  n8 ≠ 0 ∧ letK (IntKind.u64.wrap (Int.tdiv n13 n8)) fun n17 =>
  letK (IntKind.u64.wrap (n17 * n8)) fun n18 =>
  letK (IntKind.u64.wrap (n13 - n18)) fun n19 =>
  (∃ n, L11.t R n n7 n6 n8 n9 n13 n15 n16 n17 n19 h4))
def D3.g (R : Rt) (fr : Fr) (h : Hp) : Prop := gInt .u64 (fr 0) fun x0 => gInt .u64 (fr 1) fun x1 => gInt .u64 (fr 2) fun x2 => D3.t R x0 x1 x2 h
theorem D3.ok (R : Rt) (fr : Fr) (h : Hp) (g : D3.g R fr h) : den prog E (cAt C [true, true, true]) (retQ E [.tmp 6, .tmp 7] R) fr h := by
  obtain ⟨x0, e0, g⟩ := gInt_elim g
  obtain ⟨x1, e1, g⟩ := gInt_elim g
  obtain ⟨x2, e2, g⟩ := gInt_elim g
  exact den_cut 11 (r := (cAt C [true, true, true, true, true, true, true, true, true, true, true, true, true, true])) (by kernel_rfl) (W15.ok R) (den_enter [(0, .int .u64 x0), (1, .int .u64 x1), (2, .int .u64 x2)] ⟨e0, e1, e2, trivial⟩ (by kernel_rfl) g)
def D2.t (R : Rt) (x0 : Int) (x1 : Int) (x2 : Int) (h : Hp) : Prop :=
  cond (decide (x2 ≤ x0)) (False) (D3.t R x0 x1 x2 h)
def D2.g (R : Rt) (fr : Fr) (h : Hp) : Prop := gInt .u64 (fr 0) fun x0 => gInt .u64 (fr 1) fun x1 => gInt .u64 (fr 2) fun x2 => D2.t R x0 x1 x2 h
theorem D2.ok (R : Rt) (fr : Fr) (h : Hp) (g : D2.g R fr h) : den prog E (cAt C [true, true]) (retQ E [.tmp 6, .tmp 7] R) fr h := by
  obtain ⟨x0, e0, g⟩ := gInt_elim g
  obtain ⟨x1, e1, g⟩ := gInt_elim g
  obtain ⟨x2, e2, g⟩ := gInt_elim g
  exact den_cut 1 (r := (cAt C [true, true, true])) (by kernel_rfl) (D3.ok R) (den_enter [(0, .int .u64 x0), (1, .int .u64 x1), (2, .int .u64 x2)] ⟨e0, e1, e2, trivial⟩ (by kernel_rfl) g)
def D1.t (R : Rt) (x0 : Int) (x1 : Int) (x2 : Int) (h : Hp) : Prop :=
  cond (x2 == 0) (False) (D2.t R x0 x1 x2 h)
def D1.g (R : Rt) (fr : Fr) (h : Hp) : Prop := gInt .u64 (fr 0) fun x0 => gInt .u64 (fr 1) fun x1 => gInt .u64 (fr 2) fun x2 => D1.t R x0 x1 x2 h
theorem D1.ok (R : Rt) (fr : Fr) (h : Hp) (g : D1.g R fr h) : den prog E C (retQ E [.tmp 6, .tmp 7] R) fr h := by
  obtain ⟨x0, e0, g⟩ := gInt_elim g
  obtain ⟨x1, e1, g⟩ := gInt_elim g
  obtain ⟨x2, e2, g⟩ := gInt_elim g
  exact den_cut 2 (r := (cAt C [true, true])) (by kernel_rfl) (D2.ok R) (den_enter [(0, .int .u64 x0), (1, .int .u64 x1), (2, .int .u64 x2)] ⟨e0, e1, e2, trivial⟩ (by kernel_rfl) g)
def t (x0 : Int) (x1 : Int) (x2 : Int) (h : Hp) (R : Rt) : Prop := D1.t R x0 x1 x2 h
theorem ok {x0 : Int} {x1 : Int} {x2 : Int} {h : Hp} {R : Rt} (g : t x0 x1 x2 h R) : HC id #[.int .u64 x0, .int .u64 x1, .int .u64 x2] h R :=
  calls_of_den' envOk (c := C) (rs := [.tmp 6, .tmp 7]) Tryz.func118 (by kernel_rfl) (by kernel_rfl) (by kernel_rfl) (args := [.int .u64 x0, .int .u64 x1, .int .u64 x2]) (by kernel_rfl) (D1.ok R _ h (gInt_intro rfl (gInt_intro rfl (gInt_intro rfl (g)))))
end bits_Div64

namespace natdiv_trial
noncomputable def C : Code := bodyOf Tryz.f119
def D1.t (R : Rt) (x0 : Int) (x1 : Int) (x2 : Int) (h : Hp) : Prop :=
  cond (decide (x0 ≥ x2)) (R (.int .u64 18446744073709551615) h) (HC bits_Div64.id #[.int .u64 x0, .int .u64 x1, .int .u64 x2] h fun v1 h2 =>
  gTup v1 fun y3 =>
  uncons y3 fun v4 y4 =>
  gInt .u64 v4 fun x_5 =>
  uncons y4 fun v6 y6 =>
  gInt .u64 v6 fun x_7 =>
  unnil y6 <| R (.int .u64 x_5) h2)
def D1.g (R : Rt) (fr : Fr) (h : Hp) : Prop := gInt .u64 (fr 0) fun x0 => gInt .u64 (fr 1) fun x1 => gInt .u64 (fr 2) fun x2 => D1.t R x0 x1 x2 h
theorem D1.ok (R : Rt) (fr : Fr) (h : Hp) (g : D1.g R fr h) : den prog E C (retQ E [.tmp 6] R) fr h := by
  obtain ⟨x0, e0, g⟩ := gInt_elim g
  obtain ⟨x1, e1, g⟩ := gInt_elim g
  obtain ⟨x2, e2, g⟩ := gInt_elim g
  exact den_enter [(0, .int .u64 x0), (1, .int .u64 x1), (2, .int .u64 x2)] ⟨e0, e1, e2, trivial⟩ (by kernel_rfl) g
def t (x0 : Int) (x1 : Int) (x2 : Int) (h : Hp) (R : Rt) : Prop := D1.t R x0 x1 x2 h
theorem ok {x0 : Int} {x1 : Int} {x2 : Int} {h : Hp} {R : Rt} (g : t x0 x1 x2 h R) : HC id #[.int .u64 x0, .int .u64 x1, .int .u64 x2] h R :=
  calls_of_den' envOk (c := C) (rs := [.tmp 6]) Tryz.func119 (by kernel_rfl) (by kernel_rfl) (by kernel_rfl) (args := [.int .u64 x0, .int .u64 x1, .int .u64 x2]) (by kernel_rfl) (D1.ok R _ h (gInt_intro rfl (gInt_intro rfl (gInt_intro rfl (g)))))
end natdiv_trial

namespace natdiv_takeMul
noncomputable def C : Code := bodyOf Tryz.f120
def D2.t (R : Rt) (a0 : Option Addr) (l0 : Nat) (c0 : Nat) (a1 : Option Addr) (l1 : Nat) (c1 : Nat) (x7 : Int) (x8 : Int) (h : Hp) : Prop :=
  idxK a0 l0 (((l1 : Nat) : Int)) 1 fun q1 =>
  ldK h q1 fun v2 =>
  gInt .u64 v2 fun x_3 =>
  subK x_3 x7 x8 fun n4 m4 =>
  idxK a0 l0 (((l1 : Nat) : Int)) 1 fun q5 =>
  stK h q5 (.int .u64 n4) fun h6 =>
  R (.int .u64 m4) h6
def D2.g (R : Rt) (fr : Fr) (h : Hp) : Prop := gSlice (fr 0) fun a0 l0 c0 => gSlice (fr 1) fun a1 l1 c1 => gInt .u64 (fr 7) fun x7 => gInt .u64 (fr 8) fun x8 => D2.t R a0 l0 c0 a1 l1 c1 x7 x8 h
theorem D2.ok (R : Rt) (fr : Fr) (h : Hp) (g : D2.g R fr h) : den prog E (cAt C [true, true, true]) (retQ E [.tmp 6] R) fr h := by
  obtain ⟨a0, l0, c0, e0, g⟩ := gSlice_elim g
  obtain ⟨a1, l1, c1, e1, g⟩ := gSlice_elim g
  obtain ⟨x7, e7, g⟩ := gInt_elim g
  obtain ⟨x8, e8, g⟩ := gInt_elim g
  exact den_enter [(0, .slice a0 l0 c0), (1, .slice a1 l1 c1), (7, .int .u64 x7), (8, .int .u64 x8)] ⟨e0, e1, e7, e8, trivial⟩ (by kernel_rfl) g
def L4.g (N : Option Addr → Nat → Nat → Option Addr → Nat → Nat → Int → Int → Int → Int → Int → Hp → Prop) (fr : Fr) (h : Hp) : Prop := gSlice (fr 0) fun a0 l0 c0 => gSlice (fr 1) fun a1 l1 c1 => gInt .u64 (fr 2) fun x2 => gInt .u64 (fr 7) fun x7 => gInt .u64 (fr 8) fun x8 => gInt .i64 (fr 14) fun x14 => gInt .i64 (fr 15) fun x15 => N a0 l0 c0 a1 l1 c1 x2 x7 x8 x14 x15 h
def D5.t (R : Rt) (N4 : Option Addr → Nat → Nat → Option Addr → Nat → Nat → Int → Int → Int → Int → Int → Hp → Prop) (a0 : Option Addr) (l0 : Nat) (c0 : Nat) (a1 : Option Addr) (l1 : Nat) (c1 : Nat) (x2 : Int) (x7 : Int) (x8 : Int) (x14 : Int) (x15 : Int) (h : Hp) : Prop :=
  cond (decide (x15 < x14)) (idxK a1 l1 x15 1 fun q7 =>
  ldK h q7 fun v8 =>
  gInt .u64 v8 fun x_9 =>
  HC bits_Mul64.id #[.int .u64 x_9, .int .u64 x2] h fun v10 h11 =>
  gTup v10 fun y12 =>
  uncons y12 fun v13 y13 =>
  gInt .u64 v13 fun x_14 =>
  uncons y13 fun v15 y15 =>
  gInt .u64 v15 fun x_16 =>
  unnil y15 <| addK x_16 x7 0 fun n17 m17 =>
  letK (IntKind.u64.wrap (x_14 + m17)) fun n18 =>
  idxK a0 l0 x15 1 fun q19 =>
  ldK h11 q19 fun v20 =>
  gInt .u64 v20 fun x_21 =>
  subK x_21 n17 x8 fun n22 m22 =>
  idxK a0 l0 x15 1 fun q23 =>
  stK h11 q23 (.int .u64 n22) fun h24 =>
  letK (IntKind.i64.wrap (x15 + 1)) fun n25 =>
  N4 a0 l0 c0 a1 l1 c1 x2 n18 m22 x14 n25 h24) (D2.t R a0 l0 c0 a1 l1 c1 x7 x8 h)
def D5.g (R : Rt) (N4 : Option Addr → Nat → Nat → Option Addr → Nat → Nat → Int → Int → Int → Int → Int → Hp → Prop) (fr : Fr) (h : Hp) : Prop := gSlice (fr 0) fun a0 l0 c0 => gSlice (fr 1) fun a1 l1 c1 => gInt .u64 (fr 2) fun x2 => gInt .u64 (fr 7) fun x7 => gInt .u64 (fr 8) fun x8 => gInt .i64 (fr 14) fun x14 => gInt .i64 (fr 15) fun x15 => D5.t R N4 a0 l0 c0 a1 l1 c1 x2 x7 x8 x14 x15 h
theorem D5.ok (R : Rt) (N4 : Option Addr → Nat → Nat → Option Addr → Nat → Nat → Int → Int → Int → Int → Int → Hp → Prop) (fr : Fr) (h : Hp) (g : D5.g R N4 fr h) : den prog E (cAt C [true, true, false, true, false, false]) (Ex.then (L4.g N4) (Ex.inBlock 0 (Ex.then (D2.g R) (retQ E [.tmp 6] R)))) fr h := by
  obtain ⟨a0, l0, c0, e0, g⟩ := gSlice_elim g
  obtain ⟨a1, l1, c1, e1, g⟩ := gSlice_elim g
  obtain ⟨x2, e2, g⟩ := gInt_elim g
  obtain ⟨x7, e7, g⟩ := gInt_elim g
  obtain ⟨x8, e8, g⟩ := gInt_elim g
  obtain ⟨x14, e14, g⟩ := gInt_elim g
  obtain ⟨x15, e15, g⟩ := gInt_elim g
  exact den_enter [(0, .slice a0 l0 c0), (1, .slice a1 l1 c1), (2, .int .u64 x2), (7, .int .u64 x7), (8, .int .u64 x8), (14, .int .i64 x14), (15, .int .i64 x15)] ⟨e0, e1, e2, e7, e8, e14, e15, trivial⟩ (by kernel_rfl) g
def L4.t (R : Rt) : Nat → Option Addr → Nat → Nat → Option Addr → Nat → Nat → Int → Int → Int → Int → Int → Hp → Prop
  | 0 => fun _ _ _ _ _ _ _ _ _ _ _ _ => False
  | n + 1 => fun a0 l0 c0 a1 l1 c1 x2 x7 x8 x14 x15 h => D5.t R (L4.t R n) a0 l0 c0 a1 l1 c1 x2 x7 x8 x14 x15 h
theorem L4.ok (R : Rt) (fr : Fr) (h : Hp) (g : L4.g (fun a0 l0 c0 a1 l1 c1 x2 x7 x8 x14 x15 h => ∃ n, L4.t R n a0 l0 c0 a1 l1 c1 x2 x7 x8 x14 x15 h) fr h) : den prog E (cAt C [true, true, false, true, false]) (Ex.inBlock 0 (Ex.then (D2.g R) (retQ E [.tmp 6] R))) fr h := by
  obtain ⟨a0, l0, c0, e0, g⟩ := gSlice_elim g
  obtain ⟨a1, l1, c1, e1, g⟩ := gSlice_elim g
  obtain ⟨x2, e2, g⟩ := gInt_elim g
  obtain ⟨x7, e7, g⟩ := gInt_elim g
  obtain ⟨x8, e8, g⟩ := gInt_elim g
  obtain ⟨x14, e14, g⟩ := gInt_elim g
  obtain ⟨x15, e15, g⟩ := gInt_elim g
  obtain ⟨n, g⟩ := g
  refine loop_ok (fun n => L4.g (L4.t R n)) (b := (cAt C [true, true, false, true, false, false])) (by kernel_rfl) (fun fr h g => ?_) (fun n => D5.ok R (L4.t R n)) n fr h (gSlice_intro e0 (gSlice_intro e1 (gInt_intro e2 (gInt_intro e7 (gInt_intro e8 (gInt_intro e14 (gInt_intro e15 (g))))))))
  obtain ⟨a0, l0, c0, e0, g⟩ := gSlice_elim g
  obtain ⟨a1, l1, c1, e1, g⟩ := gSlice_elim g
  obtain ⟨x2, e2, g⟩ := gInt_elim g
  obtain ⟨x7, e7, g⟩ := gInt_elim g
  obtain ⟨x8, e8, g⟩ := gInt_elim g
  obtain ⟨x14, e14, g⟩ := gInt_elim g
  obtain ⟨x15, e15, g⟩ := gInt_elim g
  exact g
theorem B6.ok (R : Rt) (fr : Fr) (h : Hp) (g : L4.g (fun a0 l0 c0 a1 l1 c1 x2 x7 x8 x14 x15 h => ∃ n, L4.t R n a0 l0 c0 a1 l1 c1 x2 x7 x8 x14 x15 h) fr h) : den prog E (cAt C [true, true, false, true]) (Ex.then (D2.g R) (retQ E [.tmp 6] R)) fr h :=
  den_block (by kernel_rfl) (L4.ok R fr h g)
def D3.t (R : Rt) (a0 : Option Addr) (l0 : Nat) (c0 : Nat) (a1 : Option Addr) (l1 : Nat) (c1 : Nat) (x2 : Int) (x7 : Int) (x8 : Int) (h : Hp) : Prop :=
  (∃ n, L4.t R n a0 l0 c0 a1 l1 c1 x2 x7 x8 (((l1 : Nat) : Int)) 0 h)
def D3.g (R : Rt) (fr : Fr) (h : Hp) : Prop := gSlice (fr 0) fun a0 l0 c0 => gSlice (fr 1) fun a1 l1 c1 => gInt .u64 (fr 2) fun x2 => gInt .u64 (fr 7) fun x7 => gInt .u64 (fr 8) fun x8 => D3.t R a0 l0 c0 a1 l1 c1 x2 x7 x8 h
theorem D3.ok (R : Rt) (fr : Fr) (h : Hp) (g : D3.g R fr h) : den prog E (cAt C [true, true, false]) (Ex.then (D2.g R) (retQ E [.tmp 6] R)) fr h := by
  obtain ⟨a0, l0, c0, e0, g⟩ := gSlice_elim g
  obtain ⟨a1, l1, c1, e1, g⟩ := gSlice_elim g
  obtain ⟨x2, e2, g⟩ := gInt_elim g
  obtain ⟨x7, e7, g⟩ := gInt_elim g
  obtain ⟨x8, e8, g⟩ := gInt_elim g
  exact den_cut 1 (r := (cAt C [true, true, false, true])) (by kernel_rfl) (B6.ok R) (den_enter [(0, .slice a0 l0 c0), (1, .slice a1 l1 c1), (2, .int .u64 x2), (7, .int .u64 x7), (8, .int .u64 x8)] ⟨e0, e1, e2, e7, e8, trivial⟩ (by kernel_rfl) g)
theorem W7.ok (R : Rt) (fr : Fr) (h : Hp) (g : D3.g R fr h) : den prog E (cAt C [true, true]) (retQ E [.tmp 6] R) fr h :=
  den_then (by kernel_rfl) (D2.ok R) (D3.ok R fr h g)
def D1.t (R : Rt) (a0 : Option Addr) (l0 : Nat) (c0 : Nat) (a1 : Option Addr) (l1 : Nat) (c1 : Nat) (x2 : Int) (h : Hp) : Prop :=
  D3.t R a0 l0 c0 a1 l1 c1 x2 0 0 h
def D1.g (R : Rt) (fr : Fr) (h : Hp) : Prop := gSlice (fr 0) fun a0 l0 c0 => gSlice (fr 1) fun a1 l1 c1 => gInt .u64 (fr 2) fun x2 => D1.t R a0 l0 c0 a1 l1 c1 x2 h
theorem D1.ok (R : Rt) (fr : Fr) (h : Hp) (g : D1.g R fr h) : den prog E C (retQ E [.tmp 6] R) fr h := by
  obtain ⟨a0, l0, c0, e0, g⟩ := gSlice_elim g
  obtain ⟨a1, l1, c1, e1, g⟩ := gSlice_elim g
  obtain ⟨x2, e2, g⟩ := gInt_elim g
  exact den_cut 2 (r := (cAt C [true, true])) (by kernel_rfl) (W7.ok R) (den_enter [(0, .slice a0 l0 c0), (1, .slice a1 l1 c1), (2, .int .u64 x2)] ⟨e0, e1, e2, trivial⟩ (by kernel_rfl) g)
def t (a0 : Option Addr) (l0 : Nat) (c0 : Nat) (a1 : Option Addr) (l1 : Nat) (c1 : Nat) (x2 : Int) (h : Hp) (R : Rt) : Prop := D1.t R a0 l0 c0 a1 l1 c1 x2 h
theorem ok {a0 : Option Addr} {l0 : Nat} {c0 : Nat} {a1 : Option Addr} {l1 : Nat} {c1 : Nat} {x2 : Int} {h : Hp} {R : Rt} (g : t a0 l0 c0 a1 l1 c1 x2 h R) : HC id #[.slice a0 l0 c0, .slice a1 l1 c1, .int .u64 x2] h R :=
  calls_of_den' envOk (c := C) (rs := [.tmp 6]) Tryz.func120 (by kernel_rfl) (by kernel_rfl) (by kernel_rfl) (args := [.slice a0 l0 c0, .slice a1 l1 c1, .int .u64 x2]) (by kernel_rfl) (D1.ok R _ h (gSlice_intro rfl (gSlice_intro rfl (gInt_intro rfl (g)))))
end natdiv_takeMul

namespace natdiv_giveBack
noncomputable def C : Code := bodyOf Tryz.f121
def D2.t (R : Rt) (a0 : Option Addr) (l0 : Nat) (c0 : Nat) (a1 : Option Addr) (l1 : Nat) (c1 : Nat) (x5 : Int) (h : Hp) : Prop :=
  idxK a0 l0 (((l1 : Nat) : Int)) 1 fun q1 =>
  ldK h q1 fun v2 =>
  gInt .u64 v2 fun x_3 =>
  addK x_3 0 x5 fun n4 m4 =>
  idxK a0 l0 (((l1 : Nat) : Int)) 1 fun q5 =>
  stK h q5 (.int .u64 n4) fun h6 =>
  R (.int .u64 m4) h6
def D2.g (R : Rt) (fr : Fr) (h : Hp) : Prop := gSlice (fr 0) fun a0 l0 c0 => gSlice (fr 1) fun a1 l1 c1 => gInt .u64 (fr 5) fun x5 => D2.t R a0 l0 c0 a1 l1 c1 x5 h
theorem D2.ok (R : Rt) (fr : Fr) (h : Hp) (g : D2.g R fr h) : den prog E (cAt C [true, true, true]) (retQ E [.tmp 4] R) fr h := by
  obtain ⟨a0, l0, c0, e0, g⟩ := gSlice_elim g
  obtain ⟨a1, l1, c1, e1, g⟩ := gSlice_elim g
  obtain ⟨x5, e5, g⟩ := gInt_elim g
  exact den_enter [(0, .slice a0 l0 c0), (1, .slice a1 l1 c1), (5, .int .u64 x5)] ⟨e0, e1, e5, trivial⟩ (by kernel_rfl) g
def L4.g (N : Option Addr → Nat → Nat → Option Addr → Nat → Nat → Int → Int → Int → Hp → Prop) (fr : Fr) (h : Hp) : Prop := gSlice (fr 0) fun a0 l0 c0 => gSlice (fr 1) fun a1 l1 c1 => gInt .u64 (fr 5) fun x5 => gInt .i64 (fr 8) fun x8 => gInt .i64 (fr 9) fun x9 => N a0 l0 c0 a1 l1 c1 x5 x8 x9 h
def D5.t (R : Rt) (N4 : Option Addr → Nat → Nat → Option Addr → Nat → Nat → Int → Int → Int → Hp → Prop) (a0 : Option Addr) (l0 : Nat) (c0 : Nat) (a1 : Option Addr) (l1 : Nat) (c1 : Nat) (x5 : Int) (x8 : Int) (x9 : Int) (h : Hp) : Prop :=
  cond (decide (x9 < x8)) (idxK a0 l0 x9 1 fun q7 =>
  ldK h q7 fun v8 =>
  gInt .u64 v8 fun x_9 =>
  idxK a1 l1 x9 1 fun q10 =>
  ldK h q10 fun v11 =>
  gInt .u64 v11 fun x_12 =>
  addK x_9 x_12 x5 fun n13 m13 =>
  idxK a0 l0 x9 1 fun q14 =>
  stK h q14 (.int .u64 n13) fun h15 =>
  letK (IntKind.i64.wrap (x9 + 1)) fun n16 =>
  N4 a0 l0 c0 a1 l1 c1 m13 x8 n16 h15) (D2.t R a0 l0 c0 a1 l1 c1 x5 h)
def D5.g (R : Rt) (N4 : Option Addr → Nat → Nat → Option Addr → Nat → Nat → Int → Int → Int → Hp → Prop) (fr : Fr) (h : Hp) : Prop := gSlice (fr 0) fun a0 l0 c0 => gSlice (fr 1) fun a1 l1 c1 => gInt .u64 (fr 5) fun x5 => gInt .i64 (fr 8) fun x8 => gInt .i64 (fr 9) fun x9 => D5.t R N4 a0 l0 c0 a1 l1 c1 x5 x8 x9 h
theorem D5.ok (R : Rt) (N4 : Option Addr → Nat → Nat → Option Addr → Nat → Nat → Int → Int → Int → Hp → Prop) (fr : Fr) (h : Hp) (g : D5.g R N4 fr h) : den prog E (cAt C [true, true, false, true, false, false]) (Ex.then (L4.g N4) (Ex.inBlock 0 (Ex.then (D2.g R) (retQ E [.tmp 4] R)))) fr h := by
  obtain ⟨a0, l0, c0, e0, g⟩ := gSlice_elim g
  obtain ⟨a1, l1, c1, e1, g⟩ := gSlice_elim g
  obtain ⟨x5, e5, g⟩ := gInt_elim g
  obtain ⟨x8, e8, g⟩ := gInt_elim g
  obtain ⟨x9, e9, g⟩ := gInt_elim g
  exact den_enter [(0, .slice a0 l0 c0), (1, .slice a1 l1 c1), (5, .int .u64 x5), (8, .int .i64 x8), (9, .int .i64 x9)] ⟨e0, e1, e5, e8, e9, trivial⟩ (by kernel_rfl) g
def L4.t (R : Rt) : Nat → Option Addr → Nat → Nat → Option Addr → Nat → Nat → Int → Int → Int → Hp → Prop
  | 0 => fun _ _ _ _ _ _ _ _ _ _ => False
  | n + 1 => fun a0 l0 c0 a1 l1 c1 x5 x8 x9 h => D5.t R (L4.t R n) a0 l0 c0 a1 l1 c1 x5 x8 x9 h
theorem L4.ok (R : Rt) (fr : Fr) (h : Hp) (g : L4.g (fun a0 l0 c0 a1 l1 c1 x5 x8 x9 h => ∃ n, L4.t R n a0 l0 c0 a1 l1 c1 x5 x8 x9 h) fr h) : den prog E (cAt C [true, true, false, true, false]) (Ex.inBlock 0 (Ex.then (D2.g R) (retQ E [.tmp 4] R))) fr h := by
  obtain ⟨a0, l0, c0, e0, g⟩ := gSlice_elim g
  obtain ⟨a1, l1, c1, e1, g⟩ := gSlice_elim g
  obtain ⟨x5, e5, g⟩ := gInt_elim g
  obtain ⟨x8, e8, g⟩ := gInt_elim g
  obtain ⟨x9, e9, g⟩ := gInt_elim g
  obtain ⟨n, g⟩ := g
  refine loop_ok (fun n => L4.g (L4.t R n)) (b := (cAt C [true, true, false, true, false, false])) (by kernel_rfl) (fun fr h g => ?_) (fun n => D5.ok R (L4.t R n)) n fr h (gSlice_intro e0 (gSlice_intro e1 (gInt_intro e5 (gInt_intro e8 (gInt_intro e9 (g))))))
  obtain ⟨a0, l0, c0, e0, g⟩ := gSlice_elim g
  obtain ⟨a1, l1, c1, e1, g⟩ := gSlice_elim g
  obtain ⟨x5, e5, g⟩ := gInt_elim g
  obtain ⟨x8, e8, g⟩ := gInt_elim g
  obtain ⟨x9, e9, g⟩ := gInt_elim g
  exact g
theorem B6.ok (R : Rt) (fr : Fr) (h : Hp) (g : L4.g (fun a0 l0 c0 a1 l1 c1 x5 x8 x9 h => ∃ n, L4.t R n a0 l0 c0 a1 l1 c1 x5 x8 x9 h) fr h) : den prog E (cAt C [true, true, false, true]) (Ex.then (D2.g R) (retQ E [.tmp 4] R)) fr h :=
  den_block (by kernel_rfl) (L4.ok R fr h g)
def D3.t (R : Rt) (a0 : Option Addr) (l0 : Nat) (c0 : Nat) (a1 : Option Addr) (l1 : Nat) (c1 : Nat) (x5 : Int) (h : Hp) : Prop :=
  (∃ n, L4.t R n a0 l0 c0 a1 l1 c1 x5 (((l1 : Nat) : Int)) 0 h)
def D3.g (R : Rt) (fr : Fr) (h : Hp) : Prop := gSlice (fr 0) fun a0 l0 c0 => gSlice (fr 1) fun a1 l1 c1 => gInt .u64 (fr 5) fun x5 => D3.t R a0 l0 c0 a1 l1 c1 x5 h
theorem D3.ok (R : Rt) (fr : Fr) (h : Hp) (g : D3.g R fr h) : den prog E (cAt C [true, true, false]) (Ex.then (D2.g R) (retQ E [.tmp 4] R)) fr h := by
  obtain ⟨a0, l0, c0, e0, g⟩ := gSlice_elim g
  obtain ⟨a1, l1, c1, e1, g⟩ := gSlice_elim g
  obtain ⟨x5, e5, g⟩ := gInt_elim g
  exact den_cut 1 (r := (cAt C [true, true, false, true])) (by kernel_rfl) (B6.ok R) (den_enter [(0, .slice a0 l0 c0), (1, .slice a1 l1 c1), (5, .int .u64 x5)] ⟨e0, e1, e5, trivial⟩ (by kernel_rfl) g)
theorem W7.ok (R : Rt) (fr : Fr) (h : Hp) (g : D3.g R fr h) : den prog E (cAt C [true, true]) (retQ E [.tmp 4] R) fr h :=
  den_then (by kernel_rfl) (D2.ok R) (D3.ok R fr h g)
def D1.t (R : Rt) (a0 : Option Addr) (l0 : Nat) (c0 : Nat) (a1 : Option Addr) (l1 : Nat) (c1 : Nat) (h : Hp) : Prop :=
  D3.t R a0 l0 c0 a1 l1 c1 0 h
def D1.g (R : Rt) (fr : Fr) (h : Hp) : Prop := gSlice (fr 0) fun a0 l0 c0 => gSlice (fr 1) fun a1 l1 c1 => D1.t R a0 l0 c0 a1 l1 c1 h
theorem D1.ok (R : Rt) (fr : Fr) (h : Hp) (g : D1.g R fr h) : den prog E C (retQ E [.tmp 4] R) fr h := by
  obtain ⟨a0, l0, c0, e0, g⟩ := gSlice_elim g
  obtain ⟨a1, l1, c1, e1, g⟩ := gSlice_elim g
  exact den_cut 2 (r := (cAt C [true, true])) (by kernel_rfl) (W7.ok R) (den_enter [(0, .slice a0 l0 c0), (1, .slice a1 l1 c1)] ⟨e0, e1, trivial⟩ (by kernel_rfl) g)
def t (a0 : Option Addr) (l0 : Nat) (c0 : Nat) (a1 : Option Addr) (l1 : Nat) (c1 : Nat) (h : Hp) (R : Rt) : Prop := D1.t R a0 l0 c0 a1 l1 c1 h
theorem ok {a0 : Option Addr} {l0 : Nat} {c0 : Nat} {a1 : Option Addr} {l1 : Nat} {c1 : Nat} {h : Hp} {R : Rt} (g : t a0 l0 c0 a1 l1 c1 h R) : HC id #[.slice a0 l0 c0, .slice a1 l1 c1] h R :=
  calls_of_den' envOk (c := C) (rs := [.tmp 4]) Tryz.func121 (by kernel_rfl) (by kernel_rfl) (by kernel_rfl) (args := [.slice a0 l0 c0, .slice a1 l1 c1]) (by kernel_rfl) (D1.ok R _ h (gSlice_intro rfl (gSlice_intro rfl (g))))
end natdiv_giveBack

namespace natmul_rows
noncomputable def C : Code := bodyOf Tryz.f122
def L2.g (N : Option Addr → Nat → Nat → Option Addr → Nat → Nat → Option Addr → Nat → Nat → Int → Int → Hp → Prop) (fr : Fr) (h : Hp) : Prop := gSlice (fr 0) fun a0 l0 c0 => gSlice (fr 1) fun a1 l1 c1 => gSlice (fr 2) fun a2 l2 c2 => gInt .i64 (fr 13) fun x13 => gInt .i64 (fr 14) fun x14 => N a0 l0 c0 a1 l1 c1 a2 l2 c2 x13 x14 h
def D4.t (R : Rt) (N2 : Option Addr → Nat → Nat → Option Addr → Nat → Nat → Option Addr → Nat → Nat → Int → Int → Hp → Prop) (a0 : Option Addr) (l0 : Nat) (c0 : Nat) (a1 : Option Addr) (l1 : Nat) (c1 : Nat) (a2 : Option Addr) (l2 : Nat) (c2 : Nat) (x13 : Int) (x14 : Int) (h : Hp) : Prop :=
  letK (IntKind.i64.wrap (x14 + 1)) fun n1 => N2 a0 l0 c0 a1 l1 c1 a2 l2 c2 x13 n1 h
def D4.g (R : Rt) (N2 : Option Addr → Nat → Nat → Option Addr → Nat → Nat → Option Addr → Nat → Nat → Int → Int → Hp → Prop) (fr : Fr) (h : Hp) : Prop := gSlice (fr 0) fun a0 l0 c0 => gSlice (fr 1) fun a1 l1 c1 => gSlice (fr 2) fun a2 l2 c2 => gInt .i64 (fr 13) fun x13 => gInt .i64 (fr 14) fun x14 => D4.t R N2 a0 l0 c0 a1 l1 c1 a2 l2 c2 x13 x14 h
theorem D4.ok (R : Rt) (N2 : Option Addr → Nat → Nat → Option Addr → Nat → Nat → Option Addr → Nat → Nat → Int → Int → Hp → Prop) (fr : Fr) (h : Hp) (g : D4.g R N2 fr h) : den prog E (cAt C [true, false, false, true, true, true]) (Ex.then (L2.g N2) (Ex.inBlock 0 (retQ E [] R))) fr h := by
  obtain ⟨a0, l0, c0, e0, g⟩ := gSlice_elim g
  obtain ⟨a1, l1, c1, e1, g⟩ := gSlice_elim g
  obtain ⟨a2, l2, c2, e2, g⟩ := gSlice_elim g
  obtain ⟨x13, e13, g⟩ := gInt_elim g
  obtain ⟨x14, e14, g⟩ := gInt_elim g
  exact den_enter [(0, .slice a0 l0 c0), (1, .slice a1 l1 c1), (2, .slice a2 l2 c2), (13, .int .i64 x13), (14, .int .i64 x14)] ⟨e0, e1, e2, e13, e14, trivial⟩ (by kernel_rfl) g
def D6.t (R : Rt) (N2 : Option Addr → Nat → Nat → Option Addr → Nat → Nat → Option Addr → Nat → Nat → Int → Int → Hp → Prop) (a0 : Option Addr) (l0 : Nat) (c0 : Nat) (a1 : Option Addr) (l1 : Nat) (c1 : Nat) (a2 : Option Addr) (l2 : Nat) (c2 : Nat) (x6 : Int) (x7 : Int) (x13 : Int) (x14 : Int) (h : Hp) : Prop :=
  letK (IntKind.i64.wrap (x6 + (((l1 : Nat) : Int)))) fun n2 =>
  idxK a0 l0 n2 1 fun q3 =>
  stK h q3 (.int .u64 x7) fun h4 =>
  D4.t R N2 a0 l0 c0 a1 l1 c1 a2 l2 c2 x13 x14 h4
def D6.g (R : Rt) (N2 : Option Addr → Nat → Nat → Option Addr → Nat → Nat → Option Addr → Nat → Nat → Int → Int → Hp → Prop) (fr : Fr) (h : Hp) : Prop := gSlice (fr 0) fun a0 l0 c0 => gSlice (fr 1) fun a1 l1 c1 => gSlice (fr 2) fun a2 l2 c2 => gInt .i64 (fr 6) fun x6 => gInt .u64 (fr 7) fun x7 => gInt .i64 (fr 13) fun x13 => gInt .i64 (fr 14) fun x14 => D6.t R N2 a0 l0 c0 a1 l1 c1 a2 l2 c2 x6 x7 x13 x14 h
theorem D6.ok (R : Rt) (N2 : Option Addr → Nat → Nat → Option Addr → Nat → Nat → Option Addr → Nat → Nat → Int → Int → Hp → Prop) (fr : Fr) (h : Hp) (g : D6.g R N2 fr h) : den prog E (cAt C [true, false, false, true, true, false, false, true, true, true]) (Ex.inBlock 1 (Ex.then (D4.g R N2) (Ex.then (L2.g N2) (Ex.inBlock 0 (retQ E [] R))))) fr h := by
  obtain ⟨a0, l0, c0, e0, g⟩ := gSlice_elim g
  obtain ⟨a1, l1, c1, e1, g⟩ := gSlice_elim g
  obtain ⟨a2, l2, c2, e2, g⟩ := gSlice_elim g
  obtain ⟨x6, e6, g⟩ := gInt_elim g
  obtain ⟨x7, e7, g⟩ := gInt_elim g
  obtain ⟨x13, e13, g⟩ := gInt_elim g
  obtain ⟨x14, e14, g⟩ := gInt_elim g
  exact den_enter [(0, .slice a0 l0 c0), (1, .slice a1 l1 c1), (2, .slice a2 l2 c2), (6, .int .i64 x6), (7, .int .u64 x7), (13, .int .i64 x13), (14, .int .i64 x14)] ⟨e0, e1, e2, e6, e7, e13, e14, trivial⟩ (by kernel_rfl) g
def L8.g (N : Option Addr → Nat → Nat → Option Addr → Nat → Nat → Option Addr → Nat → Nat → Int → Int → Int → Int → Int → Int → Hp → Prop) (fr : Fr) (h : Hp) : Prop := gSlice (fr 0) fun a0 l0 c0 => gSlice (fr 1) fun a1 l1 c1 => gSlice (fr 2) fun a2 l2 c2 => gInt .i64 (fr 6) fun x6 => gInt .u64 (fr 7) fun x7 => gInt .i64 (fr 13) fun x13 => gInt .i64 (fr 14) fun x14 => gInt .i64 (fr 18) fun x18 => gInt .i64 (fr 19) fun x19 => N a0 l0 c0 a1 l1 c1 a2 l2 c2 x6 x7 x13 x14 x18 x19 h
def D9.t (R : Rt) (N2 : Option Addr → Nat → Nat → Option Addr → Nat → Nat → Option Addr → Nat → Nat → Int → Int → Hp → Prop) (N8 : Option Addr → Nat → Nat → Option Addr → Nat → Nat → Option Addr → Nat → Nat → Int → Int → Int → Int → Int → Int → Hp → Prop) (a0 : Option Addr) (l0 : Nat) (c0 : Nat) (a1 : Option Addr) (l1 : Nat) (c1 : Nat) (a2 : Option Addr) (l2 : Nat) (c2 : Nat) (x6 : Int) (x7 : Int) (x13 : Int) (x14 : Int) (x18 : Int) (x19 : Int) (h : Hp) : Prop :=
  cond (decide (x19 < x18)) (idxK a1 l1 x19 1 fun q5 =>
  ldK h q5 fun v6 =>
  gInt .u64 v6 fun x_7 =>
  idxK a2 l2 x6 1 fun q8 =>
  ldK h q8 fun v9 =>
  gInt .u64 v9 fun x_10 =>
  HC bits_Mul64.id #[.int .u64 x_7, .int .u64 x_10] h fun v11 h12 =>
  gTup v11 fun y13 =>
  uncons y13 fun v14 y14 =>
  gInt .u64 v14 fun x_15 =>
  uncons y14 fun v16 y16 =>
  gInt .u64 v16 fun x_17 =>
  unnil y16 <| addK x_17 x7 0 fun n18 m18 =>
  letK (IntKind.u64.wrap (x_15 + m18)) fun n19 =>
  letK (IntKind.i64.wrap (x19 + x6)) fun n20 =>
  letK (IntKind.i64.wrap (x19 + x6)) fun n21 =>
  idxK a0 l0 n21 1 fun q22 =>
  ldK h12 q22 fun v23 =>
  gInt .u64 v23 fun x_24 =>
  addK x_24 n18 0 fun n25 m25 =>
  idxK a0 l0 n20 1 fun q26 =>
  stK h12 q26 (.int .u64 n25) fun h27 =>
  letK (IntKind.u64.wrap (n19 + m25)) fun n28 =>
  letK (IntKind.i64.wrap (x19 + 1)) fun n29 =>
  N8 a0 l0 c0 a1 l1 c1 a2 l2 c2 x6 n28 x13 x14 x18 n29 h27) (D6.t R N2 a0 l0 c0 a1 l1 c1 a2 l2 c2 x6 x7 x13 x14 h)
def D9.g (R : Rt) (N2 : Option Addr → Nat → Nat → Option Addr → Nat → Nat → Option Addr → Nat → Nat → Int → Int → Hp → Prop) (N8 : Option Addr → Nat → Nat → Option Addr → Nat → Nat → Option Addr → Nat → Nat → Int → Int → Int → Int → Int → Int → Hp → Prop) (fr : Fr) (h : Hp) : Prop := gSlice (fr 0) fun a0 l0 c0 => gSlice (fr 1) fun a1 l1 c1 => gSlice (fr 2) fun a2 l2 c2 => gInt .i64 (fr 6) fun x6 => gInt .u64 (fr 7) fun x7 => gInt .i64 (fr 13) fun x13 => gInt .i64 (fr 14) fun x14 => gInt .i64 (fr 18) fun x18 => gInt .i64 (fr 19) fun x19 => D9.t R N2 N8 a0 l0 c0 a1 l1 c1 a2 l2 c2 x6 x7 x13 x14 x18 x19 h
theorem D9.ok (R : Rt) (N2 : Option Addr → Nat → Nat → Option Addr → Nat → Nat → Option Addr → Nat → Nat → Int → Int → Hp → Prop) (N8 : Option Addr → Nat → Nat → Option Addr → Nat → Nat → Option Addr → Nat → Nat → Int → Int → Int → Int → Int → Int → Hp → Prop) (fr : Fr) (h : Hp) (g : D9.g R N2 N8 fr h) : den prog E (cAt C [true, false, false, true, true, false, false, true, true, false, true, false, false]) (Ex.then (L8.g N8) (Ex.inBlock 2 (Ex.then (D6.g R N2) (Ex.inBlock 1 (Ex.then (D4.g R N2) (Ex.then (L2.g N2) (Ex.inBlock 0 (retQ E [] R)))))))) fr h := by
  obtain ⟨a0, l0, c0, e0, g⟩ := gSlice_elim g
  obtain ⟨a1, l1, c1, e1, g⟩ := gSlice_elim g
  obtain ⟨a2, l2, c2, e2, g⟩ := gSlice_elim g
  obtain ⟨x6, e6, g⟩ := gInt_elim g
  obtain ⟨x7, e7, g⟩ := gInt_elim g
  obtain ⟨x13, e13, g⟩ := gInt_elim g
  obtain ⟨x14, e14, g⟩ := gInt_elim g
  obtain ⟨x18, e18, g⟩ := gInt_elim g
  obtain ⟨x19, e19, g⟩ := gInt_elim g
  exact den_enter [(0, .slice a0 l0 c0), (1, .slice a1 l1 c1), (2, .slice a2 l2 c2), (6, .int .i64 x6), (7, .int .u64 x7), (13, .int .i64 x13), (14, .int .i64 x14), (18, .int .i64 x18), (19, .int .i64 x19)] ⟨e0, e1, e2, e6, e7, e13, e14, e18, e19, trivial⟩ (by kernel_rfl) g
def L8.t (R : Rt) (N2 : Option Addr → Nat → Nat → Option Addr → Nat → Nat → Option Addr → Nat → Nat → Int → Int → Hp → Prop) : Nat → Option Addr → Nat → Nat → Option Addr → Nat → Nat → Option Addr → Nat → Nat → Int → Int → Int → Int → Int → Int → Hp → Prop
  | 0 => fun _ _ _ _ _ _ _ _ _ _ _ _ _ _ _ _ => False
  | n + 1 => fun a0 l0 c0 a1 l1 c1 a2 l2 c2 x6 x7 x13 x14 x18 x19 h => D9.t R N2 (L8.t R N2 n) a0 l0 c0 a1 l1 c1 a2 l2 c2 x6 x7 x13 x14 x18 x19 h
theorem L8.ok (R : Rt) (N2 : Option Addr → Nat → Nat → Option Addr → Nat → Nat → Option Addr → Nat → Nat → Int → Int → Hp → Prop) (fr : Fr) (h : Hp) (g : L8.g (fun a0 l0 c0 a1 l1 c1 a2 l2 c2 x6 x7 x13 x14 x18 x19 h => ∃ n, L8.t R N2 n a0 l0 c0 a1 l1 c1 a2 l2 c2 x6 x7 x13 x14 x18 x19 h) fr h) : den prog E (cAt C [true, false, false, true, true, false, false, true, true, false, true, false]) (Ex.inBlock 2 (Ex.then (D6.g R N2) (Ex.inBlock 1 (Ex.then (D4.g R N2) (Ex.then (L2.g N2) (Ex.inBlock 0 (retQ E [] R))))))) fr h := by
  obtain ⟨a0, l0, c0, e0, g⟩ := gSlice_elim g
  obtain ⟨a1, l1, c1, e1, g⟩ := gSlice_elim g
  obtain ⟨a2, l2, c2, e2, g⟩ := gSlice_elim g
  obtain ⟨x6, e6, g⟩ := gInt_elim g
  obtain ⟨x7, e7, g⟩ := gInt_elim g
  obtain ⟨x13, e13, g⟩ := gInt_elim g
  obtain ⟨x14, e14, g⟩ := gInt_elim g
  obtain ⟨x18, e18, g⟩ := gInt_elim g
  obtain ⟨x19, e19, g⟩ := gInt_elim g
  obtain ⟨n, g⟩ := g
  refine loop_ok (fun n => L8.g (L8.t R N2 n)) (b := (cAt C [true, false, false, true, true, false, false, true, true, false, true, false, false])) (by kernel_rfl) (fun fr h g => ?_) (fun n => D9.ok R N2 (L8.t R N2 n)) n fr h (gSlice_intro e0 (gSlice_intro e1 (gSlice_intro e2 (gInt_intro e6 (gInt_intro e7 (gInt_intro e13 (gInt_intro e14 (gInt_intro e18 (gInt_intro e19 (g))))))))))
  obtain ⟨a0, l0, c0, e0, g⟩ := gSlice_elim g
  obtain ⟨a1, l1, c1, e1, g⟩ := gSlice_elim g
  obtain ⟨a2, l2, c2, e2, g⟩ := gSlice_elim g
  obtain ⟨x6, e6, g⟩ := gInt_elim g
  obtain ⟨x7, e7, g⟩ := gInt_elim g
  obtain ⟨x13, e13, g⟩ := gInt_elim g
  obtain ⟨x14, e14, g⟩ := gInt_elim g
  obtain ⟨x18, e18, g⟩ := gInt_elim g
  obtain ⟨x19, e19, g⟩ := gInt_elim g
  exact g
theorem B10.ok (R : Rt) (N2 : Option Addr → Nat → Nat → Option Addr → Nat → Nat → Option Addr → Nat → Nat → Int → Int → Hp → Prop) (fr : Fr) (h : Hp) (g : L8.g (fun a0 l0 c0 a1 l1 c1 a2 l2 c2 x6 x7 x13 x14 x18 x19 h => ∃ n, L8.t R N2 n a0 l0 c0 a1 l1 c1 a2 l2 c2 x6 x7 x13 x14 x18 x19 h) fr h) : den prog E (cAt C [true, false, false, true, true, false, false, true, true, false, true]) (Ex.then (D6.g R N2) (Ex.inBlock 1 (Ex.then (D4.g R N2) (Ex.then (L2.g N2) (Ex.inBlock 0 (retQ E [] R)))))) fr h :=
  den_block (by kernel_rfl) (L8.ok R N2 fr h g)
def D7.t (R : Rt) (N2 : Option Addr → Nat → Nat → Option Addr → Nat → Nat → Option Addr → Nat → Nat → Int → Int → Hp → Prop) (a0 : Option Addr) (l0 : Nat) (c0 : Nat) (a1 : Option Addr) (l1 : Nat) (c1 : Nat) (a2 : Option Addr) (l2 : Nat) (c2 : Nat) (x6 : Int) (x7 : Int) (x13 : Int) (x14 : Int) (h : Hp) : Prop :=
  (∃ n, L8.t R N2 n a0 l0 c0 a1 l1 c1 a2 l2 c2 x6 x7 x13 x14 (((l1 : Nat) : Int)) 0 h)
def D7.g (R : Rt) (N2 : Option Addr → Nat → Nat → Option Addr → Nat → Nat → Option Addr → Nat → Nat → Int → Int → Hp → Prop) (fr : Fr) (h : Hp) : Prop := gSlice (fr 0) fun a0 l0 c0 => gSlice (fr 1) fun a1 l1 c1 => gSlice (fr 2) fun a2 l2 c2 => gInt .i64 (fr 6) fun x6 => gInt .u64 (fr 7) fun x7 => gInt .i64 (fr 13) fun x13 => gInt .i64 (fr 14) fun x14 => D7.t R N2 a0 l0 c0 a1 l1 c1 a2 l2 c2 x6 x7 x13 x14 h
theorem D7.ok (R : Rt) (N2 : Option Addr → Nat → Nat → Option Addr → Nat → Nat → Option Addr → Nat → Nat → Int → Int → Hp → Prop) (fr : Fr) (h : Hp) (g : D7.g R N2 fr h) : den prog E (cAt C [true, false, false, true, true, false, false, true, true, false]) (Ex.then (D6.g R N2) (Ex.inBlock 1 (Ex.then (D4.g R N2) (Ex.then (L2.g N2) (Ex.inBlock 0 (retQ E [] R)))))) fr h := by
  obtain ⟨a0, l0, c0, e0, g⟩ := gSlice_elim g
  obtain ⟨a1, l1, c1, e1, g⟩ := gSlice_elim g
  obtain ⟨a2, l2, c2, e2, g⟩ := gSlice_elim g
  obtain ⟨x6, e6, g⟩ := gInt_elim g
  obtain ⟨x7, e7, g⟩ := gInt_elim g
  obtain ⟨x13, e13, g⟩ := gInt_elim g
  obtain ⟨x14, e14, g⟩ := gInt_elim g
  exact den_cut 1 (r := (cAt C [true, false, false, true, true, false, false, true, true, false, true])) (by kernel_rfl) (B10.ok R N2) (den_enter [(0, .slice a0 l0 c0), (1, .slice a1 l1 c1), (2, .slice a2 l2 c2), (6, .int .i64 x6), (7, .int .u64 x7), (13, .int .i64 x13), (14, .int .i64 x14)] ⟨e0, e1, e2, e6, e7, e13, e14, trivial⟩ (by kernel_rfl) g)
theorem W11.ok (R : Rt) (N2 : Option Addr → Nat → Nat → Option Addr → Nat → Nat → Option Addr → Nat → Nat → Int → Int → Hp → Prop) (fr : Fr) (h : Hp) (g : D7.g R N2 fr h) : den prog E (cAt C [true, false, false, true, true, false, false, true, true]) (Ex.inBlock 1 (Ex.then (D4.g R N2) (Ex.then (L2.g N2) (Ex.inBlock 0 (retQ E [] R))))) fr h :=
  den_then (by kernel_rfl) (D6.ok R N2) (D7.ok R N2 fr h g)
def D5.t (R : Rt) (N2 : Option Addr → Nat → Nat → Option Addr → Nat → Nat → Option Addr → Nat → Nat → Int → Int → Hp → Prop) (a0 : Option Addr) (l0 : Nat) (c0 : Nat) (a1 : Option Addr) (l1 : Nat) (c1 : Nat) (a2 : Option Addr) (l2 : Nat) (c2 : Nat) (x13 : Int) (x14 : Int) (h : Hp) : Prop :=
  D7.t R N2 a0 l0 c0 a1 l1 c1 a2 l2 c2 x14 0 x13 x14 h
def D5.g (R : Rt) (N2 : Option Addr → Nat → Nat → Option Addr → Nat → Nat → Option Addr → Nat → Nat → Int → Int → Hp → Prop) (fr : Fr) (h : Hp) : Prop := gSlice (fr 0) fun a0 l0 c0 => gSlice (fr 1) fun a1 l1 c1 => gSlice (fr 2) fun a2 l2 c2 => gInt .i64 (fr 13) fun x13 => gInt .i64 (fr 14) fun x14 => D5.t R N2 a0 l0 c0 a1 l1 c1 a2 l2 c2 x13 x14 h
theorem D5.ok (R : Rt) (N2 : Option Addr → Nat → Nat → Option Addr → Nat → Nat → Option Addr → Nat → Nat → Int → Int → Hp → Prop) (fr : Fr) (h : Hp) (g : D5.g R N2 fr h) : den prog E (cAt C [true, false, false, true, true, false, false]) (Ex.inBlock 1 (Ex.then (D4.g R N2) (Ex.then (L2.g N2) (Ex.inBlock 0 (retQ E [] R))))) fr h := by
  obtain ⟨a0, l0, c0, e0, g⟩ := gSlice_elim g
  obtain ⟨a1, l1, c1, e1, g⟩ := gSlice_elim g
  obtain ⟨a2, l2, c2, e2, g⟩ := gSlice_elim g
  obtain ⟨x13, e13, g⟩ := gInt_elim g
  obtain ⟨x14, e14, g⟩ := gInt_elim g
  exact den_cut 2 (r := (cAt C [true, false, false, true, true, false, false, true, true])) (by kernel_rfl) (W11.ok R N2) (den_enter [(0, .slice a0 l0 c0), (1, .slice a1 l1 c1), (2, .slice a2 l2 c2), (13, .int .i64 x13), (14, .int .i64 x14)] ⟨e0, e1, e2, e13, e14, trivial⟩ (by kernel_rfl) g)
theorem B12.ok (R : Rt) (N2 : Option Addr → Nat → Nat → Option Addr → Nat → Nat → Option Addr → Nat → Nat → Int → Int → Hp → Prop) (fr : Fr) (h : Hp) (g : D5.g R N2 fr h) : den prog E (cAt C [true, false, false, true, true, false]) (Ex.then (D4.g R N2) (Ex.then (L2.g N2) (Ex.inBlock 0 (retQ E [] R)))) fr h :=
  den_block (by kernel_rfl) (D5.ok R N2 fr h g)
theorem W13.ok (R : Rt) (N2 : Option Addr → Nat → Nat → Option Addr → Nat → Nat → Option Addr → Nat → Nat → Int → Int → Hp → Prop) (fr : Fr) (h : Hp) (g : D5.g R N2 fr h) : den prog E (cAt C [true, false, false, true, true]) (Ex.then (L2.g N2) (Ex.inBlock 0 (retQ E [] R))) fr h :=
  den_then (by kernel_rfl) (D4.ok R N2) (B12.ok R N2 fr h g)
def D3.t (R : Rt) (N2 : Option Addr → Nat → Nat → Option Addr → Nat → Nat → Option Addr → Nat → Nat → Int → Int → Hp → Prop) (a0 : Option Addr) (l0 : Nat) (c0 : Nat) (a1 : Option Addr) (l1 : Nat) (c1 : Nat) (a2 : Option Addr) (l2 : Nat) (c2 : Nat) (x13 : Int) (x14 : Int) (h : Hp) : Prop :=
  cond (decide (x14 < x13)) (D5.t R N2 a0 l0 c0 a1 l1 c1 a2 l2 c2 x13 x14 h) (R (.tuple #[]) h)
def D3.g (R : Rt) (N2 : Option Addr → Nat → Nat → Option Addr → Nat → Nat → Option Addr → Nat → Nat → Int → Int → Hp → Prop) (fr : Fr) (h : Hp) : Prop := gSlice (fr 0) fun a0 l0 c0 => gSlice (fr 1) fun a1 l1 c1 => gSlice (fr 2) fun a2 l2 c2 => gInt .i64 (fr 13) fun x13 => gInt .i64 (fr 14) fun x14 => D3.t R N2 a0 l0 c0 a1 l1 c1 a2 l2 c2 x13 x14 h
theorem D3.ok (R : Rt) (N2 : Option Addr → Nat → Nat → Option Addr → Nat → Nat → Option Addr → Nat → Nat → Int → Int → Hp → Prop) (fr : Fr) (h : Hp) (g : D3.g R N2 fr h) : den prog E (cAt C [true, false, false]) (Ex.then (L2.g N2) (Ex.inBlock 0 (retQ E [] R))) fr h := by
  obtain ⟨a0, l0, c0, e0, g⟩ := gSlice_elim g
  obtain ⟨a1, l1, c1, e1, g⟩ := gSlice_elim g
  obtain ⟨a2, l2, c2, e2, g⟩ := gSlice_elim g
  obtain ⟨x13, e13, g⟩ := gInt_elim g
  obtain ⟨x14, e14, g⟩ := gInt_elim g
  exact den_cut 2 (r := (cAt C [true, false, false, true, true])) (by kernel_rfl) (W13.ok R N2) (den_enter [(0, .slice a0 l0 c0), (1, .slice a1 l1 c1), (2, .slice a2 l2 c2), (13, .int .i64 x13), (14, .int .i64 x14)] ⟨e0, e1, e2, e13, e14, trivial⟩ (by kernel_rfl) g)
def L2.t (R : Rt) : Nat → Option Addr → Nat → Nat → Option Addr → Nat → Nat → Option Addr → Nat → Nat → Int → Int → Hp → Prop
  | 0 => fun _ _ _ _ _ _ _ _ _ _ _ _ => False
  | n + 1 => fun a0 l0 c0 a1 l1 c1 a2 l2 c2 x13 x14 h => D3.t R (L2.t R n) a0 l0 c0 a1 l1 c1 a2 l2 c2 x13 x14 h
theorem L2.ok (R : Rt) (fr : Fr) (h : Hp) (g : L2.g (fun a0 l0 c0 a1 l1 c1 a2 l2 c2 x13 x14 h => ∃ n, L2.t R n a0 l0 c0 a1 l1 c1 a2 l2 c2 x13 x14 h) fr h) : den prog E (cAt C [true, false]) (Ex.inBlock 0 (retQ E [] R)) fr h := by
  obtain ⟨a0, l0, c0, e0, g⟩ := gSlice_elim g
  obtain ⟨a1, l1, c1, e1, g⟩ := gSlice_elim g
  obtain ⟨a2, l2, c2, e2, g⟩ := gSlice_elim g
  obtain ⟨x13, e13, g⟩ := gInt_elim g
  obtain ⟨x14, e14, g⟩ := gInt_elim g
  obtain ⟨n, g⟩ := g
  refine loop_ok (fun n => L2.g (L2.t R n)) (b := (cAt C [true, false, false])) (by kernel_rfl) (fun fr h g => ?_) (fun n => D3.ok R (L2.t R n)) n fr h (gSlice_intro e0 (gSlice_intro e1 (gSlice_intro e2 (gInt_intro e13 (gInt_intro e14 (g))))))
  obtain ⟨a0, l0, c0, e0, g⟩ := gSlice_elim g
  obtain ⟨a1, l1, c1, e1, g⟩ := gSlice_elim g
  obtain ⟨a2, l2, c2, e2, g⟩ := gSlice_elim g
  obtain ⟨x13, e13, g⟩ := gInt_elim g
  obtain ⟨x14, e14, g⟩ := gInt_elim g
  exact g
theorem B14.ok (R : Rt) (fr : Fr) (h : Hp) (g : L2.g (fun a0 l0 c0 a1 l1 c1 a2 l2 c2 x13 x14 h => ∃ n, L2.t R n a0 l0 c0 a1 l1 c1 a2 l2 c2 x13 x14 h) fr h) : den prog E (cAt C [true]) (retQ E [] R) fr h :=
  den_block (by kernel_rfl) (L2.ok R fr h g)
def D1.t (R : Rt) (a0 : Option Addr) (l0 : Nat) (c0 : Nat) (a1 : Option Addr) (l1 : Nat) (c1 : Nat) (a2 : Option Addr) (l2 : Nat) (c2 : Nat) (h : Hp) : Prop :=
  (∃ n, L2.t R n a0 l0 c0 a1 l1 c1 a2 l2 c2 (((l2 : Nat) : Int)) 0 h)
def D1.g (R : Rt) (fr : Fr) (h : Hp) : Prop := gSlice (fr 0) fun a0 l0 c0 => gSlice (fr 1) fun a1 l1 c1 => gSlice (fr 2) fun a2 l2 c2 => D1.t R a0 l0 c0 a1 l1 c1 a2 l2 c2 h
theorem D1.ok (R : Rt) (fr : Fr) (h : Hp) (g : D1.g R fr h) : den prog E C (retQ E [] R) fr h := by
  obtain ⟨a0, l0, c0, e0, g⟩ := gSlice_elim g
  obtain ⟨a1, l1, c1, e1, g⟩ := gSlice_elim g
  obtain ⟨a2, l2, c2, e2, g⟩ := gSlice_elim g
  exact den_cut 1 (r := (cAt C [true])) (by kernel_rfl) (B14.ok R) (den_enter [(0, .slice a0 l0 c0), (1, .slice a1 l1 c1), (2, .slice a2 l2 c2)] ⟨e0, e1, e2, trivial⟩ (by kernel_rfl) g)
def t (a0 : Option Addr) (l0 : Nat) (c0 : Nat) (a1 : Option Addr) (l1 : Nat) (c1 : Nat) (a2 : Option Addr) (l2 : Nat) (c2 : Nat) (h : Hp) (R : Rt) : Prop := D1.t R a0 l0 c0 a1 l1 c1 a2 l2 c2 h
theorem ok {a0 : Option Addr} {l0 : Nat} {c0 : Nat} {a1 : Option Addr} {l1 : Nat} {c1 : Nat} {a2 : Option Addr} {l2 : Nat} {c2 : Nat} {h : Hp} {R : Rt} (g : t a0 l0 c0 a1 l1 c1 a2 l2 c2 h R) : HC id #[.slice a0 l0 c0, .slice a1 l1 c1, .slice a2 l2 c2] h R :=
  calls_of_den' envOk (c := C) (rs := []) Tryz.func122 (by kernel_rfl) (by kernel_rfl) (by kernel_rfl) (args := [.slice a0 l0 c0, .slice a1 l1 c1, .slice a2 l2 c2]) (by kernel_rfl) (D1.ok R _ h (gSlice_intro rfl (gSlice_intro rfl (gSlice_intro rfl (g)))))
end natmul_rows

namespace natmul_slabs
noncomputable def C : Code := bodyOf Tryz.f123
def L2.g (N : Option Addr → Nat → Nat → Option Addr → Nat → Nat → Option Addr → Nat → Nat → Int → Hp → Prop) (fr : Fr) (h : Hp) : Prop := gSlice (fr 0) fun a0 l0 c0 => gSlice (fr 1) fun a1 l1 c1 => gSlice (fr 2) fun a2 l2 c2 => gInt .i64 (fr 6) fun x6 => N a0 l0 c0 a1 l1 c1 a2 l2 c2 x6 h
def D3.t (R : Rt) (N2 : Option Addr → Nat → Nat → Option Addr → Nat → Nat → Option Addr → Nat → Nat → Int → Hp → Prop) (a0 : Option Addr) (l0 : Nat) (c0 : Nat) (a1 : Option Addr) (l1 : Nat) (c1 : Nat) (a2 : Option Addr) (l2 : Nat) (c2 : Nat) (x6 : Int) (h : Hp) : Prop :=
  cond (decide (x6 < (((l1 : Nat) : Int)))) (letK (IntKind.i64.wrap (x6 + (((l2 : Nat) : Int)))) fun n1 =>
  slK 1 a1 l1 c1 (some (.int .i64 x6)) (some (.int .i64 (if (((l1 : Nat) : Int)) < n1 then (((l1 : Nat) : Int)) else n1))) (some (.int .i64 (if (((l1 : Nat) : Int)) < n1 then (((l1 : Nat) : Int)) else n1))) fun a_2 l_2 c_2 =>
  HC natmul_trim.id #[.slice a_2 l_2 c_2] h fun v3 h4 =>
  gSlice v3 fun a_5 l_5 c_5 =>
  HC natmul_product.id #[.slice a_5 l_5 c_5, .slice a2 l2 c2] h4 fun v6 h7 =>
  gSlice v6 fun a_8 l_8 c_8 =>
  HC natmul_addAt.id #[.slice a0 l0 c0, .slice a_8 l_8 c_8, .int .i64 x6] h7 fun v9 h10 =>
  gTup v9 fun y11 =>
  unnil y11 <| letK (IntKind.i64.wrap (x6 + (((l2 : Nat) : Int)))) fun n12 =>
  N2 a0 l0 c0 a1 l1 c1 a2 l2 c2 n12 h10) (R (.tuple #[]) h)
def D3.g (R : Rt) (N2 : Option Addr → Nat → Nat → Option Addr → Nat → Nat → Option Addr → Nat → Nat → Int → Hp → Prop) (fr : Fr) (h : Hp) : Prop := gSlice (fr 0) fun a0 l0 c0 => gSlice (fr 1) fun a1 l1 c1 => gSlice (fr 2) fun a2 l2 c2 => gInt .i64 (fr 6) fun x6 => D3.t R N2 a0 l0 c0 a1 l1 c1 a2 l2 c2 x6 h
theorem D3.ok (R : Rt) (N2 : Option Addr → Nat → Nat → Option Addr → Nat → Nat → Option Addr → Nat → Nat → Int → Hp → Prop) (fr : Fr) (h : Hp) (g : D3.g R N2 fr h) : den prog E (cAt C [true, false, false]) (Ex.then (L2.g N2) (Ex.inBlock 0 (retQ E [] R))) fr h := by
  obtain ⟨a0, l0, c0, e0, g⟩ := gSlice_elim g
  obtain ⟨a1, l1, c1, e1, g⟩ := gSlice_elim g
  obtain ⟨a2, l2, c2, e2, g⟩ := gSlice_elim g
  obtain ⟨x6, e6, g⟩ := gInt_elim g
  exact den_enter [(0, .slice a0 l0 c0), (1, .slice a1 l1 c1), (2, .slice a2 l2 c2), (6, .int .i64 x6)] ⟨e0, e1, e2, e6, trivial⟩ (by kernel_rfl) g
def L2.t (R : Rt) : Nat → Option Addr → Nat → Nat → Option Addr → Nat → Nat → Option Addr → Nat → Nat → Int → Hp → Prop
  | 0 => fun _ _ _ _ _ _ _ _ _ _ _ => False
  | n + 1 => fun a0 l0 c0 a1 l1 c1 a2 l2 c2 x6 h => D3.t R (L2.t R n) a0 l0 c0 a1 l1 c1 a2 l2 c2 x6 h
theorem L2.ok (R : Rt) (fr : Fr) (h : Hp) (g : L2.g (fun a0 l0 c0 a1 l1 c1 a2 l2 c2 x6 h => ∃ n, L2.t R n a0 l0 c0 a1 l1 c1 a2 l2 c2 x6 h) fr h) : den prog E (cAt C [true, false]) (Ex.inBlock 0 (retQ E [] R)) fr h := by
  obtain ⟨a0, l0, c0, e0, g⟩ := gSlice_elim g
  obtain ⟨a1, l1, c1, e1, g⟩ := gSlice_elim g
  obtain ⟨a2, l2, c2, e2, g⟩ := gSlice_elim g
  obtain ⟨x6, e6, g⟩ := gInt_elim g
  obtain ⟨n, g⟩ := g
  refine loop_ok (fun n => L2.g (L2.t R n)) (b := (cAt C [true, false, false])) (by kernel_rfl) (fun fr h g => ?_) (fun n => D3.ok R (L2.t R n)) n fr h (gSlice_intro e0 (gSlice_intro e1 (gSlice_intro e2 (gInt_intro e6 (g)))))
  obtain ⟨a0, l0, c0, e0, g⟩ := gSlice_elim g
  obtain ⟨a1, l1, c1, e1, g⟩ := gSlice_elim g
  obtain ⟨a2, l2, c2, e2, g⟩ := gSlice_elim g
  obtain ⟨x6, e6, g⟩ := gInt_elim g
  exact g
theorem B4.ok (R : Rt) (fr : Fr) (h : Hp) (g : L2.g (fun a0 l0 c0 a1 l1 c1 a2 l2 c2 x6 h => ∃ n, L2.t R n a0 l0 c0 a1 l1 c1 a2 l2 c2 x6 h) fr h) : den prog E (cAt C [true]) (retQ E [] R) fr h :=
  den_block (by kernel_rfl) (L2.ok R fr h g)
def D1.t (R : Rt) (a0 : Option Addr) (l0 : Nat) (c0 : Nat) (a1 : Option Addr) (l1 : Nat) (c1 : Nat) (a2 : Option Addr) (l2 : Nat) (c2 : Nat) (h : Hp) : Prop :=
  (∃ n, L2.t R n a0 l0 c0 a1 l1 c1 a2 l2 c2 0 h)
def D1.g (R : Rt) (fr : Fr) (h : Hp) : Prop := gSlice (fr 0) fun a0 l0 c0 => gSlice (fr 1) fun a1 l1 c1 => gSlice (fr 2) fun a2 l2 c2 => D1.t R a0 l0 c0 a1 l1 c1 a2 l2 c2 h
theorem D1.ok (R : Rt) (fr : Fr) (h : Hp) (g : D1.g R fr h) : den prog E C (retQ E [] R) fr h := by
  obtain ⟨a0, l0, c0, e0, g⟩ := gSlice_elim g
  obtain ⟨a1, l1, c1, e1, g⟩ := gSlice_elim g
  obtain ⟨a2, l2, c2, e2, g⟩ := gSlice_elim g
  exact den_cut 1 (r := (cAt C [true])) (by kernel_rfl) (B4.ok R) (den_enter [(0, .slice a0 l0 c0), (1, .slice a1 l1 c1), (2, .slice a2 l2 c2)] ⟨e0, e1, e2, trivial⟩ (by kernel_rfl) g)
def t (a0 : Option Addr) (l0 : Nat) (c0 : Nat) (a1 : Option Addr) (l1 : Nat) (c1 : Nat) (a2 : Option Addr) (l2 : Nat) (c2 : Nat) (h : Hp) (R : Rt) : Prop := D1.t R a0 l0 c0 a1 l1 c1 a2 l2 c2 h
theorem ok {a0 : Option Addr} {l0 : Nat} {c0 : Nat} {a1 : Option Addr} {l1 : Nat} {c1 : Nat} {a2 : Option Addr} {l2 : Nat} {c2 : Nat} {h : Hp} {R : Rt} (g : t a0 l0 c0 a1 l1 c1 a2 l2 c2 h R) : HC id #[.slice a0 l0 c0, .slice a1 l1 c1, .slice a2 l2 c2] h R :=
  calls_of_den' envOk (c := C) (rs := []) Tryz.func123 (by kernel_rfl) (by kernel_rfl) (by kernel_rfl) (args := [.slice a0 l0 c0, .slice a1 l1 c1, .slice a2 l2 c2]) (by kernel_rfl) (D1.ok R _ h (gSlice_intro rfl (gSlice_intro rfl (gSlice_intro rfl (g)))))
end natmul_slabs

namespace natmul_thirds
noncomputable def C : Code := bodyOf Tryz.f124
def D1.t (R : Rt) (a0 : Option Addr) (l0 : Nat) (c0 : Nat) (a1 : Option Addr) (l1 : Nat) (c1 : Nat) (a2 : Option Addr) (l2 : Nat) (c2 : Nat) (h : Hp) : Prop :=
  letK (IntKind.i64.wrap ((((l1 : Nat) : Int)) + 1)) fun n1 =>
  (2 : Int) ≠ 0 ∧ letK (IntKind.i64.wrap (Int.tdiv n1 2)) fun n2 =>
  HC natmul_cut.id #[.slice a1 l1 c1, .int .i64 n2] h fun v3 h4 =>
  gTup v3 fun y5 =>
  uncons y5 fun v6 y6 =>
  gSlice v6 fun a_7 l_7 c_7 =>
  uncons y6 fun v8 y8 =>
  gSlice v8 fun a_9 l_9 c_9 =>
  unnil y8 <| HC natmul_cut.id #[.slice a2 l2 c2, .int .i64 n2] h4 fun v10 h11 =>
  gTup v10 fun y12 =>
  uncons y12 fun v13 y13 =>
  gSlice v13 fun a_14 l_14 c_14 =>
  uncons y13 fun v15 y15 =>
  gSlice v15 fun a_16 l_16 c_16 =>
  unnil y15 <| HC natmul_product.id #[.slice a_7 l_7 c_7, .slice a_14 l_14 c_14] h11 fun v17 h18 =>
  gSlice v17 fun a_19 l_19 c_19 =>
  HC natmul_product.id #[.slice a_9 l_9 c_9, .slice a_16 l_16 c_16] h18 fun v20 h21 =>
  gSlice v20 fun a_22 l_22 c_22 =>
  HC natmul_sum.id #[.slice a_7 l_7 c_7, .slice a_9 l_9 c_9] h21 fun v23 h24 =>
  gSlice v23 fun a_25 l_25 c_25 =>
  HC natmul_sum.id #[.slice a_14 l_14 c_14, .slice a_16 l_16 c_16] h24 fun v26 h27 =>
  gSlice v26 fun a_28 l_28 c_28 =>
  HC natmul_product.id #[.slice a_25 l_25 c_25, .slice a_28 l_28 c_28] h27 fun v29 h30 =>
  gSlice v29 fun a_31 l_31 c_31 =>
  HC natmul_takeAway.id #[.slice a_31 l_31 c_31, .slice a_19 l_19 c_19] h30 fun v32 h33 =>
  gTup v32 fun y34 =>
  unnil y34 <| HC natmul_takeAway.id #[.slice a_31 l_31 c_31, .slice a_22 l_22 c_22] h33 fun v35 h36 =>
  gTup v35 fun y37 =>
  unnil y37 <| cpK h36 1 a0 l0 (.slice a_19 l_19 c_19) fun n38 h38 =>
  HC natmul_trim.id #[.slice a_31 l_31 c_31] h38 fun v39 h40 =>
  gSlice v39 fun a_41 l_41 c_41 =>
  HC natmul_addAt.id #[.slice a0 l0 c0, .slice a_41 l_41 c_41, .int .i64 n2] h40 fun v42 h43 =>
  gTup v42 fun y44 =>
  unnil y44 <| letK (IntKind.i64.wrap (2 * n2)) fun n45 =>
  HC natmul_addAt.id #[.slice a0 l0 c0, .slice a_22 l_22 c_22, .int .i64 n45] h43 fun v46 h47 =>
  gTup v46 fun y48 =>
  unnil y48 <| R (.tuple #[]) h47
def D1.g (R : Rt) (fr : Fr) (h : Hp) : Prop := gSlice (fr 0) fun a0 l0 c0 => gSlice (fr 1) fun a1 l1 c1 => gSlice (fr 2) fun a2 l2 c2 => D1.t R a0 l0 c0 a1 l1 c1 a2 l2 c2 h
theorem D1.ok (R : Rt) (fr : Fr) (h : Hp) (g : D1.g R fr h) : den prog E C (retQ E [] R) fr h := by
  obtain ⟨a0, l0, c0, e0, g⟩ := gSlice_elim g
  obtain ⟨a1, l1, c1, e1, g⟩ := gSlice_elim g
  obtain ⟨a2, l2, c2, e2, g⟩ := gSlice_elim g
  exact den_enter [(0, .slice a0 l0 c0), (1, .slice a1 l1 c1), (2, .slice a2 l2 c2)] ⟨e0, e1, e2, trivial⟩ (by kernel_rfl) g
def t (a0 : Option Addr) (l0 : Nat) (c0 : Nat) (a1 : Option Addr) (l1 : Nat) (c1 : Nat) (a2 : Option Addr) (l2 : Nat) (c2 : Nat) (h : Hp) (R : Rt) : Prop := D1.t R a0 l0 c0 a1 l1 c1 a2 l2 c2 h
theorem ok {a0 : Option Addr} {l0 : Nat} {c0 : Nat} {a1 : Option Addr} {l1 : Nat} {c1 : Nat} {a2 : Option Addr} {l2 : Nat} {c2 : Nat} {h : Hp} {R : Rt} (g : t a0 l0 c0 a1 l1 c1 a2 l2 c2 h R) : HC id #[.slice a0 l0 c0, .slice a1 l1 c1, .slice a2 l2 c2] h R :=
  calls_of_den' envOk (c := C) (rs := []) Tryz.func124 (by kernel_rfl) (by kernel_rfl) (by kernel_rfl) (args := [.slice a0 l0 c0, .slice a1 l1 c1, .slice a2 l2 c2]) (by kernel_rfl) (D1.ok R _ h (gSlice_intro rfl (gSlice_intro rfl (gSlice_intro rfl (g)))))
end natmul_thirds


namespace natmul_addAt
noncomputable def C : Code := bodyOf Tryz.f126
def L3.g (N : Option Addr → Nat → Nat → Int → Int → Hp → Prop) (fr : Fr) (h : Hp) : Prop := gSlice (fr 0) fun a0 l0 c0 => gInt .u64 (fr 6) fun x6 => gInt .i64 (fr 8) fun x8 => N a0 l0 c0 x6 x8 h
def D4.t (R : Rt) (N3 : Option Addr → Nat → Nat → Int → Int → Hp → Prop) (a0 : Option Addr) (l0 : Nat) (c0 : Nat) (x6 : Int) (x8 : Int) (h : Hp) : Prop :=
  cond (decide (x6 > 0)) (idxK a0 l0 x8 1 fun q2 =>
  ldK h q2 fun v3 =>
  gInt .u64 v3 fun x_4 =>
  addK x_4 0 x6 fun n5 m5 =>
  idxK a0 l0 x8 1 fun q6 =>
  stK h q6 (.int .u64 n5) fun h7 =>
  letK (IntKind.i64.wrap (x8 + 1)) fun n8 =>
  N3 a0 l0 c0 m5 n8 h7) (R (.tuple #[]) h)
def D4.g (R : Rt) (N3 : Option Addr → Nat → Nat → Int → Int → Hp → Prop) (fr : Fr) (h : Hp) : Prop := gSlice (fr 0) fun a0 l0 c0 => gInt .u64 (fr 6) fun x6 => gInt .i64 (fr 8) fun x8 => D4.t R N3 a0 l0 c0 x6 x8 h
theorem D4.ok (R : Rt) (N3 : Option Addr → Nat → Nat → Int → Int → Hp → Prop) (fr : Fr) (h : Hp) (g : D4.g R N3 fr h) : den prog E (cAt C [true, true, true, false, false]) (Ex.then (L3.g N3) (Ex.inBlock 2 (retQ E [] R))) fr h := by
  obtain ⟨a0, l0, c0, e0, g⟩ := gSlice_elim g
  obtain ⟨x6, e6, g⟩ := gInt_elim g
  obtain ⟨x8, e8, g⟩ := gInt_elim g
  exact den_enter [(0, .slice a0 l0 c0), (6, .int .u64 x6), (8, .int .i64 x8)] ⟨e0, e6, e8, trivial⟩ (by kernel_rfl) g
def L3.t (R : Rt) : Nat → Option Addr → Nat → Nat → Int → Int → Hp → Prop
  | 0 => fun _ _ _ _ _ _ => False
  | n + 1 => fun a0 l0 c0 x6 x8 h => D4.t R (L3.t R n) a0 l0 c0 x6 x8 h
theorem L3.ok (R : Rt) (fr : Fr) (h : Hp) (g : L3.g (fun a0 l0 c0 x6 x8 h => ∃ n, L3.t R n a0 l0 c0 x6 x8 h) fr h) : den prog E (cAt C [true, true, true, false]) (Ex.inBlock 2 (retQ E [] R)) fr h := by
  obtain ⟨a0, l0, c0, e0, g⟩ := gSlice_elim g
  obtain ⟨x6, e6, g⟩ := gInt_elim g
  obtain ⟨x8, e8, g⟩ := gInt_elim g
  obtain ⟨n, g⟩ := g
  refine loop_ok (fun n => L3.g (L3.t R n)) (b := (cAt C [true, true, true, false, false])) (by kernel_rfl) (fun fr h g => ?_) (fun n => D4.ok R (L3.t R n)) n fr h (gSlice_intro e0 (gInt_intro e6 (gInt_intro e8 (g))))
  obtain ⟨a0, l0, c0, e0, g⟩ := gSlice_elim g
  obtain ⟨x6, e6, g⟩ := gInt_elim g
  obtain ⟨x8, e8, g⟩ := gInt_elim g
  exact g
theorem B5.ok (R : Rt) (fr : Fr) (h : Hp) (g : L3.g (fun a0 l0 c0 x6 x8 h => ∃ n, L3.t R n a0 l0 c0 x6 x8 h) fr h) : den prog E (cAt C [true, true, true]) (retQ E [] R) fr h :=
  den_block (by kernel_rfl) (L3.ok R fr h g)
def D2.t (R : Rt) (a0 : Option Addr) (l0 : Nat) (c0 : Nat) (a1 : Option Addr) (l1 : Nat) (c1 : Nat) (x2 : Int) (x6 : Int) (h : Hp) : Prop :=
  letK (IntKind.i64.wrap (x2 + (((l1 : Nat) : Int)))) fun n1 => (∃ n, L3.t R n a0 l0 c0 x6 n1 h)
def D2.g (R : Rt) (fr : Fr) (h : Hp) : Prop := gSlice (fr 0) fun a0 l0 c0 => gSlice (fr 1) fun a1 l1 c1 => gInt .i64 (fr 2) fun x2 => gInt .u64 (fr 6) fun x6 => D2.t R a0 l0 c0 a1 l1 c1 x2 x6 h
theorem D2.ok (R : Rt) (fr : Fr) (h : Hp) (g : D2.g R fr h) : den prog E (cAt C [true, true]) (retQ E [] R) fr h := by
  obtain ⟨a0, l0, c0, e0, g⟩ := gSlice_elim g
  obtain ⟨a1, l1, c1, e1, g⟩ := gSlice_elim g
  obtain ⟨x2, e2, g⟩ := gInt_elim g
  obtain ⟨x6, e6, g⟩ := gInt_elim g
  exact den_cut 1 (r := (cAt C [true, true, true])) (by kernel_rfl) (B5.ok R) (den_enter [(0, .slice a0 l0 c0), (1, .slice a1 l1 c1), (2, .int .i64 x2), (6, .int .u64 x6)] ⟨e0, e1, e2, e6, trivial⟩ (by kernel_rfl) g)
def L7.g (N : Option Addr → Nat → Nat → Option Addr → Nat → Nat → Int → Int → Int → Int → Hp → Prop) (fr : Fr) (h : Hp) : Prop := gSlice (fr 0) fun a0 l0 c0 => gSlice (fr 1) fun a1 l1 c1 => gInt .i64 (fr 2) fun x2 => gInt .u64 (fr 6) fun x6 => gInt .i64 (fr 10) fun x10 => gInt .i64 (fr 11) fun x11 => N a0 l0 c0 a1 l1 c1 x2 x6 x10 x11 h
def D8.t (R : Rt) (N7 : Option Addr → Nat → Nat → Option Addr → Nat → Nat → Int → Int → Int → Int → Hp → Prop) (a0 : Option Addr) (l0 : Nat) (c0 : Nat) (a1 : Option Addr) (l1 : Nat) (c1 : Nat) (x2 : Int) (x6 : Int) (x10 : Int) (x11 : Int) (h : Hp) : Prop :=
  cond (decide (x11 < x10)) (letK (IntKind.i64.wrap (x2 + x11)) fun n9 =>
  letK (IntKind.i64.wrap (x2 + x11)) fun n10 =>
  idxK a0 l0 n10 1 fun q11 =>
  ldK h q11 fun v12 =>
  gInt .u64 v12 fun x_13 =>
  idxK a1 l1 x11 1 fun q14 =>
  ldK h q14 fun v15 =>
  gInt .u64 v15 fun x_16 =>
  addK x_13 x_16 x6 fun n17 m17 =>
  idxK a0 l0 n9 1 fun q18 =>
  stK h q18 (.int .u64 n17) fun h19 =>
  letK (IntKind.i64.wrap (x11 + 1)) fun n20 =>
  N7 a0 l0 c0 a1 l1 c1 x2 m17 x10 n20 h19) (D2.t R a0 l0 c0 a1 l1 c1 x2 x6 h)
def D8.g (R : Rt) (N7 : Option Addr → Nat → Nat → Option Addr → Nat → Nat → Int → Int → Int → Int → Hp → Prop) (fr : Fr) (h : Hp) : Prop := gSlice (fr 0) fun a0 l0 c0 => gSlice (fr 1) fun a1 l1 c1 => gInt .i64 (fr 2) fun x2 => gInt .u64 (fr 6) fun x6 => gInt .i64 (fr 10) fun x10 => gInt .i64 (fr 11) fun x11 => D8.t R N7 a0 l0 c0 a1 l1 c1 x2 x6 x10 x11 h
theorem D8.ok (R : Rt) (N7 : Option Addr → Nat → Nat → Option Addr → Nat → Nat → Int → Int → Int → Int → Hp → Prop) (fr : Fr) (h : Hp) (g : D8.g R N7 fr h) : den prog E (cAt C [true, false, true, false, false]) (Ex.then (L7.g N7) (Ex.inBlock 0 (Ex.then (D2.g R) (retQ E [] R)))) fr h := by
  obtain ⟨a0, l0, c0, e0, g⟩ := gSlice_elim g
  obtain ⟨a1, l1, c1, e1, g⟩ := gSlice_elim g
  obtain ⟨x2, e2, g⟩ := gInt_elim g
  obtain ⟨x6, e6, g⟩ := gInt_elim g
  obtain ⟨x10, e10, g⟩ := gInt_elim g
  obtain ⟨x11, e11, g⟩ := gInt_elim g
  exact den_enter [(0, .slice a0 l0 c0), (1, .slice a1 l1 c1), (2, .int .i64 x2), (6, .int .u64 x6), (10, .int .i64 x10), (11, .int .i64 x11)] ⟨e0, e1, e2, e6, e10, e11, trivial⟩ (by kernel_rfl) g
def L7.t (R : Rt) : Nat → Option Addr → Nat → Nat → Option Addr → Nat → Nat → Int → Int → Int → Int → Hp → Prop
  | 0 => fun _ _ _ _ _ _ _ _ _ _ _ => False
  | n + 1 => fun a0 l0 c0 a1 l1 c1 x2 x6 x10 x11 h => D8.t R (L7.t R n) a0 l0 c0 a1 l1 c1 x2 x6 x10 x11 h
theorem L7.ok (R : Rt) (fr : Fr) (h : Hp) (g : L7.g (fun a0 l0 c0 a1 l1 c1 x2 x6 x10 x11 h => ∃ n, L7.t R n a0 l0 c0 a1 l1 c1 x2 x6 x10 x11 h) fr h) : den prog E (cAt C [true, false, true, false]) (Ex.inBlock 0 (Ex.then (D2.g R) (retQ E [] R))) fr h := by
  obtain ⟨a0, l0, c0, e0, g⟩ := gSlice_elim g
  obtain ⟨a1, l1, c1, e1, g⟩ := gSlice_elim g
  obtain ⟨x2, e2, g⟩ := gInt_elim g
  obtain ⟨x6, e6, g⟩ := gInt_elim g
  obtain ⟨x10, e10, g⟩ := gInt_elim g
  obtain ⟨x11, e11, g⟩ := gInt_elim g
  obtain ⟨n, g⟩ := g
  refine loop_ok (fun n => L7.g (L7.t R n)) (b := (cAt C [true, false, true, false, false])) (by kernel_rfl) (fun fr h g => ?_) (fun n => D8.ok R (L7.t R n)) n fr h (gSlice_intro e0 (gSlice_intro e1 (gInt_intro e2 (gInt_intro e6 (gInt_intro e10 (gInt_intro e11 (g)))))))
  obtain ⟨a0, l0, c0, e0, g⟩ := gSlice_elim g
  obtain ⟨a1, l1, c1, e1, g⟩ := gSlice_elim g
  obtain ⟨x2, e2, g⟩ := gInt_elim g
  obtain ⟨x6, e6, g⟩ := gInt_elim g
  obtain ⟨x10, e10, g⟩ := gInt_elim g
  obtain ⟨x11, e11, g⟩ := gInt_elim g
  exact g
theorem B9.ok (R : Rt) (fr : Fr) (h : Hp) (g : L7.g (fun a0 l0 c0 a1 l1 c1 x2 x6 x10 x11 h => ∃ n, L7.t R n a0 l0 c0 a1 l1 c1 x2 x6 x10 x11 h) fr h) : den prog E (cAt C [true, false, true]) (Ex.then (D2.g R) (retQ E [] R)) fr h :=
  den_block (by kernel_rfl) (L7.ok R fr h g)
def D6.t (R : Rt) (a0 : Option Addr) (l0 : Nat) (c0 : Nat) (a1 : Option Addr) (l1 : Nat) (c1 : Nat) (x2 : Int) (x6 : Int) (h : Hp) : Prop :=
  (∃ n, L7.t R n a0 l0 c0 a1 l1 c1 x2 x6 (((l1 : Nat) : Int)) 0 h)
def D6.g (R : Rt) (fr : Fr) (h : Hp) : Prop := gSlice (fr 0) fun a0 l0 c0 => gSlice (fr 1) fun a1 l1 c1 => gInt .i64 (fr 2) fun x2 => gInt .u64 (fr 6) fun x6 => D6.t R a0 l0 c0 a1 l1 c1 x2 x6 h
theorem D6.ok (R : Rt) (fr : Fr) (h : Hp) (g : D6.g R fr h) : den prog E (cAt C [true, false]) (Ex.then (D2.g R) (retQ E [] R)) fr h := by
  obtain ⟨a0, l0, c0, e0, g⟩ := gSlice_elim g
  obtain ⟨a1, l1, c1, e1, g⟩ := gSlice_elim g
  obtain ⟨x2, e2, g⟩ := gInt_elim g
  obtain ⟨x6, e6, g⟩ := gInt_elim g
  exact den_cut 1 (r := (cAt C [true, false, true])) (by kernel_rfl) (B9.ok R) (den_enter [(0, .slice a0 l0 c0), (1, .slice a1 l1 c1), (2, .int .i64 x2), (6, .int .u64 x6)] ⟨e0, e1, e2, e6, trivial⟩ (by kernel_rfl) g)
theorem W10.ok (R : Rt) (fr : Fr) (h : Hp) (g : D6.g R fr h) : den prog E (cAt C [true]) (retQ E [] R) fr h :=
  den_then (by kernel_rfl) (D2.ok R) (D6.ok R fr h g)
def D1.t (R : Rt) (a0 : Option Addr) (l0 : Nat) (c0 : Nat) (a1 : Option Addr) (l1 : Nat) (c1 : Nat) (x2 : Int) (h : Hp) : Prop :=
  D6.t R a0 l0 c0 a1 l1 c1 x2 0 h
def D1.g (R : Rt) (fr : Fr) (h : Hp) : Prop := gSlice (fr 0) fun a0 l0 c0 => gSlice (fr 1) fun a1 l1 c1 => gInt .i64 (fr 2) fun x2 => D1.t R a0 l0 c0 a1 l1 c1 x2 h
theorem D1.ok (R : Rt) (fr : Fr) (h : Hp) (g : D1.g R fr h) : den prog E C (retQ E [] R) fr h := by
  obtain ⟨a0, l0, c0, e0, g⟩ := gSlice_elim g
  obtain ⟨a1, l1, c1, e1, g⟩ := gSlice_elim g
  obtain ⟨x2, e2, g⟩ := gInt_elim g
  exact den_cut 1 (r := (cAt C [true])) (by kernel_rfl) (W10.ok R) (den_enter [(0, .slice a0 l0 c0), (1, .slice a1 l1 c1), (2, .int .i64 x2)] ⟨e0, e1, e2, trivial⟩ (by kernel_rfl) g)
def t (a0 : Option Addr) (l0 : Nat) (c0 : Nat) (a1 : Option Addr) (l1 : Nat) (c1 : Nat) (x2 : Int) (h : Hp) (R : Rt) : Prop := D1.t R a0 l0 c0 a1 l1 c1 x2 h
theorem ok {a0 : Option Addr} {l0 : Nat} {c0 : Nat} {a1 : Option Addr} {l1 : Nat} {c1 : Nat} {x2 : Int} {h : Hp} {R : Rt} (g : t a0 l0 c0 a1 l1 c1 x2 h R) : HC id #[.slice a0 l0 c0, .slice a1 l1 c1, .int .i64 x2] h R :=
  calls_of_den' envOk (c := C) (rs := []) Tryz.func126 (by kernel_rfl) (by kernel_rfl) (by kernel_rfl) (args := [.slice a0 l0 c0, .slice a1 l1 c1, .int .i64 x2]) (by kernel_rfl) (D1.ok R _ h (gSlice_intro rfl (gSlice_intro rfl (gInt_intro rfl (g)))))
end natmul_addAt

namespace natmul_cut
noncomputable def C : Code := bodyOf Tryz.f127
def D1.t (R : Rt) (a0 : Option Addr) (l0 : Nat) (c0 : Nat) (x1 : Int) (h : Hp) : Prop :=
  cond (decide (x1 ≥ (((l0 : Nat) : Int)))) (slK 1 a0 l0 c0 none (some (.int .i64 (((l0 : Nat) : Int)))) (some (.int .i64 (((l0 : Nat) : Int)))) fun a_1 l_1 c_1 =>
  HC natmul_trim.id #[.slice a_1 l_1 c_1] h fun v2 h3 =>
  gSlice v2 fun a_4 l_4 c_4 =>
  R (.tuple #[.slice a_4 l_4 c_4, .slice none 0 0]) h3) (slK 1 a0 l0 c0 none (some (.int .i64 x1)) (some (.int .i64 x1)) fun a_5 l_5 c_5 =>
  HC natmul_trim.id #[.slice a_5 l_5 c_5] h fun v6 h7 =>
  gSlice v6 fun a_8 l_8 c_8 =>
  slK 1 a0 l0 c0 (some (.int .i64 x1)) (some (.int .i64 (((l0 : Nat) : Int)))) (some (.int .i64 (((l0 : Nat) : Int)))) fun a_9 l_9 c_9 =>
  R (.tuple #[.slice a_8 l_8 c_8, .slice a_9 l_9 c_9]) h7)
def D1.g (R : Rt) (fr : Fr) (h : Hp) : Prop := gSlice (fr 0) fun a0 l0 c0 => gInt .i64 (fr 1) fun x1 => D1.t R a0 l0 c0 x1 h
theorem D1.ok (R : Rt) (fr : Fr) (h : Hp) (g : D1.g R fr h) : den prog E C (retQ E [.tmp 4, .tmp 5] R) fr h := by
  obtain ⟨a0, l0, c0, e0, g⟩ := gSlice_elim g
  obtain ⟨x1, e1, g⟩ := gInt_elim g
  exact den_enter [(0, .slice a0 l0 c0), (1, .int .i64 x1)] ⟨e0, e1, trivial⟩ (by kernel_rfl) g
def t (a0 : Option Addr) (l0 : Nat) (c0 : Nat) (x1 : Int) (h : Hp) (R : Rt) : Prop := D1.t R a0 l0 c0 x1 h
theorem ok {a0 : Option Addr} {l0 : Nat} {c0 : Nat} {x1 : Int} {h : Hp} {R : Rt} (g : t a0 l0 c0 x1 h R) : HC id #[.slice a0 l0 c0, .int .i64 x1] h R :=
  calls_of_den' envOk (c := C) (rs := [.tmp 4, .tmp 5]) Tryz.func127 (by kernel_rfl) (by kernel_rfl) (by kernel_rfl) (args := [.slice a0 l0 c0, .int .i64 x1]) (by kernel_rfl) (D1.ok R _ h (gSlice_intro rfl (gInt_intro rfl (g))))
end natmul_cut

namespace natmul_sum
noncomputable def C : Code := bodyOf Tryz.f128
def D2.t (R : Rt) (a0 : Option Addr) (l0 : Nat) (c0 : Nat) (a1 : Option Addr) (l1 : Nat) (c1 : Nat) (h : Hp) : Prop :=
  letK (IntKind.i64.wrap ((((l0 : Nat) : Int)) + 1)) fun n1 =>
  mkK h 35 T35 n1 n1 fun q2 h3 =>
  cpK h3 1 (some q2) n1.toNat (.slice a0 l0 c0) fun n4 h4 =>
  HC natmul_addAt.id #[.slice (some q2) n1.toNat n1.toNat, .slice a1 l1 c1, .int .i64 0] h4 fun v5 h6 =>
  gTup v5 fun y7 =>
  unnil y7 <| HC natmul_trim.id #[.slice (some q2) n1.toNat n1.toNat] h6 fun v8 h9 =>
  gSlice v8 fun a_10 l_10 c_10 =>
  R (.slice a_10 l_10 c_10) h9
def D2.g (R : Rt) (fr : Fr) (h : Hp) : Prop := gSlice (fr 0) fun a0 l0 c0 => gSlice (fr 1) fun a1 l1 c1 => D2.t R a0 l0 c0 a1 l1 c1 h
theorem D2.ok (R : Rt) (fr : Fr) (h : Hp) (g : D2.g R fr h) : den prog E (cAt C [true, true]) (retQ E [.tmp 4] R) fr h := by
  obtain ⟨a0, l0, c0, e0, g⟩ := gSlice_elim g
  obtain ⟨a1, l1, c1, e1, g⟩ := gSlice_elim g
  exact den_enter [(0, .slice a0 l0 c0), (1, .slice a1 l1 c1)] ⟨e0, e1, trivial⟩ (by kernel_rfl) g
def D1.t (R : Rt) (a0 : Option Addr) (l0 : Nat) (c0 : Nat) (a1 : Option Addr) (l1 : Nat) (c1 : Nat) (h : Hp) : Prop :=
  cond (decide ((((l0 : Nat) : Int)) < (((l1 : Nat) : Int)))) (D2.t R a1 l1 c1 a0 l0 c0 h) (D2.t R a0 l0 c0 a1 l1 c1 h)
def D1.g (R : Rt) (fr : Fr) (h : Hp) : Prop := gSlice (fr 0) fun a0 l0 c0 => gSlice (fr 1) fun a1 l1 c1 => D1.t R a0 l0 c0 a1 l1 c1 h
theorem D1.ok (R : Rt) (fr : Fr) (h : Hp) (g : D1.g R fr h) : den prog E C (retQ E [.tmp 4] R) fr h := by
  obtain ⟨a0, l0, c0, e0, g⟩ := gSlice_elim g
  obtain ⟨a1, l1, c1, e1, g⟩ := gSlice_elim g
  exact den_cut 2 (r := (cAt C [true, true])) (by kernel_rfl) (D2.ok R) (den_enter [(0, .slice a0 l0 c0), (1, .slice a1 l1 c1)] ⟨e0, e1, trivial⟩ (by kernel_rfl) g)
def t (a0 : Option Addr) (l0 : Nat) (c0 : Nat) (a1 : Option Addr) (l1 : Nat) (c1 : Nat) (h : Hp) (R : Rt) : Prop := D1.t R a0 l0 c0 a1 l1 c1 h
theorem ok {a0 : Option Addr} {l0 : Nat} {c0 : Nat} {a1 : Option Addr} {l1 : Nat} {c1 : Nat} {h : Hp} {R : Rt} (g : t a0 l0 c0 a1 l1 c1 h R) : HC id #[.slice a0 l0 c0, .slice a1 l1 c1] h R :=
  calls_of_den' envOk (c := C) (rs := [.tmp 4]) Tryz.func128 (by kernel_rfl) (by kernel_rfl) (by kernel_rfl) (args := [.slice a0 l0 c0, .slice a1 l1 c1]) (by kernel_rfl) (D1.ok R _ h (gSlice_intro rfl (gSlice_intro rfl (g))))
end natmul_sum

namespace natmul_takeAway
noncomputable def C : Code := bodyOf Tryz.f129
def L3.g (N : Option Addr → Nat → Nat → Int → Int → Hp → Prop) (fr : Fr) (h : Hp) : Prop := gSlice (fr 0) fun a0 l0 c0 => gInt .u64 (fr 4) fun x4 => gInt .i64 (fr 6) fun x6 => N a0 l0 c0 x4 x6 h
def D4.t (R : Rt) (N3 : Option Addr → Nat → Nat → Int → Int → Hp → Prop) (a0 : Option Addr) (l0 : Nat) (c0 : Nat) (x4 : Int) (x6 : Int) (h : Hp) : Prop :=
  cond (decide (x4 > 0)) (idxK a0 l0 x6 1 fun q1 =>
  ldK h q1 fun v2 =>
  gInt .u64 v2 fun x_3 =>
  subK x_3 0 x4 fun n4 m4 =>
  idxK a0 l0 x6 1 fun q5 =>
  stK h q5 (.int .u64 n4) fun h6 =>
  letK (IntKind.i64.wrap (x6 + 1)) fun n7 =>
  N3 a0 l0 c0 m4 n7 h6) (R (.tuple #[]) h)
def D4.g (R : Rt) (N3 : Option Addr → Nat → Nat → Int → Int → Hp → Prop) (fr : Fr) (h : Hp) : Prop := gSlice (fr 0) fun a0 l0 c0 => gInt .u64 (fr 4) fun x4 => gInt .i64 (fr 6) fun x6 => D4.t R N3 a0 l0 c0 x4 x6 h
theorem D4.ok (R : Rt) (N3 : Option Addr → Nat → Nat → Int → Int → Hp → Prop) (fr : Fr) (h : Hp) (g : D4.g R N3 fr h) : den prog E (cAt C [true, true, true, false, false]) (Ex.then (L3.g N3) (Ex.inBlock 2 (retQ E [] R))) fr h := by
  obtain ⟨a0, l0, c0, e0, g⟩ := gSlice_elim g
  obtain ⟨x4, e4, g⟩ := gInt_elim g
  obtain ⟨x6, e6, g⟩ := gInt_elim g
  exact den_enter [(0, .slice a0 l0 c0), (4, .int .u64 x4), (6, .int .i64 x6)] ⟨e0, e4, e6, trivial⟩ (by kernel_rfl) g
def L3.t (R : Rt) : Nat → Option Addr → Nat → Nat → Int → Int → Hp → Prop
  | 0 => fun _ _ _ _ _ _ => False
  | n + 1 => fun a0 l0 c0 x4 x6 h => D4.t R (L3.t R n) a0 l0 c0 x4 x6 h
theorem L3.ok (R : Rt) (fr : Fr) (h : Hp) (g : L3.g (fun a0 l0 c0 x4 x6 h => ∃ n, L3.t R n a0 l0 c0 x4 x6 h) fr h) : den prog E (cAt C [true, true, true, false]) (Ex.inBlock 2 (retQ E [] R)) fr h := by
  obtain ⟨a0, l0, c0, e0, g⟩ := gSlice_elim g
  obtain ⟨x4, e4, g⟩ := gInt_elim g
  obtain ⟨x6, e6, g⟩ := gInt_elim g
  obtain ⟨n, g⟩ := g
  refine loop_ok (fun n => L3.g (L3.t R n)) (b := (cAt C [true, true, true, false, false])) (by kernel_rfl) (fun fr h g => ?_) (fun n => D4.ok R (L3.t R n)) n fr h (gSlice_intro e0 (gInt_intro e4 (gInt_intro e6 (g))))
  obtain ⟨a0, l0, c0, e0, g⟩ := gSlice_elim g
  obtain ⟨x4, e4, g⟩ := gInt_elim g
  obtain ⟨x6, e6, g⟩ := gInt_elim g
  exact g
theorem B5.ok (R : Rt) (fr : Fr) (h : Hp) (g : L3.g (fun a0 l0 c0 x4 x6 h => ∃ n, L3.t R n a0 l0 c0 x4 x6 h) fr h) : den prog E (cAt C [true, true, true]) (retQ E [] R) fr h :=
  den_block (by kernel_rfl) (L3.ok R fr h g)
def D2.t (R : Rt) (a0 : Option Addr) (l0 : Nat) (c0 : Nat) (a1 : Option Addr) (l1 : Nat) (c1 : Nat) (x4 : Int) (h : Hp) : Prop :=
  (∃ n, L3.t R n a0 l0 c0 x4 (((l1 : Nat) : Int)) h)
def D2.g (R : Rt) (fr : Fr) (h : Hp) : Prop := gSlice (fr 0) fun a0 l0 c0 => gSlice (fr 1) fun a1 l1 c1 => gInt .u64 (fr 4) fun x4 => D2.t R a0 l0 c0 a1 l1 c1 x4 h
theorem D2.ok (R : Rt) (fr : Fr) (h : Hp) (g : D2.g R fr h) : den prog E (cAt C [true, true]) (retQ E [] R) fr h := by
  obtain ⟨a0, l0, c0, e0, g⟩ := gSlice_elim g
  obtain ⟨a1, l1, c1, e1, g⟩ := gSlice_elim g
  obtain ⟨x4, e4, g⟩ := gInt_elim g
  exact den_cut 1 (r := (cAt C [true, true, true])) (by kernel_rfl) (B5.ok R) (den_enter [(0, .slice a0 l0 c0), (1, .slice a1 l1 c1), (4, .int .u64 x4)] ⟨e0, e1, e4, trivial⟩ (by kernel_rfl) g)
def L7.g (N : Option Addr → Nat → Nat → Option Addr → Nat → Nat → Int → Int → Int → Hp → Prop) (fr : Fr) (h : Hp) : Prop := gSlice (fr 0) fun a0 l0 c0 => gSlice (fr 1) fun a1 l1 c1 => gInt .u64 (fr 4) fun x4 => gInt .i64 (fr 8) fun x8 => gInt .i64 (fr 9) fun x9 => N a0 l0 c0 a1 l1 c1 x4 x8 x9 h
def D8.t (R : Rt) (N7 : Option Addr → Nat → Nat → Option Addr → Nat → Nat → Int → Int → Int → Hp → Prop) (a0 : Option Addr) (l0 : Nat) (c0 : Nat) (a1 : Option Addr) (l1 : Nat) (c1 : Nat) (x4 : Int) (x8 : Int) (x9 : Int) (h : Hp) : Prop :=
  cond (decide (x9 < x8)) (idxK a0 l0 x9 1 fun q8 =>
  ldK h q8 fun v9 =>
  gInt .u64 v9 fun x_10 =>
  idxK a1 l1 x9 1 fun q11 =>
  ldK h q11 fun v12 =>
  gInt .u64 v12 fun x_13 =>
  subK x_10 x_13 x4 fun n14 m14 =>
  idxK a0 l0 x9 1 fun q15 =>
  stK h q15 (.int .u64 n14) fun h16 =>
  letK (IntKind.i64.wrap (x9 + 1)) fun n17 =>
  N7 a0 l0 c0 a1 l1 c1 m14 x8 n17 h16) (D2.t R a0 l0 c0 a1 l1 c1 x4 h)
def D8.g (R : Rt) (N7 : Option Addr → Nat → Nat → Option Addr → Nat → Nat → Int → Int → Int → Hp → Prop) (fr : Fr) (h : Hp) : Prop := gSlice (fr 0) fun a0 l0 c0 => gSlice (fr 1) fun a1 l1 c1 => gInt .u64 (fr 4) fun x4 => gInt .i64 (fr 8) fun x8 => gInt .i64 (fr 9) fun x9 => D8.t R N7 a0 l0 c0 a1 l1 c1 x4 x8 x9 h
theorem D8.ok (R : Rt) (N7 : Option Addr → Nat → Nat → Option Addr → Nat → Nat → Int → Int → Int → Hp → Prop) (fr : Fr) (h : Hp) (g : D8.g R N7 fr h) : den prog E (cAt C [true, false, true, false, false]) (Ex.then (L7.g N7) (Ex.inBlock 0 (Ex.then (D2.g R) (retQ E [] R)))) fr h := by
  obtain ⟨a0, l0, c0, e0, g⟩ := gSlice_elim g
  obtain ⟨a1, l1, c1, e1, g⟩ := gSlice_elim g
  obtain ⟨x4, e4, g⟩ := gInt_elim g
  obtain ⟨x8, e8, g⟩ := gInt_elim g
  obtain ⟨x9, e9, g⟩ := gInt_elim g
  exact den_enter [(0, .slice a0 l0 c0), (1, .slice a1 l1 c1), (4, .int .u64 x4), (8, .int .i64 x8), (9, .int .i64 x9)] ⟨e0, e1, e4, e8, e9, trivial⟩ (by kernel_rfl) g
def L7.t (R : Rt) : Nat → Option Addr → Nat → Nat → Option Addr → Nat → Nat → Int → Int → Int → Hp → Prop
  | 0 => fun _ _ _ _ _ _ _ _ _ _ => False
  | n + 1 => fun a0 l0 c0 a1 l1 c1 x4 x8 x9 h => D8.t R (L7.t R n) a0 l0 c0 a1 l1 c1 x4 x8 x9 h
theorem L7.ok (R : Rt) (fr : Fr) (h : Hp) (g : L7.g (fun a0 l0 c0 a1 l1 c1 x4 x8 x9 h => ∃ n, L7.t R n a0 l0 c0 a1 l1 c1 x4 x8 x9 h) fr h) : den prog E (cAt C [true, false, true, false]) (Ex.inBlock 0 (Ex.then (D2.g R) (retQ E [] R))) fr h := by
  obtain ⟨a0, l0, c0, e0, g⟩ := gSlice_elim g
  obtain ⟨a1, l1, c1, e1, g⟩ := gSlice_elim g
  obtain ⟨x4, e4, g⟩ := gInt_elim g
  obtain ⟨x8, e8, g⟩ := gInt_elim g
  obtain ⟨x9, e9, g⟩ := gInt_elim g
  obtain ⟨n, g⟩ := g
  refine loop_ok (fun n => L7.g (L7.t R n)) (b := (cAt C [true, false, true, false, false])) (by kernel_rfl) (fun fr h g => ?_) (fun n => D8.ok R (L7.t R n)) n fr h (gSlice_intro e0 (gSlice_intro e1 (gInt_intro e4 (gInt_intro e8 (gInt_intro e9 (g))))))
  obtain ⟨a0, l0, c0, e0, g⟩ := gSlice_elim g
  obtain ⟨a1, l1, c1, e1, g⟩ := gSlice_elim g
  obtain ⟨x4, e4, g⟩ := gInt_elim g
  obtain ⟨x8, e8, g⟩ := gInt_elim g
  obtain ⟨x9, e9, g⟩ := gInt_elim g
  exact g
theorem B9.ok (R : Rt) (fr : Fr) (h : Hp) (g : L7.g (fun a0 l0 c0 a1 l1 c1 x4 x8 x9 h => ∃ n, L7.t R n a0 l0 c0 a1 l1 c1 x4 x8 x9 h) fr h) : den prog E (cAt C [true, false, true]) (Ex.then (D2.g R) (retQ E [] R)) fr h :=
  den_block (by kernel_rfl) (L7.ok R fr h g)
def D6.t (R : Rt) (a0 : Option Addr) (l0 : Nat) (c0 : Nat) (a1 : Option Addr) (l1 : Nat) (c1 : Nat) (x4 : Int) (h : Hp) : Prop :=
  (∃ n, L7.t R n a0 l0 c0 a1 l1 c1 x4 (((l1 : Nat) : Int)) 0 h)
def D6.g (R : Rt) (fr : Fr) (h : Hp) : Prop := gSlice (fr 0) fun a0 l0 c0 => gSlice (fr 1) fun a1 l1 c1 => gInt .u64 (fr 4) fun x4 => D6.t R a0 l0 c0 a1 l1 c1 x4 h
theorem D6.ok (R : Rt) (fr : Fr) (h : Hp) (g : D6.g R fr h) : den prog E (cAt C [true, false]) (Ex.then (D2.g R) (retQ E [] R)) fr h := by
  obtain ⟨a0, l0, c0, e0, g⟩ := gSlice_elim g
  obtain ⟨a1, l1, c1, e1, g⟩ := gSlice_elim g
  obtain ⟨x4, e4, g⟩ := gInt_elim g
  exact den_cut 1 (r := (cAt C [true, false, true])) (by kernel_rfl) (B9.ok R) (den_enter [(0, .slice a0 l0 c0), (1, .slice a1 l1 c1), (4, .int .u64 x4)] ⟨e0, e1, e4, trivial⟩ (by kernel_rfl) g)
theorem W10.ok (R : Rt) (fr : Fr) (h : Hp) (g : D6.g R fr h) : den prog E (cAt C [true]) (retQ E [] R) fr h :=
  den_then (by kernel_rfl) (D2.ok R) (D6.ok R fr h g)
def D1.t (R : Rt) (a0 : Option Addr) (l0 : Nat) (c0 : Nat) (a1 : Option Addr) (l1 : Nat) (c1 : Nat) (h : Hp) : Prop :=
  D6.t R a0 l0 c0 a1 l1 c1 0 h
def D1.g (R : Rt) (fr : Fr) (h : Hp) : Prop := gSlice (fr 0) fun a0 l0 c0 => gSlice (fr 1) fun a1 l1 c1 => D1.t R a0 l0 c0 a1 l1 c1 h
theorem D1.ok (R : Rt) (fr : Fr) (h : Hp) (g : D1.g R fr h) : den prog E C (retQ E [] R) fr h := by
  obtain ⟨a0, l0, c0, e0, g⟩ := gSlice_elim g
  obtain ⟨a1, l1, c1, e1, g⟩ := gSlice_elim g
  exact den_cut 1 (r := (cAt C [true])) (by kernel_rfl) (W10.ok R) (den_enter [(0, .slice a0 l0 c0), (1, .slice a1 l1 c1)] ⟨e0, e1, trivial⟩ (by kernel_rfl) g)
def t (a0 : Option Addr) (l0 : Nat) (c0 : Nat) (a1 : Option Addr) (l1 : Nat) (c1 : Nat) (h : Hp) (R : Rt) : Prop := D1.t R a0 l0 c0 a1 l1 c1 h
theorem ok {a0 : Option Addr} {l0 : Nat} {c0 : Nat} {a1 : Option Addr} {l1 : Nat} {c1 : Nat} {h : Hp} {R : Rt} (g : t a0 l0 c0 a1 l1 c1 h R) : HC id #[.slice a0 l0 c0, .slice a1 l1 c1] h R :=
  calls_of_den' envOk (c := C) (rs := []) Tryz.func129 (by kernel_rfl) (by kernel_rfl) (by kernel_rfl) (args := [.slice a0 l0 c0, .slice a1 l1 c1]) (by kernel_rfl) (D1.ok R _ h (gSlice_intro rfl (gSlice_intro rfl (g))))
end natmul_takeAway

end Go.Proofs.YtjijdlkpmngolaaGreat.G
