/- Texts of this work, joined: Fp0. -/
import Derived.Test.YtdpkfipkjdlmlaaKE
/- Functions of the translation as predicates over heaps, and that their calls do so. Written by a program of this work. -/
namespace Go.Proofs.Ytdpkfipkjdlmlaa.G
open Go.Gv
set_option linter.unusedVariables false
set_option maxRecDepth 100000






namespace gnomonlaw03_NatdivLimits
noncomputable def C : Code := bodyOf Try.f12
def D8.t (R : Rt) (a1 : Option Addr) (l1 : Nat) (c1 : Nat) (h : Hp) : Prop :=
  idxK a1 l1 7 1 fun q116 =>
  stK h q116 (.int .u8 120) fun h117 =>
  b2s h117 a1 l1 fun s_118 =>
  HC natdiv_Read.id #[.string s_118] h117 fun v119 h120 =>
  gTup v119 fun y121 =>
  uncons y121 fun v122 y122 =>
  gSlice v122 fun a_123 l_123 c_123 =>
  uncons y122 fun v124 y124 =>
  gInt .i64 v124 fun x_125 =>
  unnil y124 <| b2s h120 a1 l1 fun s_126 =>
  (((s_126.size + (⟨#[120]⟩ : ByteArray).size : Nat) : Int) ≤ 9223372036854775807) ∧ HC natdiv_Read.id #[.string (s_126 ++ (⟨#[120]⟩ : ByteArray))] h120 fun v127 h128 =>
  gTup v127 fun y129 =>
  uncons y129 fun v130 y130 =>
  gSlice v130 fun a_131 l_131 c_131 =>
  uncons y130 fun v132 y132 =>
  gInt .i64 v132 fun x_133 =>
  unnil y132 <| cond (x_125 == 8) (cond ((((l_123 : Nat) : Int)) == 0) (cond (x_133 == 7) (R (.bool ((((l_131 : Nat) : Int)) == 0)) h128) (R (.bool false) h128)) (R (.bool false) h128)) (R (.bool false) h128)
def D8.g (R : Rt) (fr : Fr) (h : Hp) : Prop := gSlice (fr 1) fun a1 l1 c1 => D8.t R a1 l1 c1 h
theorem D8.ok (R : Rt) (fr : Fr) (h : Hp) (g : D8.g R fr h) : den prog E (cAt C [true, true, true, true, true, true, true, true, true, true, true, true, true, true, true, true, true, true, true, true, true, true, true]) (retQ E [.tmp 0] R) fr h := by
  obtain ⟨a1, l1, c1, e1, g⟩ := gSlice_elim g
  exact den_enter [(1, .slice a1 l1 c1)] ⟨e1, trivial⟩ (by kernel_rfl) g
def D7.t (R : Rt) (a1 : Option Addr) (l1 : Nat) (c1 : Nat) (a14 : Option Addr) (l14 : Nat) (c14 : Nat) (h : Hp) : Prop :=
  slK 1 a14 l14 c14 none (some (.int .i64 8192)) none fun a_101 l_101 c_101 =>
  boxK h 27 [.int .u64 0, .int .u64 1] fun q102 h103 =>
  HC natdiv_QuoRem.id #[.slice a_101 l_101 c_101, .slice (some q102) 2 2] h103 fun v104 h105 =>
  gTup v104 fun y106 =>
  uncons y106 fun v107 y107 =>
  gSlice v107 fun a_108 l_108 c_108 =>
  uncons y107 fun v109 y109 =>
  gSlice v109 fun a_110 l_110 c_110 =>
  uncons y109 fun v111 y111 =>
  gInt .i64 v111 fun x_112 =>
  unnil y111 <| cond (x_112 != 0) (R (.bool false) h105) (cond ((((l_108 : Nat) : Int)) != 8191) (R (.bool false) h105) (cond ((((l_110 : Nat) : Int)) != 0) (R (.bool false) h105) (idxK a_108 l_108 8190 1 fun q113 =>
  ldK h105 q113 fun v114 =>
  gInt .u64 v114 fun x_115 =>
  cond (x_115 != 1) (R (.bool false) h105) (D8.t R a1 l1 c1 h105))))
def D7.g (R : Rt) (fr : Fr) (h : Hp) : Prop := gSlice (fr 1) fun a1 l1 c1 => gSlice (fr 14) fun a14 l14 c14 => D7.t R a1 l1 c1 a14 l14 c14 h
theorem D7.ok (R : Rt) (fr : Fr) (h : Hp) (g : D7.g R fr h) : den prog E (cAt C [true, true, true, true, true, true, true, true, true, true, true, true, true, true, true, true, true, true, true, true, true]) (retQ E [.tmp 0] R) fr h := by
  obtain ⟨a1, l1, c1, e1, g⟩ := gSlice_elim g
  obtain ⟨a14, l14, c14, e14, g⟩ := gSlice_elim g
  exact den_cut 2 (r := (cAt C [true, true, true, true, true, true, true, true, true, true, true, true, true, true, true, true, true, true, true, true, true, true, true])) (by kernel_rfl) (D8.ok R) (den_enter [(1, .slice a1 l1 c1), (14, .slice a14 l14 c14)] ⟨e1, e14, trivial⟩ (by kernel_rfl) g)
def D6.t (R : Rt) (a1 : Option Addr) (l1 : Nat) (c1 : Nat) (h : Hp) : Prop :=
  mkK h 27 T27 8193 8193 fun q68 h69 =>
  idxK (some q68) ((8193 : Int).toNat) 8191 1 fun q70 =>
  stK h69 q70 (.int .u64 1) fun h71 =>
  idxK (some q68) ((8193 : Int).toNat) 8192 1 fun q72 =>
  stK h71 q72 (.int .u64 1) fun h73 =>
  boxK h73 27 [.int .u64 2] fun q74 h75 =>
  HC natdiv_QuoRem.id #[.slice (some q68) ((8193 : Int).toNat) ((8193 : Int).toNat), .slice (some q74) 1 1] h75 fun v76 h77 =>
  gTup v76 fun y78 =>
  uncons y78 fun v79 y79 =>
  gSlice v79 fun a_80 l_80 c_80 =>
  uncons y79 fun v81 y81 =>
  gSlice v81 fun a_82 l_82 c_82 =>
  uncons y81 fun v83 y83 =>
  gInt .i64 v83 fun x_84 =>
  unnil y83 <| HC natdiv_Text.id #[.slice (some q68) ((8193 : Int).toNat) ((8193 : Int).toNat)] h77 fun v85 h86 =>
  gTup v85 fun y87 =>
  uncons y87 fun v88 y88 =>
  gStr v88 fun s_89 =>
  uncons y88 fun v90 y90 =>
  gInt .i64 v90 fun x_91 =>
  unnil y90 <| HC natdiv_Root.id #[.slice (some q68) ((8193 : Int).toNat) ((8193 : Int).toNat)] h86 fun v92 h93 =>
  gTup v92 fun y94 =>
  uncons y94 fun v95 y95 =>
  gSlice v95 fun a_96 l_96 c_96 =>
  uncons y95 fun v97 y97 =>
  gSlice v97 fun a_98 l_98 c_98 =>
  uncons y97 fun v99 y99 =>
  gInt .i64 v99 fun x_100 =>
  unnil y99 <| cond (x_84 != 2) (R (.bool false) h93) (cond (x_91 != 2) (R (.bool false) h93) (cond (x_100 != 2) (R (.bool false) h93) (cond ((((l_80 : Nat) : Int)) != 0) (R (.bool false) h93) (cond (!(s_89.toList == (⟨#[]⟩ : ByteArray).toList)) (R (.bool false) h93) (D7.t R a1 l1 c1 (some q68) ((8193 : Int).toNat) ((8193 : Int).toNat) h93)))))
def D6.g (R : Rt) (fr : Fr) (h : Hp) : Prop := gSlice (fr 1) fun a1 l1 c1 => D6.t R a1 l1 c1 h
theorem D6.ok (R : Rt) (fr : Fr) (h : Hp) (g : D6.g R fr h) : den prog E (cAt C [true, true, true, true, true, true, true, true, true, true, true, true, true, true, true]) (retQ E [.tmp 0] R) fr h := by
  obtain ⟨a1, l1, c1, e1, g⟩ := gSlice_elim g
  exact den_cut 6 (r := (cAt C [true, true, true, true, true, true, true, true, true, true, true, true, true, true, true, true, true, true, true, true, true])) (by kernel_rfl) (D7.ok R) (den_enter [(1, .slice a1 l1 c1)] ⟨e1, trivial⟩ (by kernel_rfl) g)
def D5.t (R : Rt) (a1 : Option Addr) (l1 : Nat) (c1 : Nat) (h : Hp) : Prop :=
  boxK h 27 [.int .u64 5, .int .u64 0] fun q46 h47 =>
  HC natdiv_QuoRem.id #[.slice (some q46) 2 2, .slice none 0 0] h47 fun v48 h49 =>
  gTup v48 fun y50 =>
  uncons y50 fun v51 y51 =>
  gSlice v51 fun a_52 l_52 c_52 =>
  uncons y51 fun v53 y53 =>
  gSlice v53 fun a_54 l_54 c_54 =>
  uncons y53 fun v55 y55 =>
  gInt .i64 v55 fun x_56 =>
  unnil y55 <| boxK h49 27 [.int .u64 5] fun q57 h58 =>
  HC natdiv_QuoRem.id #[.slice (some q57) 1 1, .slice none 0 0] h58 fun v59 h60 =>
  gTup v59 fun y61 =>
  uncons y61 fun v62 y62 =>
  gSlice v62 fun a_63 l_63 c_63 =>
  uncons y62 fun v64 y64 =>
  gSlice v64 fun a_65 l_65 c_65 =>
  uncons y64 fun v66 y66 =>
  gInt .i64 v66 fun x_67 =>
  unnil y66 <| cond (x_56 != 2) (R (.bool false) h60) (cond (x_67 != 4) (R (.bool false) h60) (D6.t R a1 l1 c1 h60))
def D5.g (R : Rt) (fr : Fr) (h : Hp) : Prop := gSlice (fr 1) fun a1 l1 c1 => D5.t R a1 l1 c1 h
theorem D5.ok (R : Rt) (fr : Fr) (h : Hp) (g : D5.g R fr h) : den prog E (cAt C [true, true, true, true, true, true, true, true, true, true, true, true]) (retQ E [.tmp 0] R) fr h := by
  obtain ⟨a1, l1, c1, e1, g⟩ := gSlice_elim g
  exact den_cut 3 (r := (cAt C [true, true, true, true, true, true, true, true, true, true, true, true, true, true, true])) (by kernel_rfl) (D6.ok R) (den_enter [(1, .slice a1 l1 c1)] ⟨e1, trivial⟩ (by kernel_rfl) g)
def D4.t (R : Rt) (a1 : Option Addr) (l1 : Nat) (c1 : Nat) (h : Hp) : Prop :=
  b2s h a1 l1 fun s_38 =>
  (((s_38.size + (⟨#[57]⟩ : ByteArray).size : Nat) : Int) ≤ 9223372036854775807) ∧ HC natdiv_Read.id #[.string (s_38 ++ (⟨#[57]⟩ : ByteArray))] h fun v39 h40 =>
  gTup v39 fun y41 =>
  uncons y41 fun v42 y42 =>
  gSlice v42 fun a_43 l_43 c_43 =>
  uncons y42 fun v44 y44 =>
  gInt .i64 v44 fun x_45 =>
  unnil y44 <| cond (x_45 != 7) (R (.bool false) h40) (cond ((((l_43 : Nat) : Int)) != 0) (R (.bool false) h40) (D5.t R a1 l1 c1 h40))
def D4.g (R : Rt) (fr : Fr) (h : Hp) : Prop := gSlice (fr 1) fun a1 l1 c1 => D4.t R a1 l1 c1 h
theorem D4.ok (R : Rt) (fr : Fr) (h : Hp) (g : D4.g R fr h) : den prog E (cAt C [true, true, true, true, true, true, true, true, true, true]) (retQ E [.tmp 0] R) fr h := by
  obtain ⟨a1, l1, c1, e1, g⟩ := gSlice_elim g
  exact den_cut 2 (r := (cAt C [true, true, true, true, true, true, true, true, true, true, true, true])) (by kernel_rfl) (D5.ok R) (den_enter [(1, .slice a1 l1 c1)] ⟨e1, trivial⟩ (by kernel_rfl) g)
def D3.t (R : Rt) (a1 : Option Addr) (l1 : Nat) (c1 : Nat) (a3 : Option Addr) (l3 : Nat) (c3 : Nat) (h : Hp) : Prop :=
  HC gnomonref01_From.id #[.slice a3 l3 c3] h fun v19 h20 =>
  gSlice v19 fun a_21 l_21 c_21 =>
  HC gnomonref01_Word.id #[.int .u64 1] h20 fun v22 h23 =>
  gSlice v22 fun a_24 l_24 c_24 =>
  HC gnomonref01_Add.id #[.slice a_21 l_21 c_21, .slice a_24 l_24 c_24] h23 fun v25 h26 =>
  gSlice v25 fun a_27 l_27 c_27 =>
  HC gnomonref01_To.id #[.slice a_27 l_27 c_27] h26 fun v28 h29 =>
  gSlice v28 fun a_30 l_30 c_30 =>
  HC natdiv_Text.id #[.slice a_30 l_30 c_30] h29 fun v31 h32 =>
  gTup v31 fun y33 =>
  uncons y33 fun v34 y34 =>
  gStr v34 fun s_35 =>
  uncons y34 fun v36 y36 =>
  gInt .i64 v36 fun x_37 =>
  unnil y36 <| cond (x_37 != 5) (R (.bool false) h32) (cond (!(s_35.toList == (⟨#[]⟩ : ByteArray).toList)) (R (.bool false) h32) (D4.t R a1 l1 c1 h32))
def D3.g (R : Rt) (fr : Fr) (h : Hp) : Prop := gSlice (fr 1) fun a1 l1 c1 => gSlice (fr 3) fun a3 l3 c3 => D3.t R a1 l1 c1 a3 l3 c3 h
theorem D3.ok (R : Rt) (fr : Fr) (h : Hp) (g : D3.g R fr h) : den prog E (cAt C [true, true, true, true, true, true, true]) (retQ E [.tmp 0] R) fr h := by
  obtain ⟨a1, l1, c1, e1, g⟩ := gSlice_elim g
  obtain ⟨a3, l3, c3, e3, g⟩ := gSlice_elim g
  exact den_cut 3 (r := (cAt C [true, true, true, true, true, true, true, true, true, true])) (by kernel_rfl) (D4.ok R) (den_enter [(1, .slice a1 l1 c1), (3, .slice a3 l3 c3)] ⟨e1, e3, trivial⟩ (by kernel_rfl) g)
def D2.t (R : Rt) (a1 : Option Addr) (l1 : Nat) (c1 : Nat) (h : Hp) : Prop :=
  b2s h a1 l1 fun s_3 =>
  HC natdiv_Read.id #[.string s_3] h fun v4 h5 =>
  gTup v4 fun y6 =>
  uncons y6 fun v7 y7 =>
  gSlice v7 fun a_8 l_8 c_8 =>
  uncons y7 fun v9 y9 =>
  gInt .i64 v9 fun x_10 =>
  unnil y9 <| HC natdiv_Text.id #[.slice a_8 l_8 c_8] h5 fun v11 h12 =>
  gTup v11 fun y13 =>
  uncons y13 fun v14 y14 =>
  gStr v14 fun s_15 =>
  uncons y14 fun v16 y16 =>
  gInt .i64 v16 fun x_17 =>
  unnil y16 <| cond (x_10 != 0) (R (.bool false) h12) (cond (x_17 != 0) (R (.bool false) h12) (b2s h12 a1 l1 fun s_18 =>
  cond (!(s_15.toList == s_18.toList)) (R (.bool false) h12) (D3.t R a1 l1 c1 a_8 l_8 c_8 h12)))
def D2.g (R : Rt) (fr : Fr) (h : Hp) : Prop := gSlice (fr 1) fun a1 l1 c1 => D2.t R a1 l1 c1 h
theorem D2.ok (R : Rt) (fr : Fr) (h : Hp) (g : D2.g R fr h) : den prog E (cAt C [true, true, true, true]) (retQ E [.tmp 0] R) fr h := by
  obtain ⟨a1, l1, c1, e1, g⟩ := gSlice_elim g
  exact den_cut 3 (r := (cAt C [true, true, true, true, true, true, true])) (by kernel_rfl) (D3.ok R) (den_enter [(1, .slice a1 l1 c1)] ⟨e1, trivial⟩ (by kernel_rfl) g)
def L10.g (N : Option Addr → Nat → Nat → Int → Hp → Prop) (fr : Fr) (h : Hp) : Prop := gSlice (fr 1) fun a1 l1 c1 => gInt .i64 (fr 2) fun x2 => N a1 l1 c1 x2 h
def D11.t (R : Rt) (N10 : Option Addr → Nat → Nat → Int → Hp → Prop) (a1 : Option Addr) (l1 : Nat) (c1 : Nat) (x2 : Int) (h : Hp) : Prop :=
  cond (decide (x2 < (((l1 : Nat) : Int)))) (idxK a1 l1 x2 1 fun q134 =>
  stK h q134 (.int .u8 57) fun h135 =>
  letK (IntKind.i64.wrap (x2 + 1)) fun n136 =>
  N10 a1 l1 c1 n136 h135) (D2.t R a1 l1 c1 h)
def D11.g (R : Rt) (N10 : Option Addr → Nat → Nat → Int → Hp → Prop) (fr : Fr) (h : Hp) : Prop := gSlice (fr 1) fun a1 l1 c1 => gInt .i64 (fr 2) fun x2 => D11.t R N10 a1 l1 c1 x2 h
theorem D11.ok (R : Rt) (N10 : Option Addr → Nat → Nat → Int → Hp → Prop) (fr : Fr) (h : Hp) (g : D11.g R N10 fr h) : den prog E (cAt C [true, true, true, false, true, false, false]) (Ex.then (L10.g N10) (Ex.inBlock 0 (Ex.then (D2.g R) (retQ E [.tmp 0] R)))) fr h := by
  obtain ⟨a1, l1, c1, e1, g⟩ := gSlice_elim g
  obtain ⟨x2, e2, g⟩ := gInt_elim g
  exact den_enter [(1, .slice a1 l1 c1), (2, .int .i64 x2)] ⟨e1, e2, trivial⟩ (by kernel_rfl) g
def L10.t (R : Rt) : Nat → Option Addr → Nat → Nat → Int → Hp → Prop
  | 0 => fun _ _ _ _ _ => False
  | n + 1 => fun a1 l1 c1 x2 h => D11.t R (L10.t R n) a1 l1 c1 x2 h
theorem L10.ok (R : Rt) (fr : Fr) (h : Hp) (g : L10.g (fun a1 l1 c1 x2 h => ∃ n, L10.t R n a1 l1 c1 x2 h) fr h) : den prog E (cAt C [true, true, true, false, true, false]) (Ex.inBlock 0 (Ex.then (D2.g R) (retQ E [.tmp 0] R))) fr h := by
  obtain ⟨a1, l1, c1, e1, g⟩ := gSlice_elim g
  obtain ⟨x2, e2, g⟩ := gInt_elim g
  obtain ⟨n, g⟩ := g
  refine loop_ok (fun n => L10.g (L10.t R n)) (b := (cAt C [true, true, true, false, true, false, false])) (by kernel_rfl) (fun fr h g => ?_) (fun n => D11.ok R (L10.t R n)) n fr h (gSlice_intro e1 (gInt_intro e2 (g)))
  obtain ⟨a1, l1, c1, e1, g⟩ := gSlice_elim g
  obtain ⟨x2, e2, g⟩ := gInt_elim g
  exact g
theorem B12.ok (R : Rt) (fr : Fr) (h : Hp) (g : L10.g (fun a1 l1 c1 x2 h => ∃ n, L10.t R n a1 l1 c1 x2 h) fr h) : den prog E (cAt C [true, true, true, false, true]) (Ex.then (D2.g R) (retQ E [.tmp 0] R)) fr h :=
  den_block (by kernel_rfl) (L10.ok R fr h g)
def D9.t (R : Rt) (a1 : Option Addr) (l1 : Nat) (c1 : Nat) (h : Hp) : Prop :=
  (∃ n, L10.t R n a1 l1 c1 0 h)
def D9.g (R : Rt) (fr : Fr) (h : Hp) : Prop := gSlice (fr 1) fun a1 l1 c1 => D9.t R a1 l1 c1 h
theorem D9.ok (R : Rt) (fr : Fr) (h : Hp) (g : D9.g R fr h) : den prog E (cAt C [true, true, true, false]) (Ex.then (D2.g R) (retQ E [.tmp 0] R)) fr h := by
  obtain ⟨a1, l1, c1, e1, g⟩ := gSlice_elim g
  exact den_cut 1 (r := (cAt C [true, true, true, false, true])) (by kernel_rfl) (B12.ok R) (den_enter [(1, .slice a1 l1 c1)] ⟨e1, trivial⟩ (by kernel_rfl) g)
theorem W13.ok (R : Rt) (fr : Fr) (h : Hp) (g : D9.g R fr h) : den prog E (cAt C [true, true, true]) (retQ E [.tmp 0] R) fr h :=
  den_then (by kernel_rfl) (D2.ok R) (D9.ok R fr h g)
def D1.t (R : Rt)  (h : Hp) : Prop :=
  mkK h 5 T5 4900 4900 fun q1 h2 => D9.t R (some q1) ((4900 : Int).toNat) ((4900 : Int).toNat) h2
def D1.g (R : Rt) (fr : Fr) (h : Hp) : Prop := D1.t R  h
theorem D1.ok (R : Rt) (fr : Fr) (h : Hp) (g : D1.g R fr h) : den prog E C (retQ E [.tmp 0] R) fr h := by
  exact den_cut 3 (r := (cAt C [true, true, true])) (by kernel_rfl) (W13.ok R) (den_enter [] trivial (by kernel_rfl) g)
def t  (h : Hp) (R : Rt) : Prop := D1.t R h
theorem ok  {h : Hp} {R : Rt} (g : t  h R) : HC id #[] h R :=
  calls_of_den' envOk (c := C) (rs := [.tmp 0]) Try.func12 (by kernel_rfl) (by kernel_rfl) (by kernel_rfl) (args := []) (by kernel_rfl) (D1.ok R _ h (g))
end gnomonlaw03_NatdivLimits

namespace natdiv_Read
noncomputable def C : Code := bodyOf Try.f13
def D2.t (R : Rt) (a4 : Option Addr) (l4 : Nat) (c4 : Nat) (h : Hp) : Prop :=
  R (.tuple #[.slice a4 l4 c4, .int .i64 0]) h
def D2.g (R : Rt) (fr : Fr) (h : Hp) : Prop := gSlice (fr 4) fun a4 l4 c4 => D2.t R a4 l4 c4 h
theorem D2.ok (R : Rt) (fr : Fr) (h : Hp) (g : D2.g R fr h) : den prog E (cAt C [true, true, true, true, true, true, true]) (retQ E [.tmp 2, .tmp 3] R) fr h := by
  obtain ⟨a4, l4, c4, e4, g⟩ := gSlice_elim g
  exact den_enter [(4, .slice a4 l4 c4)] ⟨e4, trivial⟩ (by kernel_rfl) g
def L4.g (N : ByteArray → Option Addr → Nat → Nat → Int → Int → Addr → Hp → Prop) (fr : Fr) (h : Hp) : Prop := gStr (fr 0) fun s0 => gSlice (fr 4) fun a4 l4 c4 => gInt .u64 (fr 5) fun x5 => gInt .u64 (fr 6) fun x6 => gPtrS (fr 15) fun q15 => N s0 a4 l4 c4 x5 x6 q15 h
def D5.t (R : Rt) (N4 : ByteArray → Option Addr → Nat → Nat → Int → Int → Addr → Hp → Prop) (s0 : ByteArray) (a4 : Option Addr) (l4 : Nat) (c4 : Nat) (x5 : Int) (x6 : Int) (q15 : Addr) (h : Hp) : Prop :=
  nxK h q15 (fun n3 m3 h4 =>
  cond (decide (m3 < 48)) (R (.tuple #[.slice none 0 0, .int .i64 8]) h4) (cond (decide (m3 > 57)) (R (.tuple #[.slice none 0 0, .int .i64 8]) h4) (letK (IntKind.u64.wrap (x5 * 10)) fun n5 =>
  letK (IntKind.i32.wrap (m3 - 48)) fun n6 =>
  letK (IntKind.u64.wrap n6) fun n7 =>
  letK (IntKind.u64.wrap (n5 + n7)) fun n8 =>
  letK (IntKind.u64.wrap (x6 * 10)) fun n9 =>
  cond (n9 == 10000000000000000000) (HC nat_MulWord.id #[.slice a4 l4 c4, .int .u64 n9] h4 fun v10 h11 =>
  gTup v10 fun y12 =>
  uncons y12 fun v13 y13 =>
  gSlice v13 fun a_14 l_14 c_14 =>
  uncons y13 fun v15 y15 =>
  gInt .i64 v15 fun x_16 =>
  unnil y15 <| HC nat_Word.id #[.int .u64 n8] h11 fun v17 h18 =>
  gSlice v17 fun a_19 l_19 c_19 =>
  HC nat_Add.id #[.slice a_14 l_14 c_14, .slice a_19 l_19 c_19] h18 fun v20 h21 =>
  gTup v20 fun y22 =>
  uncons y22 fun v23 y23 =>
  gSlice v23 fun a_24 l_24 c_24 =>
  uncons y23 fun v25 y25 =>
  gInt .i64 v25 fun x_26 =>
  unnil y25 <| N4 s0 a_24 l_24 c_24 0 1 q15 h21) (letK (IntKind.i64.wrap ((((s0.size : Nat) : Int)) - 1)) fun n27 =>
  cond (n3 == n27) (HC nat_MulWord.id #[.slice a4 l4 c4, .int .u64 n9] h4 fun v28 h29 =>
  gTup v28 fun y30 =>
  uncons y30 fun v31 y31 =>
  gSlice v31 fun a_32 l_32 c_32 =>
  uncons y31 fun v33 y33 =>
  gInt .i64 v33 fun x_34 =>
  unnil y33 <| HC nat_Word.id #[.int .u64 n8] h29 fun v35 h36 =>
  gSlice v35 fun a_37 l_37 c_37 =>
  HC nat_Add.id #[.slice a_32 l_32 c_32, .slice a_37 l_37 c_37] h36 fun v38 h39 =>
  gTup v38 fun y40 =>
  uncons y40 fun v41 y41 =>
  gSlice v41 fun a_42 l_42 c_42 =>
  uncons y41 fun v43 y43 =>
  gInt .i64 v43 fun x_44 =>
  unnil y43 <| N4 s0 a_42 l_42 c_42 0 1 q15 h39) (N4 s0 a4 l4 c4 n8 n9 q15 h4))))) (D2.t R a4 l4 c4 h)
def D5.g (R : Rt) (N4 : ByteArray → Option Addr → Nat → Nat → Int → Int → Addr → Hp → Prop) (fr : Fr) (h : Hp) : Prop := gStr (fr 0) fun s0 => gSlice (fr 4) fun a4 l4 c4 => gInt .u64 (fr 5) fun x5 => gInt .u64 (fr 6) fun x6 => gPtrS (fr 15) fun q15 => D5.t R N4 s0 a4 l4 c4 x5 x6 q15 h
theorem D5.ok (R : Rt) (N4 : ByteArray → Option Addr → Nat → Nat → Int → Int → Addr → Hp → Prop) (fr : Fr) (h : Hp) (g : D5.g R N4 fr h) : den prog E (cAt C [true, true, true, true, true, true, false, true, false, false]) (Ex.then (L4.g N4) (Ex.inBlock 0 (Ex.then (D2.g R) (retQ E [.tmp 2, .tmp 3] R)))) fr h := by
  obtain ⟨s0, e0, g⟩ := gStr_elim g
  obtain ⟨a4, l4, c4, e4, g⟩ := gSlice_elim g
  obtain ⟨x5, e5, g⟩ := gInt_elim g
  obtain ⟨x6, e6, g⟩ := gInt_elim g
  obtain ⟨q15, e15, g⟩ := gPtrS_elim g
  exact den_enter [(0, .string s0), (4, .slice a4 l4 c4), (5, .int .u64 x5), (6, .int .u64 x6), (15, .pointer (some q15))] ⟨e0, e4, e5, e6, e15, trivial⟩ (by kernel_rfl) g
def L4.t (R : Rt) : Nat → ByteArray → Option Addr → Nat → Nat → Int → Int → Addr → Hp → Prop
  | 0 => fun _ _ _ _ _ _ _ _ => False
  | n + 1 => fun s0 a4 l4 c4 x5 x6 q15 h => D5.t R (L4.t R n) s0 a4 l4 c4 x5 x6 q15 h
theorem L4.ok (R : Rt) (fr : Fr) (h : Hp) (g : L4.g (fun s0 a4 l4 c4 x5 x6 q15 h => ∃ n, L4.t R n s0 a4 l4 c4 x5 x6 q15 h) fr h) : den prog E (cAt C [true, true, true, true, true, true, false, true, false]) (Ex.inBlock 0 (Ex.then (D2.g R) (retQ E [.tmp 2, .tmp 3] R))) fr h := by
  obtain ⟨s0, e0, g⟩ := gStr_elim g
  obtain ⟨a4, l4, c4, e4, g⟩ := gSlice_elim g
  obtain ⟨x5, e5, g⟩ := gInt_elim g
  obtain ⟨x6, e6, g⟩ := gInt_elim g
  obtain ⟨q15, e15, g⟩ := gPtrS_elim g
  obtain ⟨n, g⟩ := g
  refine loop_ok (fun n => L4.g (L4.t R n)) (b := (cAt C [true, true, true, true, true, true, false, true, false, false])) (by kernel_rfl) (fun fr h g => ?_) (fun n => D5.ok R (L4.t R n)) n fr h (gStr_intro e0 (gSlice_intro e4 (gInt_intro e5 (gInt_intro e6 (gPtrS_intro e15 (g))))))
  obtain ⟨s0, e0, g⟩ := gStr_elim g
  obtain ⟨a4, l4, c4, e4, g⟩ := gSlice_elim g
  obtain ⟨x5, e5, g⟩ := gInt_elim g
  obtain ⟨x6, e6, g⟩ := gInt_elim g
  obtain ⟨q15, e15, g⟩ := gPtrS_elim g
  exact g
theorem B6.ok (R : Rt) (fr : Fr) (h : Hp) (g : L4.g (fun s0 a4 l4 c4 x5 x6 q15 h => ∃ n, L4.t R n s0 a4 l4 c4 x5 x6 q15 h) fr h) : den prog E (cAt C [true, true, true, true, true, true, false, true]) (Ex.then (D2.g R) (retQ E [.tmp 2, .tmp 3] R)) fr h :=
  den_block (by kernel_rfl) (L4.ok R fr h g)
def D3.t (R : Rt) (s0 : ByteArray) (a4 : Option Addr) (l4 : Nat) (c4 : Nat) (x5 : Int) (x6 : Int) (h : Hp) : Prop :=
  rgK h s0 fun q1 h2 => (∃ n, L4.t R n s0 a4 l4 c4 x5 x6 q1 h2)
def D3.g (R : Rt) (fr : Fr) (h : Hp) : Prop := gStr (fr 0) fun s0 => gSlice (fr 4) fun a4 l4 c4 => gInt .u64 (fr 5) fun x5 => gInt .u64 (fr 6) fun x6 => D3.t R s0 a4 l4 c4 x5 x6 h
theorem D3.ok (R : Rt) (fr : Fr) (h : Hp) (g : D3.g R fr h) : den prog E (cAt C [true, true, true, true, true, true, false]) (Ex.then (D2.g R) (retQ E [.tmp 2, .tmp 3] R)) fr h := by
  obtain ⟨s0, e0, g⟩ := gStr_elim g
  obtain ⟨a4, l4, c4, e4, g⟩ := gSlice_elim g
  obtain ⟨x5, e5, g⟩ := gInt_elim g
  obtain ⟨x6, e6, g⟩ := gInt_elim g
  exact den_cut 1 (r := (cAt C [true, true, true, true, true, true, false, true])) (by kernel_rfl) (B6.ok R) (den_enter [(0, .string s0), (4, .slice a4 l4 c4), (5, .int .u64 x5), (6, .int .u64 x6)] ⟨e0, e4, e5, e6, trivial⟩ (by kernel_rfl) g)
theorem W7.ok (R : Rt) (fr : Fr) (h : Hp) (g : D3.g R fr h) : den prog E (cAt C [true, true, true, true, true, true]) (retQ E [.tmp 2, .tmp 3] R) fr h :=
  den_then (by kernel_rfl) (D2.ok R) (D3.ok R fr h g)
def D1.t (R : Rt) (s0 : ByteArray) (h : Hp) : Prop :=
  cond (decide ((((s0.size : Nat) : Int)) > 4900)) (R (.tuple #[.slice none 0 0, .int .i64 7]) h) (cond (s0.toList == (⟨#[]⟩ : ByteArray).toList) (R (.tuple #[.slice none 0 0, .int .i64 8]) h) (D3.t R s0 none 0 0 0 1 h))
def D1.g (R : Rt) (fr : Fr) (h : Hp) : Prop := gStr (fr 0) fun s0 => D1.t R s0 h
theorem D1.ok (R : Rt) (fr : Fr) (h : Hp) (g : D1.g R fr h) : den prog E C (retQ E [.tmp 2, .tmp 3] R) fr h := by
  obtain ⟨s0, e0, g⟩ := gStr_elim g
  exact den_cut 6 (r := (cAt C [true, true, true, true, true, true])) (by kernel_rfl) (W7.ok R) (den_enter [(0, .string s0)] ⟨e0, trivial⟩ (by kernel_rfl) g)
def t (s0 : ByteArray) (h : Hp) (R : Rt) : Prop := D1.t R s0 h
theorem ok {s0 : ByteArray} {h : Hp} {R : Rt} (g : t s0 h R) : HC id #[.string s0] h R :=
  calls_of_den' envOk (c := C) (rs := [.tmp 2, .tmp 3]) Try.func13 (by kernel_rfl) (by kernel_rfl) (by kernel_rfl) (args := [.string s0]) (by kernel_rfl) (D1.ok R _ h (gStr_intro rfl (g)))
end natdiv_Read



namespace natdiv_Text
noncomputable def C : Code := bodyOf Try.f16
def D3.t (R : Rt) (q8 : Addr) (h : Hp) : Prop :=
  HC strings_Builder_Len.id #[.pointer (some q8)] h fun v9 h10 =>
  gInt .i64 v9 fun x_11 =>
  cond (x_11 == 0) (R (.tuple #[.string (⟨#[48]⟩ : ByteArray), .int .i64 0]) h10) (HC strings_Builder_Len.id #[.pointer (some q8)] h10 fun v12 h13 =>
  gInt .i64 v12 fun x_14 =>
  cond (decide (x_14 > 4900)) (R (.tuple #[.string (⟨#[]⟩ : ByteArray), .int .i64 5]) h13) (HC strings_Builder_String.id #[.pointer (some q8)] h13 fun v15 h16 =>
  gStr v15 fun s_17 =>
  R (.tuple #[.string s_17, .int .i64 0]) h16))
def D3.g (R : Rt) (fr : Fr) (h : Hp) : Prop := gPtrS (fr 8) fun q8 => D3.t R q8 h
theorem D3.ok (R : Rt) (fr : Fr) (h : Hp) (g : D3.g R fr h) : den prog E (cAt C [true, true, true, true, true, true, true]) (retQ E [.tmp 2, .tmp 3] R) fr h := by
  obtain ⟨q8, e8, g⟩ := gPtrS_elim g
  exact den_enter [(8, .pointer (some q8))] ⟨e8, trivial⟩ (by kernel_rfl) g
def L5.g (N : Option Addr → Nat → Nat → Addr → Int → Int → Hp → Prop) (fr : Fr) (h : Hp) : Prop := gSlice (fr 4) fun a4 l4 c4 => gPtrS (fr 8) fun q8 => gInt .i64 (fr 40) fun x40 => gInt .i64 (fr 41) fun x41 => N a4 l4 c4 q8 x40 x41 h
def D6.t (R : Rt) (N5 : Option Addr → Nat → Nat → Addr → Int → Int → Hp → Prop) (a4 : Option Addr) (l4 : Nat) (c4 : Nat) (q8 : Addr) (x40 : Int) (x41 : Int) (h : Hp) : Prop :=
  cond (decide (x41 < x40)) (letK (IntKind.i64.wrap ((((l4 : Nat) : Int)) - 1)) fun n18 =>
  letK (IntKind.i64.wrap (n18 - x41)) fun n19 =>
  idxK a4 l4 n19 1 fun q20 =>
  ldK h q20 fun v21 =>
  gInt .u8 v21 fun x_22 =>
  cond (x_22 != 48) (HC strings_Builder_WriteByte.id #[.pointer (some q8), .int .u8 x_22] h fun v23 h24 =>
  letK (IntKind.i64.wrap (x41 + 1)) fun n25 =>
  N5 a4 l4 c4 q8 x40 n25 h24) (HC strings_Builder_Len.id #[.pointer (some q8)] h fun v26 h27 =>
  gInt .i64 v26 fun x_28 =>
  cond (decide (x_28 > 0)) (HC strings_Builder_WriteByte.id #[.pointer (some q8), .int .u8 x_22] h27 fun v29 h30 =>
  letK (IntKind.i64.wrap (x41 + 1)) fun n31 =>
  N5 a4 l4 c4 q8 x40 n31 h30) (letK (IntKind.i64.wrap (x41 + 1)) fun n32 =>
  N5 a4 l4 c4 q8 x40 n32 h27))) (D3.t R q8 h)
def D6.g (R : Rt) (N5 : Option Addr → Nat → Nat → Addr → Int → Int → Hp → Prop) (fr : Fr) (h : Hp) : Prop := gSlice (fr 4) fun a4 l4 c4 => gPtrS (fr 8) fun q8 => gInt .i64 (fr 40) fun x40 => gInt .i64 (fr 41) fun x41 => D6.t R N5 a4 l4 c4 q8 x40 x41 h
theorem D6.ok (R : Rt) (N5 : Option Addr → Nat → Nat → Addr → Int → Int → Hp → Prop) (fr : Fr) (h : Hp) (g : D6.g R N5 fr h) : den prog E (cAt C [true, true, true, true, true, true, false, true, false, false]) (Ex.then (L5.g N5) (Ex.inBlock 4 (Ex.then (D3.g R) (retQ E [.tmp 2, .tmp 3] R)))) fr h := by
  obtain ⟨a4, l4, c4, e4, g⟩ := gSlice_elim g
  obtain ⟨q8, e8, g⟩ := gPtrS_elim g
  obtain ⟨x40, e40, g⟩ := gInt_elim g
  obtain ⟨x41, e41, g⟩ := gInt_elim g
  exact den_enter [(4, .slice a4 l4 c4), (8, .pointer (some q8)), (40, .int .i64 x40), (41, .int .i64 x41)] ⟨e4, e8, e40, e41, trivial⟩ (by kernel_rfl) g
def L5.t (R : Rt) : Nat → Option Addr → Nat → Nat → Addr → Int → Int → Hp → Prop
  | 0 => fun _ _ _ _ _ _ _ => False
  | n + 1 => fun a4 l4 c4 q8 x40 x41 h => D6.t R (L5.t R n) a4 l4 c4 q8 x40 x41 h
theorem L5.ok (R : Rt) (fr : Fr) (h : Hp) (g : L5.g (fun a4 l4 c4 q8 x40 x41 h => ∃ n, L5.t R n a4 l4 c4 q8 x40 x41 h) fr h) : den prog E (cAt C [true, true, true, true, true, true, false, true, false]) (Ex.inBlock 4 (Ex.then (D3.g R) (retQ E [.tmp 2, .tmp 3] R))) fr h := by
  obtain ⟨a4, l4, c4, e4, g⟩ := gSlice_elim g
  obtain ⟨q8, e8, g⟩ := gPtrS_elim g
  obtain ⟨x40, e40, g⟩ := gInt_elim g
  obtain ⟨x41, e41, g⟩ := gInt_elim g
  obtain ⟨n, g⟩ := g
  refine loop_ok (fun n => L5.g (L5.t R n)) (b := (cAt C [true, true, true, true, true, true, false, true, false, false])) (by kernel_rfl) (fun fr h g => ?_) (fun n => D6.ok R (L5.t R n)) n fr h (gSlice_intro e4 (gPtrS_intro e8 (gInt_intro e40 (gInt_intro e41 (g)))))
  obtain ⟨a4, l4, c4, e4, g⟩ := gSlice_elim g
  obtain ⟨q8, e8, g⟩ := gPtrS_elim g
  obtain ⟨x40, e40, g⟩ := gInt_elim g
  obtain ⟨x41, e41, g⟩ := gInt_elim g
  exact g
theorem B7.ok (R : Rt) (fr : Fr) (h : Hp) (g : L5.g (fun a4 l4 c4 q8 x40 x41 h => ∃ n, L5.t R n a4 l4 c4 q8 x40 x41 h) fr h) : den prog E (cAt C [true, true, true, true, true, true, false, true]) (Ex.then (D3.g R) (retQ E [.tmp 2, .tmp 3] R)) fr h :=
  den_block (by kernel_rfl) (L5.ok R fr h g)
def D4.t (R : Rt) (a4 : Option Addr) (l4 : Nat) (c4 : Nat) (q8 : Addr) (h : Hp) : Prop :=
  (∃ n, L5.t R n a4 l4 c4 q8 (((l4 : Nat) : Int)) 0 h)
def D4.g (R : Rt) (fr : Fr) (h : Hp) : Prop := gSlice (fr 4) fun a4 l4 c4 => gPtrS (fr 8) fun q8 => D4.t R a4 l4 c4 q8 h
theorem D4.ok (R : Rt) (fr : Fr) (h : Hp) (g : D4.g R fr h) : den prog E (cAt C [true, true, true, true, true, true, false]) (Ex.then (D3.g R) (retQ E [.tmp 2, .tmp 3] R)) fr h := by
  obtain ⟨a4, l4, c4, e4, g⟩ := gSlice_elim g
  obtain ⟨q8, e8, g⟩ := gPtrS_elim g
  exact den_cut 1 (r := (cAt C [true, true, true, true, true, true, false, true])) (by kernel_rfl) (B7.ok R) (den_enter [(4, .slice a4 l4 c4), (8, .pointer (some q8))] ⟨e4, e8, trivial⟩ (by kernel_rfl) g)
theorem W8.ok (R : Rt) (fr : Fr) (h : Hp) (g : D4.g R fr h) : den prog E (cAt C [true, true, true, true, true, true]) (retQ E [.tmp 2, .tmp 3] R) fr h :=
  den_then (by kernel_rfl) (D3.ok R) (D4.ok R fr h g)
def D2.t (R : Rt) (a4 : Option Addr) (l4 : Nat) (c4 : Nat) (h : Hp) : Prop :=
  boxK h 70 T70.zs fun q7 h8 => D4.t R a4 l4 c4 q7 h8
def D2.g (R : Rt) (fr : Fr) (h : Hp) : Prop := gSlice (fr 4) fun a4 l4 c4 => D2.t R a4 l4 c4 h
theorem D2.ok (R : Rt) (fr : Fr) (h : Hp) (g : D2.g R fr h) : den prog E (cAt C [true, true, true, true, true]) (retQ E [.tmp 2, .tmp 3] R) fr h := by
  obtain ⟨a4, l4, c4, e4, g⟩ := gSlice_elim g
  exact den_cut 1 (r := (cAt C [true, true, true, true, true, true])) (by kernel_rfl) (W8.ok R) (den_enter [(4, .slice a4 l4 c4)] ⟨e4, trivial⟩ (by kernel_rfl) g)
def L9.g (N : Option Addr → Nat → Nat → Option Addr → Nat → Nat → Hp → Prop) (fr : Fr) (h : Hp) : Prop := gSlice (fr 0) fun a0 l0 c0 => gSlice (fr 4) fun a4 l4 c4 => N a0 l0 c0 a4 l4 c4 h
def D12.t (R : Rt) (N9 : Option Addr → Nat → Nat → Option Addr → Nat → Nat → Hp → Prop) (a4 : Option Addr) (l4 : Nat) (c4 : Nat) (a5 : Option Addr) (l5 : Nat) (c5 : Nat) (h : Hp) : Prop :=
  N9 a5 l5 c5 a4 l4 c4 h
def D12.g (R : Rt) (N9 : Option Addr → Nat → Nat → Option Addr → Nat → Nat → Hp → Prop) (fr : Fr) (h : Hp) : Prop := gSlice (fr 4) fun a4 l4 c4 => gSlice (fr 5) fun a5 l5 c5 => D12.t R N9 a4 l4 c4 a5 l5 c5 h
theorem D12.ok (R : Rt) (N9 : Option Addr → Nat → Nat → Option Addr → Nat → Nat → Hp → Prop) (fr : Fr) (h : Hp) (g : D12.g R N9 fr h) : den prog E (cAt C [true, true, true, true, false, false, false, true, false, true, true]) (Ex.inBlock 1 (Ex.then (L9.g N9) (Ex.inBlock 0 (Ex.then (D2.g R) (retQ E [.tmp 2, .tmp 3] R))))) fr h := by
  obtain ⟨a4, l4, c4, e4, g⟩ := gSlice_elim g
  obtain ⟨a5, l5, c5, e5, g⟩ := gSlice_elim g
  exact den_enter [(4, .slice a4 l4 c4), (5, .slice a5 l5 c5)] ⟨e4, e5, trivial⟩ (by kernel_rfl) g
def L14.g (N : Option Addr → Nat → Nat → Option Addr → Nat → Nat → Int → Int → Hp → Prop) (fr : Fr) (h : Hp) : Prop := gSlice (fr 4) fun a4 l4 c4 => gSlice (fr 5) fun a5 l5 c5 => gInt .u64 (fr 6) fun x6 => gInt .i64 (fr 26) fun x26 => N a4 l4 c4 a5 l5 c5 x6 x26 h
def D15.t (R : Rt) (N9 : Option Addr → Nat → Nat → Option Addr → Nat → Nat → Hp → Prop) (N14 : Option Addr → Nat → Nat → Option Addr → Nat → Nat → Int → Int → Hp → Prop) (a4 : Option Addr) (l4 : Nat) (c4 : Nat) (a5 : Option Addr) (l5 : Nat) (c5 : Nat) (x6 : Int) (x26 : Int) (h : Hp) : Prop :=
  cond (decide (x26 < 19)) ((10 : Int) ≠ 0 ∧ letK (Int.tmod x6 10) fun n42 =>
  letK (IntKind.u64.wrap (48 + n42)) fun n43 =>
  letK (IntKind.u8.wrap n43) fun n44 =>
  boxK h 5 [.int .u8 n44] fun q45 h46 =>
  apK h46 5 T5 a4 l4 c4 (.slice (some q45) 1 1) fun a_47 l_47 c_47 h47 =>
  (10 : Int) ≠ 0 ∧ letK (IntKind.u64.wrap (Int.tdiv x6 10)) fun n48 =>
  letK (IntKind.i64.wrap (x26 + 1)) fun n49 =>
  N14 a_47 l_47 c_47 a5 l5 c5 n48 n49 h47) (D12.t R N9 a4 l4 c4 a5 l5 c5 h)
def D15.g (R : Rt) (N9 : Option Addr → Nat → Nat → Option Addr → Nat → Nat → Hp → Prop) (N14 : Option Addr → Nat → Nat → Option Addr → Nat → Nat → Int → Int → Hp → Prop) (fr : Fr) (h : Hp) : Prop := gSlice (fr 4) fun a4 l4 c4 => gSlice (fr 5) fun a5 l5 c5 => gInt .u64 (fr 6) fun x6 => gInt .i64 (fr 26) fun x26 => D15.t R N9 N14 a4 l4 c4 a5 l5 c5 x6 x26 h
theorem D15.ok (R : Rt) (N9 : Option Addr → Nat → Nat → Option Addr → Nat → Nat → Hp → Prop) (N14 : Option Addr → Nat → Nat → Option Addr → Nat → Nat → Int → Int → Hp → Prop) (fr : Fr) (h : Hp) (g : D15.g R N9 N14 fr h) : den prog E (cAt C [true, true, true, true, false, false, false, true, false, true, false, true, false, false]) (Ex.then (L14.g N14) (Ex.inBlock 2 (Ex.then (D12.g R N9) (Ex.inBlock 1 (Ex.then (L9.g N9) (Ex.inBlock 0 (Ex.then (D2.g R) (retQ E [.tmp 2, .tmp 3] R)))))))) fr h := by
  obtain ⟨a4, l4, c4, e4, g⟩ := gSlice_elim g
  obtain ⟨a5, l5, c5, e5, g⟩ := gSlice_elim g
  obtain ⟨x6, e6, g⟩ := gInt_elim g
  obtain ⟨x26, e26, g⟩ := gInt_elim g
  exact den_enter [(4, .slice a4 l4 c4), (5, .slice a5 l5 c5), (6, .int .u64 x6), (26, .int .i64 x26)] ⟨e4, e5, e6, e26, trivial⟩ (by kernel_rfl) g
def L14.t (R : Rt) (N9 : Option Addr → Nat → Nat → Option Addr → Nat → Nat → Hp → Prop) : Nat → Option Addr → Nat → Nat → Option Addr → Nat → Nat → Int → Int → Hp → Prop
  | 0 => fun _ _ _ _ _ _ _ _ _ => False
  | n + 1 => fun a4 l4 c4 a5 l5 c5 x6 x26 h => D15.t R N9 (L14.t R N9 n) a4 l4 c4 a5 l5 c5 x6 x26 h
theorem L14.ok (R : Rt) (N9 : Option Addr → Nat → Nat → Option Addr → Nat → Nat → Hp → Prop) (fr : Fr) (h : Hp) (g : L14.g (fun a4 l4 c4 a5 l5 c5 x6 x26 h => ∃ n, L14.t R N9 n a4 l4 c4 a5 l5 c5 x6 x26 h) fr h) : den prog E (cAt C [true, true, true, true, false, false, false, true, false, true, false, true, false]) (Ex.inBlock 2 (Ex.then (D12.g R N9) (Ex.inBlock 1 (Ex.then (L9.g N9) (Ex.inBlock 0 (Ex.then (D2.g R) (retQ E [.tmp 2, .tmp 3] R))))))) fr h := by
  obtain ⟨a4, l4, c4, e4, g⟩ := gSlice_elim g
  obtain ⟨a5, l5, c5, e5, g⟩ := gSlice_elim g
  obtain ⟨x6, e6, g⟩ := gInt_elim g
  obtain ⟨x26, e26, g⟩ := gInt_elim g
  obtain ⟨n, g⟩ := g
  refine loop_ok (fun n => L14.g (L14.t R N9 n)) (b := (cAt C [true, true, true, true, false, false, false, true, false, true, false, true, false, false])) (by kernel_rfl) (fun fr h g => ?_) (fun n => D15.ok R N9 (L14.t R N9 n)) n fr h (gSlice_intro e4 (gSlice_intro e5 (gInt_intro e6 (gInt_intro e26 (g)))))
  obtain ⟨a4, l4, c4, e4, g⟩ := gSlice_elim g
  obtain ⟨a5, l5, c5, e5, g⟩ := gSlice_elim g
  obtain ⟨x6, e6, g⟩ := gInt_elim g
  obtain ⟨x26, e26, g⟩ := gInt_elim g
  exact g
theorem B16.ok (R : Rt) (N9 : Option Addr → Nat → Nat → Option Addr → Nat → Nat → Hp → Prop) (fr : Fr) (h : Hp) (g : L14.g (fun a4 l4 c4 a5 l5 c5 x6 x26 h => ∃ n, L14.t R N9 n a4 l4 c4 a5 l5 c5 x6 x26 h) fr h) : den prog E (cAt C [true, true, true, true, false, false, false, true, false, true, false, true]) (Ex.then (D12.g R N9) (Ex.inBlock 1 (Ex.then (L9.g N9) (Ex.inBlock 0 (Ex.then (D2.g R) (retQ E [.tmp 2, .tmp 3] R)))))) fr h :=
  den_block (by kernel_rfl) (L14.ok R N9 fr h g)
def D13.t (R : Rt) (N9 : Option Addr → Nat → Nat → Option Addr → Nat → Nat → Hp → Prop) (a4 : Option Addr) (l4 : Nat) (c4 : Nat) (a5 : Option Addr) (l5 : Nat) (c5 : Nat) (x6 : Int) (h : Hp) : Prop :=
  (∃ n, L14.t R N9 n a4 l4 c4 a5 l5 c5 x6 0 h)
def D13.g (R : Rt) (N9 : Option Addr → Nat → Nat → Option Addr → Nat → Nat → Hp → Prop) (fr : Fr) (h : Hp) : Prop := gSlice (fr 4) fun a4 l4 c4 => gSlice (fr 5) fun a5 l5 c5 => gInt .u64 (fr 6) fun x6 => D13.t R N9 a4 l4 c4 a5 l5 c5 x6 h
theorem D13.ok (R : Rt) (N9 : Option Addr → Nat → Nat → Option Addr → Nat → Nat → Hp → Prop) (fr : Fr) (h : Hp) (g : D13.g R N9 fr h) : den prog E (cAt C [true, true, true, true, false, false, false, true, false, true, false]) (Ex.then (D12.g R N9) (Ex.inBlock 1 (Ex.then (L9.g N9) (Ex.inBlock 0 (Ex.then (D2.g R) (retQ E [.tmp 2, .tmp 3] R)))))) fr h := by
  obtain ⟨a4, l4, c4, e4, g⟩ := gSlice_elim g
  obtain ⟨a5, l5, c5, e5, g⟩ := gSlice_elim g
  obtain ⟨x6, e6, g⟩ := gInt_elim g
  exact den_cut 1 (r := (cAt C [true, true, true, true, false, false, false, true, false, true, false, true])) (by kernel_rfl) (B16.ok R N9) (den_enter [(4, .slice a4 l4 c4), (5, .slice a5 l5 c5), (6, .int .u64 x6)] ⟨e4, e5, e6, trivial⟩ (by kernel_rfl) g)
theorem W17.ok (R : Rt) (N9 : Option Addr → Nat → Nat → Option Addr → Nat → Nat → Hp → Prop) (fr : Fr) (h : Hp) (g : D13.g R N9 fr h) : den prog E (cAt C [true, true, true, true, false, false, false, true, false, true]) (Ex.inBlock 1 (Ex.then (L9.g N9) (Ex.inBlock 0 (Ex.then (D2.g R) (retQ E [.tmp 2, .tmp 3] R))))) fr h :=
  den_then (by kernel_rfl) (D12.ok R N9) (D13.ok R N9 fr h g)
def D11.t (R : Rt) (N9 : Option Addr → Nat → Nat → Option Addr → Nat → Nat → Hp → Prop) (a0 : Option Addr) (l0 : Nat) (c0 : Nat) (a4 : Option Addr) (l4 : Nat) (c4 : Nat) (h : Hp) : Prop :=
  HC nat_DivWord.id #[.slice a0 l0 c0, .int .u64 10000000000000000000] h fun v33 h34 =>
  gTup v33 fun y35 =>
  uncons y35 fun v36 y36 =>
  gSlice v36 fun a_37 l_37 c_37 =>
  uncons y36 fun v38 y38 =>
  gInt .u64 v38 fun x_39 =>
  uncons y38 fun v40 y40 =>
  gInt .i64 v40 fun x_41 =>
  unnil y40 <| D13.t R N9 a4 l4 c4 a_37 l_37 c_37 x_39 h34
def D11.g (R : Rt) (N9 : Option Addr → Nat → Nat → Option Addr → Nat → Nat → Hp → Prop) (fr : Fr) (h : Hp) : Prop := gSlice (fr 0) fun a0 l0 c0 => gSlice (fr 4) fun a4 l4 c4 => D11.t R N9 a0 l0 c0 a4 l4 c4 h
theorem D11.ok (R : Rt) (N9 : Option Addr → Nat → Nat → Option Addr → Nat → Nat → Hp → Prop) (fr : Fr) (h : Hp) (g : D11.g R N9 fr h) : den prog E (cAt C [true, true, true, true, false, false, false, true, false]) (Ex.inBlock 1 (Ex.then (L9.g N9) (Ex.inBlock 0 (Ex.then (D2.g R) (retQ E [.tmp 2, .tmp 3] R))))) fr h := by
  obtain ⟨a0, l0, c0, e0, g⟩ := gSlice_elim g
  obtain ⟨a4, l4, c4, e4, g⟩ := gSlice_elim g
  exact den_cut 1 (r := (cAt C [true, true, true, true, false, false, false, true, false, true])) (by kernel_rfl) (W17.ok R N9) (den_enter [(0, .slice a0 l0 c0), (4, .slice a4 l4 c4)] ⟨e0, e4, trivial⟩ (by kernel_rfl) g)
theorem B18.ok (R : Rt) (N9 : Option Addr → Nat → Nat → Option Addr → Nat → Nat → Hp → Prop) (fr : Fr) (h : Hp) (g : D11.g R N9 fr h) : den prog E (cAt C [true, true, true, true, false, false, false, true]) (Ex.then (L9.g N9) (Ex.inBlock 0 (Ex.then (D2.g R) (retQ E [.tmp 2, .tmp 3] R)))) fr h :=
  den_block (by kernel_rfl) (D11.ok R N9 fr h g)
def D10.t (R : Rt) (N9 : Option Addr → Nat → Nat → Option Addr → Nat → Nat → Hp → Prop) (a0 : Option Addr) (l0 : Nat) (c0 : Nat) (a4 : Option Addr) (l4 : Nat) (c4 : Nat) (h : Hp) : Prop :=
  cond (decide ((((l0 : Nat) : Int)) > 0)) (D11.t R N9 a0 l0 c0 a4 l4 c4 h) (D2.t R a4 l4 c4 h)
def D10.g (R : Rt) (N9 : Option Addr → Nat → Nat → Option Addr → Nat → Nat → Hp → Prop) (fr : Fr) (h : Hp) : Prop := gSlice (fr 0) fun a0 l0 c0 => gSlice (fr 4) fun a4 l4 c4 => D10.t R N9 a0 l0 c0 a4 l4 c4 h
theorem D10.ok (R : Rt) (N9 : Option Addr → Nat → Nat → Option Addr → Nat → Nat → Hp → Prop) (fr : Fr) (h : Hp) (g : D10.g R N9 fr h) : den prog E (cAt C [true, true, true, true, false, false, false]) (Ex.then (L9.g N9) (Ex.inBlock 0 (Ex.then (D2.g R) (retQ E [.tmp 2, .tmp 3] R)))) fr h := by
  obtain ⟨a0, l0, c0, e0, g⟩ := gSlice_elim g
  obtain ⟨a4, l4, c4, e4, g⟩ := gSlice_elim g
  exact den_cut 1 (r := (cAt C [true, true, true, true, false, false, false, true])) (by kernel_rfl) (B18.ok R N9) (den_enter [(0, .slice a0 l0 c0), (4, .slice a4 l4 c4)] ⟨e0, e4, trivial⟩ (by kernel_rfl) g)
def L9.t (R : Rt) : Nat → Option Addr → Nat → Nat → Option Addr → Nat → Nat → Hp → Prop
  | 0 => fun _ _ _ _ _ _ _ => False
  | n + 1 => fun a0 l0 c0 a4 l4 c4 h => D10.t R (L9.t R n) a0 l0 c0 a4 l4 c4 h
theorem L9.ok (R : Rt) (fr : Fr) (h : Hp) (g : L9.g (fun a0 l0 c0 a4 l4 c4 h => ∃ n, L9.t R n a0 l0 c0 a4 l4 c4 h) fr h) : den prog E (cAt C [true, true, true, true, false, false]) (Ex.inBlock 0 (Ex.then (D2.g R) (retQ E [.tmp 2, .tmp 3] R))) fr h := by
  obtain ⟨a0, l0, c0, e0, g⟩ := gSlice_elim g
  obtain ⟨a4, l4, c4, e4, g⟩ := gSlice_elim g
  obtain ⟨n, g⟩ := g
  refine loop_ok (fun n => L9.g (L9.t R n)) (b := (cAt C [true, true, true, true, false, false, false])) (by kernel_rfl) (fun fr h g => ?_) (fun n => D10.ok R (L9.t R n)) n fr h (gSlice_intro e0 (gSlice_intro e4 (g)))
  obtain ⟨a0, l0, c0, e0, g⟩ := gSlice_elim g
  obtain ⟨a4, l4, c4, e4, g⟩ := gSlice_elim g
  exact g
theorem B19.ok (R : Rt) (fr : Fr) (h : Hp) (g : L9.g (fun a0 l0 c0 a4 l4 c4 h => ∃ n, L9.t R n a0 l0 c0 a4 l4 c4 h) fr h) : den prog E (cAt C [true, true, true, true, false]) (Ex.then (D2.g R) (retQ E [.tmp 2, .tmp 3] R)) fr h :=
  den_block (by kernel_rfl) (L9.ok R fr h g)
theorem W20.ok (R : Rt) (fr : Fr) (h : Hp) (g : L9.g (fun a0 l0 c0 a4 l4 c4 h => ∃ n, L9.t R n a0 l0 c0 a4 l4 c4 h) fr h) : den prog E (cAt C [true, true, true, true]) (retQ E [.tmp 2, .tmp 3] R) fr h :=
  den_then (by kernel_rfl) (D2.ok R) (B19.ok R fr h g)
def D1.t (R : Rt) (a0 : Option Addr) (l0 : Nat) (c0 : Nat) (h : Hp) : Prop :=
  HC nat_Form.id #[.slice a0 l0 c0] h fun v1 h2 =>
  gBool v1 fun b_3 =>
  cond (!b_3) (R (.tuple #[.string (⟨#[]⟩ : ByteArray), .int .i64 2]) h2) (HC nat_Bits.id #[.slice a0 l0 c0] h2 fun v4 h5 =>
  gInt .i64 v4 fun x_6 =>
  cond (decide (x_6 > 16278)) (R (.tuple #[.string (⟨#[]⟩ : ByteArray), .int .i64 5]) h5) ((∃ n, L9.t R n a0 l0 c0 none 0 0 h5)))
def D1.g (R : Rt) (fr : Fr) (h : Hp) : Prop := gSlice (fr 0) fun a0 l0 c0 => D1.t R a0 l0 c0 h
theorem D1.ok (R : Rt) (fr : Fr) (h : Hp) (g : D1.g R fr h) : den prog E C (retQ E [.tmp 2, .tmp 3] R) fr h := by
  obtain ⟨a0, l0, c0, e0, g⟩ := gSlice_elim g
  exact den_cut 4 (r := (cAt C [true, true, true, true])) (by kernel_rfl) (W20.ok R) (den_enter [(0, .slice a0 l0 c0)] ⟨e0, trivial⟩ (by kernel_rfl) g)
def t (a0 : Option Addr) (l0 : Nat) (c0 : Nat) (h : Hp) (R : Rt) : Prop := D1.t R a0 l0 c0 h
theorem ok {a0 : Option Addr} {l0 : Nat} {c0 : Nat} {h : Hp} {R : Rt} (g : t a0 l0 c0 h R) : HC id #[.slice a0 l0 c0] h R :=
  calls_of_den' envOk (c := C) (rs := [.tmp 2, .tmp 3]) Try.func16 (by kernel_rfl) (by kernel_rfl) (by kernel_rfl) (args := [.slice a0 l0 c0]) (by kernel_rfl) (D1.ok R _ h (gSlice_intro rfl (g)))
end natdiv_Text










namespace natdiv_QuoRem
noncomputable def C : Code := bodyOf Try.f26
def D2.t (R : Rt) (a0 : Option Addr) (l0 : Nat) (c0 : Nat) (a1 : Option Addr) (l1 : Nat) (c1 : Nat) (h : Hp) : Prop :=
  cond ((((l1 : Nat) : Int)) == 0) (R (.tuple #[.slice none 0 0, .slice none 0 0, .int .i64 4]) h) (HC nat_Cmp.id #[.slice a0 l0 c0, .slice a1 l1 c1] h fun v7 h8 =>
  gInt .i64 v7 fun x_9 =>
  cond (decide (x_9 < 0)) (HC nat_Norm.id #[.slice a0 l0 c0] h8 fun v10 h11 =>
  gTup v10 fun y12 =>
  uncons y12 fun v13 y13 =>
  gSlice v13 fun a_14 l_14 c_14 =>
  uncons y13 fun v15 y15 =>
  gInt .i64 v15 fun x_16 =>
  unnil y15 <| R (.tuple #[.slice none 0 0, .slice a_14 l_14 c_14, .int .i64 0]) h11) (cond ((((l1 : Nat) : Int)) == 1) (idxK a1 l1 0 1 fun q17 =>
  ldK h8 q17 fun v18 =>
  gInt .u64 v18 fun x_19 =>
  HC nat_DivWord.id #[.slice a0 l0 c0, .int .u64 x_19] h8 fun v20 h21 =>
  gTup v20 fun y22 =>
  uncons y22 fun v23 y23 =>
  gSlice v23 fun a_24 l_24 c_24 =>
  uncons y23 fun v25 y25 =>
  gInt .u64 v25 fun x_26 =>
  uncons y25 fun v27 y27 =>
  gInt .i64 v27 fun x_28 =>
  unnil y27 <| HC nat_Word.id #[.int .u64 x_26] h21 fun v29 h30 =>
  gSlice v29 fun a_31 l_31 c_31 =>
  R (.tuple #[.slice a_24 l_24 c_24, .slice a_31 l_31 c_31, .int .i64 0]) h30) (letK (IntKind.i64.wrap ((((l1 : Nat) : Int)) - 1)) fun n32 =>
  idxK a1 l1 n32 1 fun q33 =>
  ldK h8 q33 fun v34 =>
  gInt .u64 v34 fun x_35 =>
  HC bits_LeadingZeros64.id #[.int .u64 x_35] h8 fun v36 h37 =>
  gInt .i64 v36 fun x_38 =>
  letK (IntKind.i64.wrap ((((l0 : Nat) : Int)) + 1)) fun n39 =>
  HC natdiv_shifted.id #[.slice a0 l0 c0, .int .i64 x_38, .int .i64 n39] h37 fun v40 h41 =>
  gSlice v40 fun a_42 l_42 c_42 =>
  HC natdiv_shifted.id #[.slice a1 l1 c1, .int .i64 x_38, .int .i64 (((l1 : Nat) : Int))] h41 fun v43 h44 =>
  gSlice v43 fun a_45 l_45 c_45 =>
  HC natdiv_long.id #[.slice a_42 l_42 c_42, .slice a_45 l_45 c_45] h44 fun v46 h47 =>
  gSlice v46 fun a_48 l_48 c_48 =>
  slK 1 a_42 l_42 c_42 none (some (.int .i64 (((l_45 : Nat) : Int)))) none fun a_49 l_49 c_49 =>
  HC nat_Norm.id #[.slice a_49 l_49 c_49] h47 fun v50 h51 =>
  gTup v50 fun y52 =>
  uncons y52 fun v53 y53 =>
  gSlice v53 fun a_54 l_54 c_54 =>
  uncons y53 fun v55 y55 =>
  gInt .i64 v55 fun x_56 =>
  unnil y55 <| HC nat_Shr.id #[.slice a_54 l_54 c_54, .int .i64 x_38] h51 fun v57 h58 =>
  gTup v57 fun y59 =>
  uncons y59 fun v60 y60 =>
  gSlice v60 fun a_61 l_61 c_61 =>
  uncons y60 fun v62 y62 =>
  gInt .i64 v62 fun x_63 =>
  unnil y62 <| HC nat_Norm.id #[.slice a_48 l_48 c_48] h58 fun v64 h65 =>
  gTup v64 fun y66 =>
  uncons y66 fun v67 y67 =>
  gSlice v67 fun a_68 l_68 c_68 =>
  uncons y67 fun v69 y69 =>
  gInt .i64 v69 fun x_70 =>
  unnil y69 <| R (.tuple #[.slice a_68 l_68 c_68, .slice a_61 l_61 c_61, .int .i64 0]) h65)))
def D2.g (R : Rt) (fr : Fr) (h : Hp) : Prop := gSlice (fr 0) fun a0 l0 c0 => gSlice (fr 1) fun a1 l1 c1 => D2.t R a0 l0 c0 a1 l1 c1 h
theorem D2.ok (R : Rt) (fr : Fr) (h : Hp) (g : D2.g R fr h) : den prog E (cAt C [true, true]) (retQ E [.tmp 4, .tmp 5, .tmp 6] R) fr h := by
  obtain ⟨a0, l0, c0, e0, g⟩ := gSlice_elim g
  obtain ⟨a1, l1, c1, e1, g⟩ := gSlice_elim g
  exact den_enter [(0, .slice a0 l0 c0), (1, .slice a1 l1 c1)] ⟨e0, e1, trivial⟩ (by kernel_rfl) g
def D1.t (R : Rt) (a0 : Option Addr) (l0 : Nat) (c0 : Nat) (a1 : Option Addr) (l1 : Nat) (c1 : Nat) (h : Hp) : Prop :=
  HC nat_Form.id #[.slice a0 l0 c0] h fun v1 h2 =>
  gBool v1 fun b_3 =>
  cond (!b_3) (R (.tuple #[.slice none 0 0, .slice none 0 0, .int .i64 2]) h2) (HC nat_Form.id #[.slice a1 l1 c1] h2 fun v4 h5 =>
  gBool v4 fun b_6 =>
  cond (!b_6) (R (.tuple #[.slice none 0 0, .slice none 0 0, .int .i64 2]) h5) (D2.t R a0 l0 c0 a1 l1 c1 h5))
def D1.g (R : Rt) (fr : Fr) (h : Hp) : Prop := gSlice (fr 0) fun a0 l0 c0 => gSlice (fr 1) fun a1 l1 c1 => D1.t R a0 l0 c0 a1 l1 c1 h
theorem D1.ok (R : Rt) (fr : Fr) (h : Hp) (g : D1.g R fr h) : den prog E C (retQ E [.tmp 4, .tmp 5, .tmp 6] R) fr h := by
  obtain ⟨a0, l0, c0, e0, g⟩ := gSlice_elim g
  obtain ⟨a1, l1, c1, e1, g⟩ := gSlice_elim g
  exact den_cut 2 (r := (cAt C [true, true])) (by kernel_rfl) (D2.ok R) (den_enter [(0, .slice a0 l0 c0), (1, .slice a1 l1 c1)] ⟨e0, e1, trivial⟩ (by kernel_rfl) g)
def t (a0 : Option Addr) (l0 : Nat) (c0 : Nat) (a1 : Option Addr) (l1 : Nat) (c1 : Nat) (h : Hp) (R : Rt) : Prop := D1.t R a0 l0 c0 a1 l1 c1 h
theorem ok {a0 : Option Addr} {l0 : Nat} {c0 : Nat} {a1 : Option Addr} {l1 : Nat} {c1 : Nat} {h : Hp} {R : Rt} (g : t a0 l0 c0 a1 l1 c1 h R) : HC id #[.slice a0 l0 c0, .slice a1 l1 c1] h R :=
  calls_of_den' envOk (c := C) (rs := [.tmp 4, .tmp 5, .tmp 6]) Try.func26 (by kernel_rfl) (by kernel_rfl) (by kernel_rfl) (args := [.slice a0 l0 c0, .slice a1 l1 c1]) (by kernel_rfl) (D1.ok R _ h (gSlice_intro rfl (gSlice_intro rfl (g))))
end natdiv_QuoRem

namespace gnomonref01_From
noncomputable def C : Code := bodyOf Try.f27
def D2.t (R : Rt) (a3 : Option Addr) (l3 : Nat) (c3 : Nat) (h : Hp) : Prop :=
  HC gnomonref01_Norm.id #[.slice a3 l3 c3] h fun v4 h5 =>
  gSlice v4 fun a_6 l_6 c_6 =>
  R (.slice a_6 l_6 c_6) h5
def D2.g (R : Rt) (fr : Fr) (h : Hp) : Prop := gSlice (fr 3) fun a3 l3 c3 => D2.t R a3 l3 c3 h
theorem D2.ok (R : Rt) (fr : Fr) (h : Hp) (g : D2.g R fr h) : den prog E (cAt C [true, true, true]) (retQ E [.tmp 2] R) fr h := by
  obtain ⟨a3, l3, c3, e3, g⟩ := gSlice_elim g
  exact den_enter [(3, .slice a3 l3 c3)] ⟨e3, trivial⟩ (by kernel_rfl) g
def L4.g (N : Option Addr → Nat → Nat → Option Addr → Nat → Nat → Int → Hp → Prop) (fr : Fr) (h : Hp) : Prop := gSlice (fr 0) fun a0 l0 c0 => gSlice (fr 3) fun a3 l3 c3 => gInt .i64 (fr 4) fun x4 => N a0 l0 c0 a3 l3 c3 x4 h
def D5.t (R : Rt) (N4 : Option Addr → Nat → Nat → Option Addr → Nat → Nat → Int → Hp → Prop) (a0 : Option Addr) (l0 : Nat) (c0 : Nat) (a3 : Option Addr) (l3 : Nat) (c3 : Nat) (x4 : Int) (h : Hp) : Prop :=
  cond (decide (x4 < (((l0 : Nat) : Int)))) (idxK a0 l0 x4 1 fun q7 =>
  ldK h q7 fun v8 =>
  gInt .u64 v8 fun x_9 =>
  letK (andI .u64 x_9 4294967295) fun n10 =>
  letK (IntKind.u32.wrap n10) fun n11 =>
  idxK a0 l0 x4 1 fun q12 =>
  ldK h q12 fun v13 =>
  gInt .u64 v13 fun x_14 =>
  0 ≤ (32 : Int) ∧ letK (shrI .u64 x_14 32) fun n15 =>
  letK (IntKind.u32.wrap n15) fun n16 =>
  boxK h 84 [.int .u32 n11, .int .u32 n16] fun q17 h18 =>
  apK h18 84 T84 a3 l3 c3 (.slice (some q17) 2 2) fun a_19 l_19 c_19 h19 =>
  letK (IntKind.i64.wrap (x4 + 1)) fun n20 =>
  N4 a0 l0 c0 a_19 l_19 c_19 n20 h19) (D2.t R a3 l3 c3 h)
def D5.g (R : Rt) (N4 : Option Addr → Nat → Nat → Option Addr → Nat → Nat → Int → Hp → Prop) (fr : Fr) (h : Hp) : Prop := gSlice (fr 0) fun a0 l0 c0 => gSlice (fr 3) fun a3 l3 c3 => gInt .i64 (fr 4) fun x4 => D5.t R N4 a0 l0 c0 a3 l3 c3 x4 h
theorem D5.ok (R : Rt) (N4 : Option Addr → Nat → Nat → Option Addr → Nat → Nat → Int → Hp → Prop) (fr : Fr) (h : Hp) (g : D5.g R N4 fr h) : den prog E (cAt C [true, true, false, true, false, false]) (Ex.then (L4.g N4) (Ex.inBlock 0 (Ex.then (D2.g R) (retQ E [.tmp 2] R)))) fr h := by
  obtain ⟨a0, l0, c0, e0, g⟩ := gSlice_elim g
  obtain ⟨a3, l3, c3, e3, g⟩ := gSlice_elim g
  obtain ⟨x4, e4, g⟩ := gInt_elim g
  exact den_enter [(0, .slice a0 l0 c0), (3, .slice a3 l3 c3), (4, .int .i64 x4)] ⟨e0, e3, e4, trivial⟩ (by kernel_rfl) g
def L4.t (R : Rt) : Nat → Option Addr → Nat → Nat → Option Addr → Nat → Nat → Int → Hp → Prop
  | 0 => fun _ _ _ _ _ _ _ _ => False
  | n + 1 => fun a0 l0 c0 a3 l3 c3 x4 h => D5.t R (L4.t R n) a0 l0 c0 a3 l3 c3 x4 h
theorem L4.ok (R : Rt) (fr : Fr) (h : Hp) (g : L4.g (fun a0 l0 c0 a3 l3 c3 x4 h => ∃ n, L4.t R n a0 l0 c0 a3 l3 c3 x4 h) fr h) : den prog E (cAt C [true, true, false, true, false]) (Ex.inBlock 0 (Ex.then (D2.g R) (retQ E [.tmp 2] R))) fr h := by
  obtain ⟨a0, l0, c0, e0, g⟩ := gSlice_elim g
  obtain ⟨a3, l3, c3, e3, g⟩ := gSlice_elim g
  obtain ⟨x4, e4, g⟩ := gInt_elim g
  obtain ⟨n, g⟩ := g
  refine loop_ok (fun n => L4.g (L4.t R n)) (b := (cAt C [true, true, false, true, false, false])) (by kernel_rfl) (fun fr h g => ?_) (fun n => D5.ok R (L4.t R n)) n fr h (gSlice_intro e0 (gSlice_intro e3 (gInt_intro e4 (g))))
  obtain ⟨a0, l0, c0, e0, g⟩ := gSlice_elim g
  obtain ⟨a3, l3, c3, e3, g⟩ := gSlice_elim g
  obtain ⟨x4, e4, g⟩ := gInt_elim g
  exact g
theorem B6.ok (R : Rt) (fr : Fr) (h : Hp) (g : L4.g (fun a0 l0 c0 a3 l3 c3 x4 h => ∃ n, L4.t R n a0 l0 c0 a3 l3 c3 x4 h) fr h) : den prog E (cAt C [true, true, false, true]) (Ex.then (D2.g R) (retQ E [.tmp 2] R)) fr h :=
  den_block (by kernel_rfl) (L4.ok R fr h g)
def D3.t (R : Rt) (a0 : Option Addr) (l0 : Nat) (c0 : Nat) (a3 : Option Addr) (l3 : Nat) (c3 : Nat) (h : Hp) : Prop :=
  (∃ n, L4.t R n a0 l0 c0 a3 l3 c3 0 h)
def D3.g (R : Rt) (fr : Fr) (h : Hp) : Prop := gSlice (fr 0) fun a0 l0 c0 => gSlice (fr 3) fun a3 l3 c3 => D3.t R a0 l0 c0 a3 l3 c3 h
theorem D3.ok (R : Rt) (fr : Fr) (h : Hp) (g : D3.g R fr h) : den prog E (cAt C [true, true, false]) (Ex.then (D2.g R) (retQ E [.tmp 2] R)) fr h := by
  obtain ⟨a0, l0, c0, e0, g⟩ := gSlice_elim g
  obtain ⟨a3, l3, c3, e3, g⟩ := gSlice_elim g
  exact den_cut 1 (r := (cAt C [true, true, false, true])) (by kernel_rfl) (B6.ok R) (den_enter [(0, .slice a0 l0 c0), (3, .slice a3 l3 c3)] ⟨e0, e3, trivial⟩ (by kernel_rfl) g)
theorem W7.ok (R : Rt) (fr : Fr) (h : Hp) (g : D3.g R fr h) : den prog E (cAt C [true, true]) (retQ E [.tmp 2] R) fr h :=
  den_then (by kernel_rfl) (D2.ok R) (D3.ok R fr h g)
def D1.t (R : Rt) (a0 : Option Addr) (l0 : Nat) (c0 : Nat) (h : Hp) : Prop :=
  letK (IntKind.i64.wrap (2 * (((l0 : Nat) : Int)))) fun n1 =>
  mkK h 84 T84 0 n1 fun q2 h3 =>
  D3.t R a0 l0 c0 (some q2) ((0 : Int).toNat) n1.toNat h3
def D1.g (R : Rt) (fr : Fr) (h : Hp) : Prop := gSlice (fr 0) fun a0 l0 c0 => D1.t R a0 l0 c0 h
theorem D1.ok (R : Rt) (fr : Fr) (h : Hp) (g : D1.g R fr h) : den prog E C (retQ E [.tmp 2] R) fr h := by
  obtain ⟨a0, l0, c0, e0, g⟩ := gSlice_elim g
  exact den_cut 2 (r := (cAt C [true, true])) (by kernel_rfl) (W7.ok R) (den_enter [(0, .slice a0 l0 c0)] ⟨e0, trivial⟩ (by kernel_rfl) g)
def t (a0 : Option Addr) (l0 : Nat) (c0 : Nat) (h : Hp) (R : Rt) : Prop := D1.t R a0 l0 c0 h
theorem ok {a0 : Option Addr} {l0 : Nat} {c0 : Nat} {h : Hp} {R : Rt} (g : t a0 l0 c0 h R) : HC id #[.slice a0 l0 c0] h R :=
  calls_of_den' envOk (c := C) (rs := [.tmp 2]) Try.func27 (by kernel_rfl) (by kernel_rfl) (by kernel_rfl) (args := [.slice a0 l0 c0]) (by kernel_rfl) (D1.ok R _ h (gSlice_intro rfl (g)))
end gnomonref01_From

namespace gnomonref01_Add
noncomputable def C : Code := bodyOf Try.f28
def D2.t (R : Rt) (a5 : Option Addr) (l5 : Nat) (c5 : Nat) (h : Hp) : Prop :=
  HC gnomonref01_Norm.id #[.slice a5 l5 c5] h fun v4 h5 =>
  gSlice v4 fun a_6 l_6 c_6 =>
  R (.slice a_6 l_6 c_6) h5
def D2.g (R : Rt) (fr : Fr) (h : Hp) : Prop := gSlice (fr 5) fun a5 l5 c5 => D2.t R a5 l5 c5 h
theorem D2.ok (R : Rt) (fr : Fr) (h : Hp) (g : D2.g R fr h) : den prog E (cAt C [true, true, true, true]) (retQ E [.tmp 4] R) fr h := by
  obtain ⟨a5, l5, c5, e5, g⟩ := gSlice_elim g
  exact den_enter [(5, .slice a5 l5 c5)] ⟨e5, trivial⟩ (by kernel_rfl) g
def L4.g (N : Option Addr → Nat → Nat → Option Addr → Nat → Nat → Option Addr → Nat → Nat → Int → Int → Hp → Prop) (fr : Fr) (h : Hp) : Prop := gSlice (fr 0) fun a0 l0 c0 => gSlice (fr 1) fun a1 l1 c1 => gSlice (fr 5) fun a5 l5 c5 => gInt .u64 (fr 6) fun x6 => gInt .i64 (fr 7) fun x7 => N a0 l0 c0 a1 l1 c1 a5 l5 c5 x6 x7 h
def D6.t (R : Rt) (N4 : Option Addr → Nat → Nat → Option Addr → Nat → Nat → Option Addr → Nat → Nat → Int → Int → Hp → Prop) (a0 : Option Addr) (l0 : Nat) (c0 : Nat) (a1 : Option Addr) (l1 : Nat) (c1 : Nat) (a5 : Option Addr) (l5 : Nat) (c5 : Nat) (x6 : Int) (x7 : Int) (h : Hp) : Prop :=
  cond (decide (x7 < (((l0 : Nat) : Int)))) (idxK a0 l0 x7 1 fun q7 =>
  ldK h q7 fun v8 =>
  gInt .u32 v8 fun x_9 =>
  letK (IntKind.u64.wrap x_9) fun n10 =>
  letK (IntKind.u64.wrap (x6 + n10)) fun n11 =>
  cond (decide (x7 < (((l1 : Nat) : Int)))) (idxK a1 l1 x7 1 fun q12 =>
  ldK h q12 fun v13 =>
  gInt .u32 v13 fun x_14 =>
  letK (IntKind.u64.wrap x_14) fun n15 =>
  letK (IntKind.u64.wrap (n11 + n15)) fun n16 =>
  letK (andI .u64 n16 4294967295) fun n17 =>
  letK (IntKind.u32.wrap n17) fun n18 =>
  boxK h 84 [.int .u32 n18] fun q19 h20 =>
  apK h20 84 T84 a5 l5 c5 (.slice (some q19) 1 1) fun a_21 l_21 c_21 h21 =>
  0 ≤ (32 : Int) ∧ letK (shrI .u64 n16 32) fun n22 =>
  letK (IntKind.i64.wrap (x7 + 1)) fun n23 =>
  N4 a0 l0 c0 a1 l1 c1 a_21 l_21 c_21 n22 n23 h21) (letK (andI .u64 n11 4294967295) fun n24 =>
  letK (IntKind.u32.wrap n24) fun n25 =>
  boxK h 84 [.int .u32 n25] fun q26 h27 =>
  apK h27 84 T84 a5 l5 c5 (.slice (some q26) 1 1) fun a_28 l_28 c_28 h28 =>
  0 ≤ (32 : Int) ∧ letK (shrI .u64 n11 32) fun n29 =>
  letK (IntKind.i64.wrap (x7 + 1)) fun n30 =>
  N4 a0 l0 c0 a1 l1 c1 a_28 l_28 c_28 n29 n30 h28)) (cond (decide (x7 < (((l1 : Nat) : Int)))) (idxK a1 l1 x7 1 fun q31 =>
  ldK h q31 fun v32 =>
  gInt .u32 v32 fun x_33 =>
  letK (IntKind.u64.wrap x_33) fun n34 =>
  letK (IntKind.u64.wrap (x6 + n34)) fun n35 =>
  letK (andI .u64 n35 4294967295) fun n36 =>
  letK (IntKind.u32.wrap n36) fun n37 =>
  boxK h 84 [.int .u32 n37] fun q38 h39 =>
  apK h39 84 T84 a5 l5 c5 (.slice (some q38) 1 1) fun a_40 l_40 c_40 h40 =>
  0 ≤ (32 : Int) ∧ letK (shrI .u64 n35 32) fun n41 =>
  letK (IntKind.i64.wrap (x7 + 1)) fun n42 =>
  N4 a0 l0 c0 a1 l1 c1 a_40 l_40 c_40 n41 n42 h40) (letK (andI .u64 x6 4294967295) fun n43 =>
  letK (IntKind.u32.wrap n43) fun n44 =>
  boxK h 84 [.int .u32 n44] fun q45 h46 =>
  apK h46 84 T84 a5 l5 c5 (.slice (some q45) 1 1) fun a_47 l_47 c_47 h47 =>
  0 ≤ (32 : Int) ∧ letK (shrI .u64 x6 32) fun n48 =>
  letK (IntKind.i64.wrap (x7 + 1)) fun n49 =>
  N4 a0 l0 c0 a1 l1 c1 a_47 l_47 c_47 n48 n49 h47))
def D6.g (R : Rt) (N4 : Option Addr → Nat → Nat → Option Addr → Nat → Nat → Option Addr → Nat → Nat → Int → Int → Hp → Prop) (fr : Fr) (h : Hp) : Prop := gSlice (fr 0) fun a0 l0 c0 => gSlice (fr 1) fun a1 l1 c1 => gSlice (fr 5) fun a5 l5 c5 => gInt .u64 (fr 6) fun x6 => gInt .i64 (fr 7) fun x7 => D6.t R N4 a0 l0 c0 a1 l1 c1 a5 l5 c5 x6 x7 h
theorem D6.ok (R : Rt) (N4 : Option Addr → Nat → Nat → Option Addr → Nat → Nat → Option Addr → Nat → Nat → Int → Int → Hp → Prop) (fr : Fr) (h : Hp) (g : D6.g R N4 fr h) : den prog E (cAt C [true, true, true, false, true, false, false, true]) (Ex.then (L4.g N4) (Ex.inBlock 0 (Ex.then (D2.g R) (retQ E [.tmp 4] R)))) fr h := by
  obtain ⟨a0, l0, c0, e0, g⟩ := gSlice_elim g
  obtain ⟨a1, l1, c1, e1, g⟩ := gSlice_elim g
  obtain ⟨a5, l5, c5, e5, g⟩ := gSlice_elim g
  obtain ⟨x6, e6, g⟩ := gInt_elim g
  obtain ⟨x7, e7, g⟩ := gInt_elim g
  exact den_enter [(0, .slice a0 l0 c0), (1, .slice a1 l1 c1), (5, .slice a5 l5 c5), (6, .int .u64 x6), (7, .int .i64 x7)] ⟨e0, e1, e5, e6, e7, trivial⟩ (by kernel_rfl) g
def D5.t (R : Rt) (N4 : Option Addr → Nat → Nat → Option Addr → Nat → Nat → Option Addr → Nat → Nat → Int → Int → Hp → Prop) (a0 : Option Addr) (l0 : Nat) (c0 : Nat) (a1 : Option Addr) (l1 : Nat) (c1 : Nat) (a5 : Option Addr) (l5 : Nat) (c5 : Nat) (x6 : Int) (x7 : Int) (h : Hp) : Prop :=
  cond (decide (x7 < (((l0 : Nat) : Int)))) (D6.t R N4 a0 l0 c0 a1 l1 c1 a5 l5 c5 x6 x7 h) (cond (decide (x7 < (((l1 : Nat) : Int)))) (D6.t R N4 a0 l0 c0 a1 l1 c1 a5 l5 c5 x6 x7 h) (cond (decide (x6 > 0)) (D6.t R N4 a0 l0 c0 a1 l1 c1 a5 l5 c5 x6 x7 h) (D2.t R a5 l5 c5 h)))
def D5.g (R : Rt) (N4 : Option Addr → Nat → Nat → Option Addr → Nat → Nat → Option Addr → Nat → Nat → Int → Int → Hp → Prop) (fr : Fr) (h : Hp) : Prop := gSlice (fr 0) fun a0 l0 c0 => gSlice (fr 1) fun a1 l1 c1 => gSlice (fr 5) fun a5 l5 c5 => gInt .u64 (fr 6) fun x6 => gInt .i64 (fr 7) fun x7 => D5.t R N4 a0 l0 c0 a1 l1 c1 a5 l5 c5 x6 x7 h
theorem D5.ok (R : Rt) (N4 : Option Addr → Nat → Nat → Option Addr → Nat → Nat → Option Addr → Nat → Nat → Int → Int → Hp → Prop) (fr : Fr) (h : Hp) (g : D5.g R N4 fr h) : den prog E (cAt C [true, true, true, false, true, false, false]) (Ex.then (L4.g N4) (Ex.inBlock 0 (Ex.then (D2.g R) (retQ E [.tmp 4] R)))) fr h := by
  obtain ⟨a0, l0, c0, e0, g⟩ := gSlice_elim g
  obtain ⟨a1, l1, c1, e1, g⟩ := gSlice_elim g
  obtain ⟨a5, l5, c5, e5, g⟩ := gSlice_elim g
  obtain ⟨x6, e6, g⟩ := gInt_elim g
  obtain ⟨x7, e7, g⟩ := gInt_elim g
  exact den_cut 1 (r := (cAt C [true, true, true, false, true, false, false, true])) (by kernel_rfl) (D6.ok R N4) (den_enter [(0, .slice a0 l0 c0), (1, .slice a1 l1 c1), (5, .slice a5 l5 c5), (6, .int .u64 x6), (7, .int .i64 x7)] ⟨e0, e1, e5, e6, e7, trivial⟩ (by kernel_rfl) g)
def L4.t (R : Rt) : Nat → Option Addr → Nat → Nat → Option Addr → Nat → Nat → Option Addr → Nat → Nat → Int → Int → Hp → Prop
  | 0 => fun _ _ _ _ _ _ _ _ _ _ _ _ => False
  | n + 1 => fun a0 l0 c0 a1 l1 c1 a5 l5 c5 x6 x7 h => D5.t R (L4.t R n) a0 l0 c0 a1 l1 c1 a5 l5 c5 x6 x7 h
theorem L4.ok (R : Rt) (fr : Fr) (h : Hp) (g : L4.g (fun a0 l0 c0 a1 l1 c1 a5 l5 c5 x6 x7 h => ∃ n, L4.t R n a0 l0 c0 a1 l1 c1 a5 l5 c5 x6 x7 h) fr h) : den prog E (cAt C [true, true, true, false, true, false]) (Ex.inBlock 0 (Ex.then (D2.g R) (retQ E [.tmp 4] R))) fr h := by
  obtain ⟨a0, l0, c0, e0, g⟩ := gSlice_elim g
  obtain ⟨a1, l1, c1, e1, g⟩ := gSlice_elim g
  obtain ⟨a5, l5, c5, e5, g⟩ := gSlice_elim g
  obtain ⟨x6, e6, g⟩ := gInt_elim g
  obtain ⟨x7, e7, g⟩ := gInt_elim g
  obtain ⟨n, g⟩ := g
  refine loop_ok (fun n => L4.g (L4.t R n)) (b := (cAt C [true, true, true, false, true, false, false])) (by kernel_rfl) (fun fr h g => ?_) (fun n => D5.ok R (L4.t R n)) n fr h (gSlice_intro e0 (gSlice_intro e1 (gSlice_intro e5 (gInt_intro e6 (gInt_intro e7 (g))))))
  obtain ⟨a0, l0, c0, e0, g⟩ := gSlice_elim g
  obtain ⟨a1, l1, c1, e1, g⟩ := gSlice_elim g
  obtain ⟨a5, l5, c5, e5, g⟩ := gSlice_elim g
  obtain ⟨x6, e6, g⟩ := gInt_elim g
  obtain ⟨x7, e7, g⟩ := gInt_elim g
  exact g
theorem B7.ok (R : Rt) (fr : Fr) (h : Hp) (g : L4.g (fun a0 l0 c0 a1 l1 c1 a5 l5 c5 x6 x7 h => ∃ n, L4.t R n a0 l0 c0 a1 l1 c1 a5 l5 c5 x6 x7 h) fr h) : den prog E (cAt C [true, true, true, false, true]) (Ex.then (D2.g R) (retQ E [.tmp 4] R)) fr h :=
  den_block (by kernel_rfl) (L4.ok R fr h g)
def D3.t (R : Rt) (a0 : Option Addr) (l0 : Nat) (c0 : Nat) (a1 : Option Addr) (l1 : Nat) (c1 : Nat) (a5 : Option Addr) (l5 : Nat) (c5 : Nat) (x6 : Int) (h : Hp) : Prop :=
  (∃ n, L4.t R n a0 l0 c0 a1 l1 c1 a5 l5 c5 x6 0 h)
def D3.g (R : Rt) (fr : Fr) (h : Hp) : Prop := gSlice (fr 0) fun a0 l0 c0 => gSlice (fr 1) fun a1 l1 c1 => gSlice (fr 5) fun a5 l5 c5 => gInt .u64 (fr 6) fun x6 => D3.t R a0 l0 c0 a1 l1 c1 a5 l5 c5 x6 h
theorem D3.ok (R : Rt) (fr : Fr) (h : Hp) (g : D3.g R fr h) : den prog E (cAt C [true, true, true, false]) (Ex.then (D2.g R) (retQ E [.tmp 4] R)) fr h := by
  obtain ⟨a0, l0, c0, e0, g⟩ := gSlice_elim g
  obtain ⟨a1, l1, c1, e1, g⟩ := gSlice_elim g
  obtain ⟨a5, l5, c5, e5, g⟩ := gSlice_elim g
  obtain ⟨x6, e6, g⟩ := gInt_elim g
  exact den_cut 1 (r := (cAt C [true, true, true, false, true])) (by kernel_rfl) (B7.ok R) (den_enter [(0, .slice a0 l0 c0), (1, .slice a1 l1 c1), (5, .slice a5 l5 c5), (6, .int .u64 x6)] ⟨e0, e1, e5, e6, trivial⟩ (by kernel_rfl) g)
theorem W8.ok (R : Rt) (fr : Fr) (h : Hp) (g : D3.g R fr h) : den prog E (cAt C [true, true, true]) (retQ E [.tmp 4] R) fr h :=
  den_then (by kernel_rfl) (D2.ok R) (D3.ok R fr h g)
def D1.t (R : Rt) (a0 : Option Addr) (l0 : Nat) (c0 : Nat) (a1 : Option Addr) (l1 : Nat) (c1 : Nat) (h : Hp) : Prop :=
  letK (IntKind.i64.wrap ((if (((l1 : Nat) : Int)) > (((l0 : Nat) : Int)) then (((l1 : Nat) : Int)) else (((l0 : Nat) : Int))) + 1)) fun n1 =>
  mkK h 84 T84 0 n1 fun q2 h3 =>
  D3.t R a0 l0 c0 a1 l1 c1 (some q2) ((0 : Int).toNat) n1.toNat 0 h3
def D1.g (R : Rt) (fr : Fr) (h : Hp) : Prop := gSlice (fr 0) fun a0 l0 c0 => gSlice (fr 1) fun a1 l1 c1 => D1.t R a0 l0 c0 a1 l1 c1 h
theorem D1.ok (R : Rt) (fr : Fr) (h : Hp) (g : D1.g R fr h) : den prog E C (retQ E [.tmp 4] R) fr h := by
  obtain ⟨a0, l0, c0, e0, g⟩ := gSlice_elim g
  obtain ⟨a1, l1, c1, e1, g⟩ := gSlice_elim g
  exact den_cut 3 (r := (cAt C [true, true, true])) (by kernel_rfl) (W8.ok R) (den_enter [(0, .slice a0 l0 c0), (1, .slice a1 l1 c1)] ⟨e0, e1, trivial⟩ (by kernel_rfl) g)
def t (a0 : Option Addr) (l0 : Nat) (c0 : Nat) (a1 : Option Addr) (l1 : Nat) (c1 : Nat) (h : Hp) (R : Rt) : Prop := D1.t R a0 l0 c0 a1 l1 c1 h
theorem ok {a0 : Option Addr} {l0 : Nat} {c0 : Nat} {a1 : Option Addr} {l1 : Nat} {c1 : Nat} {h : Hp} {R : Rt} (g : t a0 l0 c0 a1 l1 c1 h R) : HC id #[.slice a0 l0 c0, .slice a1 l1 c1] h R :=
  calls_of_den' envOk (c := C) (rs := [.tmp 4]) Try.func28 (by kernel_rfl) (by kernel_rfl) (by kernel_rfl) (args := [.slice a0 l0 c0, .slice a1 l1 c1]) (by kernel_rfl) (D1.ok R _ h (gSlice_intro rfl (gSlice_intro rfl (g))))
end gnomonref01_Add



namespace natdiv_Root
noncomputable def C : Code := bodyOf Try.f31
def D1.t (R : Rt) (a0 : Option Addr) (l0 : Nat) (c0 : Nat) (h : Hp) : Prop :=
  HC nat_Form.id #[.slice a0 l0 c0] h fun v1 h2 =>
  gBool v1 fun b_3 =>
  cond (!b_3) (R (.tuple #[.slice none 0 0, .slice none 0 0, .int .i64 2]) h2) (HC natdiv_root.id #[.slice a0 l0 c0] h2 fun v4 h5 =>
  gSlice v4 fun a_6 l_6 c_6 =>
  HC natmul_Sqr.id #[.slice a_6 l_6 c_6] h5 fun v7 h8 =>
  gTup v7 fun y9 =>
  uncons y9 fun v10 y10 =>
  gSlice v10 fun a_11 l_11 c_11 =>
  uncons y10 fun v12 y12 =>
  gInt .i64 v12 fun x_13 =>
  unnil y12 <| HC nat_Sub.id #[.slice a0 l0 c0, .slice a_11 l_11 c_11] h8 fun v14 h15 =>
  gTup v14 fun y16 =>
  uncons y16 fun v17 y17 =>
  gSlice v17 fun a_18 l_18 c_18 =>
  uncons y17 fun v19 y19 =>
  gInt .i64 v19 fun x_20 =>
  unnil y19 <| R (.tuple #[.slice a_6 l_6 c_6, .slice a_18 l_18 c_18, .int .i64 0]) h15)
def D1.g (R : Rt) (fr : Fr) (h : Hp) : Prop := gSlice (fr 0) fun a0 l0 c0 => D1.t R a0 l0 c0 h
theorem D1.ok (R : Rt) (fr : Fr) (h : Hp) (g : D1.g R fr h) : den prog E C (retQ E [.tmp 2, .tmp 3, .tmp 4] R) fr h := by
  obtain ⟨a0, l0, c0, e0, g⟩ := gSlice_elim g
  exact den_enter [(0, .slice a0 l0 c0)] ⟨e0, trivial⟩ (by kernel_rfl) g
def t (a0 : Option Addr) (l0 : Nat) (c0 : Nat) (h : Hp) (R : Rt) : Prop := D1.t R a0 l0 c0 h
theorem ok {a0 : Option Addr} {l0 : Nat} {c0 : Nat} {h : Hp} {R : Rt} (g : t a0 l0 c0 h R) : HC id #[.slice a0 l0 c0] h R :=
  calls_of_den' envOk (c := C) (rs := [.tmp 2, .tmp 3, .tmp 4]) Try.func31 (by kernel_rfl) (by kernel_rfl) (by kernel_rfl) (args := [.slice a0 l0 c0]) (by kernel_rfl) (D1.ok R _ h (gSlice_intro rfl (g)))
end natdiv_Root


namespace natmul_Mul
noncomputable def C : Code := bodyOf Try.f33
def D2.t (R : Rt) (a0 : Option Addr) (l0 : Nat) (c0 : Nat) (a1 : Option Addr) (l1 : Nat) (c1 : Nat) (h : Hp) : Prop :=
  HC natmul_product.id #[.slice a0 l0 c0, .slice a1 l1 c1] h fun v7 h8 =>
  gSlice v7 fun a_9 l_9 c_9 =>
  HC natmul_told.id #[.slice a_9 l_9 c_9] h8 fun v10 h11 =>
  gTup v10 fun y12 =>
  uncons y12 fun v13 y13 =>
  gSlice v13 fun a_14 l_14 c_14 =>
  uncons y13 fun v15 y15 =>
  gInt .i64 v15 fun x_16 =>
  unnil y15 <| R (.tuple #[.slice a_14 l_14 c_14, .int .i64 x_16]) h11
def D2.g (R : Rt) (fr : Fr) (h : Hp) : Prop := gSlice (fr 0) fun a0 l0 c0 => gSlice (fr 1) fun a1 l1 c1 => D2.t R a0 l0 c0 a1 l1 c1 h
theorem D2.ok (R : Rt) (fr : Fr) (h : Hp) (g : D2.g R fr h) : den prog E (cAt C [true, true]) (retQ E [.tmp 4, .tmp 5] R) fr h := by
  obtain ⟨a0, l0, c0, e0, g⟩ := gSlice_elim g
  obtain ⟨a1, l1, c1, e1, g⟩ := gSlice_elim g
  exact den_enter [(0, .slice a0 l0 c0), (1, .slice a1 l1 c1)] ⟨e0, e1, trivial⟩ (by kernel_rfl) g
def D1.t (R : Rt) (a0 : Option Addr) (l0 : Nat) (c0 : Nat) (a1 : Option Addr) (l1 : Nat) (c1 : Nat) (h : Hp) : Prop :=
  HC nat_Form.id #[.slice a0 l0 c0] h fun v1 h2 =>
  gBool v1 fun b_3 =>
  cond (!b_3) (R (.tuple #[.slice none 0 0, .int .i64 2]) h2) (HC nat_Form.id #[.slice a1 l1 c1] h2 fun v4 h5 =>
  gBool v4 fun b_6 =>
  cond (!b_6) (R (.tuple #[.slice none 0 0, .int .i64 2]) h5) (D2.t R a0 l0 c0 a1 l1 c1 h5))
def D1.g (R : Rt) (fr : Fr) (h : Hp) : Prop := gSlice (fr 0) fun a0 l0 c0 => gSlice (fr 1) fun a1 l1 c1 => D1.t R a0 l0 c0 a1 l1 c1 h
theorem D1.ok (R : Rt) (fr : Fr) (h : Hp) (g : D1.g R fr h) : den prog E C (retQ E [.tmp 4, .tmp 5] R) fr h := by
  obtain ⟨a0, l0, c0, e0, g⟩ := gSlice_elim g
  obtain ⟨a1, l1, c1, e1, g⟩ := gSlice_elim g
  exact den_cut 2 (r := (cAt C [true, true])) (by kernel_rfl) (D2.ok R) (den_enter [(0, .slice a0 l0 c0), (1, .slice a1 l1 c1)] ⟨e0, e1, trivial⟩ (by kernel_rfl) g)
def t (a0 : Option Addr) (l0 : Nat) (c0 : Nat) (a1 : Option Addr) (l1 : Nat) (c1 : Nat) (h : Hp) (R : Rt) : Prop := D1.t R a0 l0 c0 a1 l1 c1 h
theorem ok {a0 : Option Addr} {l0 : Nat} {c0 : Nat} {a1 : Option Addr} {l1 : Nat} {c1 : Nat} {h : Hp} {R : Rt} (g : t a0 l0 c0 a1 l1 c1 h R) : HC id #[.slice a0 l0 c0, .slice a1 l1 c1] h R :=
  calls_of_den' envOk (c := C) (rs := [.tmp 4, .tmp 5]) Try.func33 (by kernel_rfl) (by kernel_rfl) (by kernel_rfl) (args := [.slice a0 l0 c0, .slice a1 l1 c1]) (by kernel_rfl) (D1.ok R _ h (gSlice_intro rfl (gSlice_intro rfl (g))))
end natmul_Mul

end Go.Proofs.Ytdpkfipkjdlmlaa.G
