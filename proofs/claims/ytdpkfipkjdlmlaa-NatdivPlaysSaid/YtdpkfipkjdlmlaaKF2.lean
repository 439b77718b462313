/- Texts of this work, joined: Fp2. -/
import Derived.Test.YtdpkfipkjdlmlaaKE
/- Functions of the translation as predicates over heaps, and that their calls do so. Written by a program of this work. -/
namespace Go.Proofs.Ytdpkfipkjdlmlaa.G
open Go.Gv
set_option linter.unusedVariables false
set_option maxRecDepth 100000
namespace natmul_addAt
noncomputable def C : Code := bodyOf Try.f88
def L3.g (N : Option Addr → Nat → Nat → Int → Int → Hp → Prop) (fr : Fr) (h : Hp) : Prop := gSlice (fr 0) fun a0 l0 c0 => gInt .u64 (fr 6) fun x6 => gInt .i64 (fr 8) fun x8 => N a0 l0 c0 x6 x8 h
def D4.t (R : Rt) (N3 : Option Addr → Nat → Nat → Int → Int → Hp → Prop) (a0 : Option Addr) (l0 : Nat) (c0 : Nat) (x6 : Int) (x8 : Int) (h : Hp) : Prop :=
  cond (decide (x6 > 0)) (idxK a0 l0 x8 1 fun q2 =>
  ldK h q2 fun v3 =>
  gInt .u64 v3 fun x_4 =>
  addK x_4 0 x6 fun n5 m5 =>
  idxK a0 l0 x8 1 fun q6 =>
  stK h q6 (.int .u64 n5) fun h7 =>
  letK (IntKind.i64.wrap (x8 + 1)) fun n8 =>
  N3 a0 l0 c0 m5 n8 h7) (R (.tuple #[]) h)
def D4.g (R : Rt) (N3 : Option Addr → Nat → Nat → Int → Int → Hp → Prop) (fr : Fr) (h : Hp) : Prop := gSlice (fr 0) fun a0 l0 c0 => gInt .u64 (fr 6) fun x6 => gInt .i64 (fr 8) fun x8 => D4.t R N3 a0 l0 c0 x6 x8 h
theorem D4.ok (R : Rt) (N3 : Option Addr → Nat → Nat → Int → Int → Hp → Prop) (fr : Fr) (h : Hp) (g : D4.g R N3 fr h) : den prog E (cAt C [true, true, true, false, false]) (Ex.then (L3.g N3) (Ex.inBlock 2 (retQ E [] R))) fr h := by
  obtain ⟨a0, l0, c0, e0, g⟩ := gSlice_elim g
  obtain ⟨x6, e6, g⟩ := gInt_elim g
  obtain ⟨x8, e8, g⟩ := gInt_elim g
  exact den_enter [(0, .slice a0 l0 c0), (6, .int .u64 x6), (8, .int .i64 x8)] ⟨e0, e6, e8, trivial⟩ (by kernel_rfl) g
def L3.t (R : Rt) : Nat → Option Addr → Nat → Nat → Int → Int → Hp → Prop
  | 0 => fun _ _ _ _ _ _ => False
  | n + 1 => fun a0 l0 c0 x6 x8 h => D4.t R (L3.t R n) a0 l0 c0 x6 x8 h
theorem L3.ok (R : Rt) (fr : Fr) (h : Hp) (g : L3.g (fun a0 l0 c0 x6 x8 h => ∃ n, L3.t R n a0 l0 c0 x6 x8 h) fr h) : den prog E (cAt C [true, true, true, false]) (Ex.inBlock 2 (retQ E [] R)) fr h := by
  obtain ⟨a0, l0, c0, e0, g⟩ := gSlice_elim g
  obtain ⟨x6, e6, g⟩ := gInt_elim g
  obtain ⟨x8, e8, g⟩ := gInt_elim g
  obtain ⟨n, g⟩ := g
  refine loop_ok (fun n => L3.g (L3.t R n)) (b := (cAt C [true, true, true, false, false])) (by kernel_rfl) (fun fr h g => ?_) (fun n => D4.ok R (L3.t R n)) n fr h (gSlice_intro e0 (gInt_intro e6 (gInt_intro e8 (g))))
  obtain ⟨a0, l0, c0, e0, g⟩ := gSlice_elim g
  obtain ⟨x6, e6, g⟩ := gInt_elim g
  obtain ⟨x8, e8, g⟩ := gInt_elim g
  exact g
theorem B5.ok (R : Rt) (fr : Fr) (h : Hp) (g : L3.g (fun a0 l0 c0 x6 x8 h => ∃ n, L3.t R n a0 l0 c0 x6 x8 h) fr h) : den prog E (cAt C [true, true, true]) (retQ E [] R) fr h :=
  den_block (by kernel_rfl) (L3.ok R fr h g)
def D2.t (R : Rt) (a0 : Option Addr) (l0 : Nat) (c0 : Nat) (a1 : Option Addr) (l1 : Nat) (c1 : Nat) (x2 : Int) (x6 : Int) (h : Hp) : Prop :=
  letK (IntKind.i64.wrap (x2 + (((l1 : Nat) : Int)))) fun n1 => (∃ n, L3.t R n a0 l0 c0 x6 n1 h)
def D2.g (R : Rt) (fr : Fr) (h : Hp) : Prop := gSlice (fr 0) fun a0 l0 c0 => gSlice (fr 1) fun a1 l1 c1 => gInt .i64 (fr 2) fun x2 => gInt .u64 (fr 6) fun x6 => D2.t R a0 l0 c0 a1 l1 c1 x2 x6 h
theorem D2.ok (R : Rt) (fr : Fr) (h : Hp) (g : D2.g R fr h) : den prog E (cAt C [true, true]) (retQ E [] R) fr h := by
  obtain ⟨a0, l0, c0, e0, g⟩ := gSlice_elim g
  obtain ⟨a1, l1, c1, e1, g⟩ := gSlice_elim g
  obtain ⟨x2, e2, g⟩ := gInt_elim g
  obtain ⟨x6, e6, g⟩ := gInt_elim g
  exact den_cut 1 (r := (cAt C [true, true, true])) (by kernel_rfl) (B5.ok R) (den_enter [(0, .slice a0 l0 c0), (1, .slice a1 l1 c1), (2, .int .i64 x2), (6, .int .u64 x6)] ⟨e0, e1, e2, e6, trivial⟩ (by kernel_rfl) g)
def L7.g (N : Option Addr → Nat → Nat → Option Addr → Nat → Nat → Int → Int → Int → Int → Hp → Prop) (fr : Fr) (h : Hp) : Prop := gSlice (fr 0) fun a0 l0 c0 => gSlice (fr 1) fun a1 l1 c1 => gInt .i64 (fr 2) fun x2 => gInt .u64 (fr 6) fun x6 => gInt .i64 (fr 10) fun x10 => gInt .i64 (fr 11) fun x11 => N a0 l0 c0 a1 l1 c1 x2 x6 x10 x11 h
def D8.t (R : Rt) (N7 : Option Addr → Nat → Nat → Option Addr → Nat → Nat → Int → Int → Int → Int → Hp → Prop) (a0 : Option Addr) (l0 : Nat) (c0 : Nat) (a1 : Option Addr) (l1 : Nat) (c1 : Nat) (x2 : Int) (x6 : Int) (x10 : Int) (x11 : Int) (h : Hp) : Prop :=
  cond (decide (x11 < x10)) (letK (IntKind.i64.wrap (x2 + x11)) fun n9 =>
  letK (IntKind.i64.wrap (x2 + x11)) fun n10 =>
  idxK a0 l0 n10 1 fun q11 =>
  ldK h q11 fun v12 =>
  gInt .u64 v12 fun x_13 =>
  idxK a1 l1 x11 1 fun q14 =>
  ldK h q14 fun v15 =>
  gInt .u64 v15 fun x_16 =>
  addK x_13 x_16 x6 fun n17 m17 =>
  idxK a0 l0 n9 1 fun q18 =>
  stK h q18 (.int .u64 n17) fun h19 =>
  letK (IntKind.i64.wrap (x11 + 1)) fun n20 =>
  N7 a0 l0 c0 a1 l1 c1 x2 m17 x10 n20 h19) (D2.t R a0 l0 c0 a1 l1 c1 x2 x6 h)
def D8.g (R : Rt) (N7 : Option Addr → Nat → Nat → Option Addr → Nat → Nat → Int → Int → Int → Int → Hp → Prop) (fr : Fr) (h : Hp) : Prop := gSlice (fr 0) fun a0 l0 c0 => gSlice (fr 1) fun a1 l1 c1 => gInt .i64 (fr 2) fun x2 => gInt .u64 (fr 6) fun x6 => gInt .i64 (fr 10) fun x10 => gInt .i64 (fr 11) fun x11 => D8.t R N7 a0 l0 c0 a1 l1 c1 x2 x6 x10 x11 h
theorem D8.ok (R : Rt) (N7 : Option Addr → Nat → Nat → Option Addr → Nat → Nat → Int → Int → Int → Int → Hp → Prop) (fr : Fr) (h : Hp) (g : D8.g R N7 fr h) : den prog E (cAt C [true, false, true, false, false]) (Ex.then (L7.g N7) (Ex.inBlock 0 (Ex.then (D2.g R) (retQ E [] R)))) fr h := by
  obtain ⟨a0, l0, c0, e0, g⟩ := gSlice_elim g
  obtain ⟨a1, l1, c1, e1, g⟩ := gSlice_elim g
  obtain ⟨x2, e2, g⟩ := gInt_elim g
  obtain ⟨x6, e6, g⟩ := gInt_elim g
  obtain ⟨x10, e10, g⟩ := gInt_elim g
  obtain ⟨x11, e11, g⟩ := gInt_elim g
  exact den_enter [(0, .slice a0 l0 c0), (1, .slice a1 l1 c1), (2, .int .i64 x2), (6, .int .u64 x6), (10, .int .i64 x10), (11, .int .i64 x11)] ⟨e0, e1, e2, e6, e10, e11, trivial⟩ (by kernel_rfl) g
def L7.t (R : Rt) : Nat → Option Addr → Nat → Nat → Option Addr → Nat → Nat → Int → Int → Int → Int → Hp → Prop
  | 0 => fun _ _ _ _ _ _ _ _ _ _ _ => False
  | n + 1 => fun a0 l0 c0 a1 l1 c1 x2 x6 x10 x11 h => D8.t R (L7.t R n) a0 l0 c0 a1 l1 c1 x2 x6 x10 x11 h
theorem L7.ok (R : Rt) (fr : Fr) (h : Hp) (g : L7.g (fun a0 l0 c0 a1 l1 c1 x2 x6 x10 x11 h => ∃ n, L7.t R n a0 l0 c0 a1 l1 c1 x2 x6 x10 x11 h) fr h) : den prog E (cAt C [true, false, true, false]) (Ex.inBlock 0 (Ex.then (D2.g R) (retQ E [] R))) fr h := by
  obtain ⟨a0, l0, c0, e0, g⟩ := gSlice_elim g
  obtain ⟨a1, l1, c1, e1, g⟩ := gSlice_elim g
  obtain ⟨x2, e2, g⟩ := gInt_elim g
  obtain ⟨x6, e6, g⟩ := gInt_elim g
  obtain ⟨x10, e10, g⟩ := gInt_elim g
  obtain ⟨x11, e11, g⟩ := gInt_elim g
  obtain ⟨n, g⟩ := g
  refine loop_ok (fun n => L7.g (L7.t R n)) (b := (cAt C [true, false, true, false, false])) (by kernel_rfl) (fun fr h g => ?_) (fun n => D8.ok R (L7.t R n)) n fr h (gSlice_intro e0 (gSlice_intro e1 (gInt_intro e2 (gInt_intro e6 (gInt_intro e10 (gInt_intro e11 (g)))))))
  obtain ⟨a0, l0, c0, e0, g⟩ := gSlice_elim g
  obtain ⟨a1, l1, c1, e1, g⟩ := gSlice_elim g
  obtain ⟨x2, e2, g⟩ := gInt_elim g
  obtain ⟨x6, e6, g⟩ := gInt_elim g
  obtain ⟨x10, e10, g⟩ := gInt_elim g
  obtain ⟨x11, e11, g⟩ := gInt_elim g
  exact g
theorem B9.ok (R : Rt) (fr : Fr) (h : Hp) (g : L7.g (fun a0 l0 c0 a1 l1 c1 x2 x6 x10 x11 h => ∃ n, L7.t R n a0 l0 c0 a1 l1 c1 x2 x6 x10 x11 h) fr h) : den prog E (cAt C [true, false, true]) (Ex.then (D2.g R) (retQ E [] R)) fr h :=
  den_block (by kernel_rfl) (L7.ok R fr h g)
def D6.t (R : Rt) (a0 : Option Addr) (l0 : Nat) (c0 : Nat) (a1 : Option Addr) (l1 : Nat) (c1 : Nat) (x2 : Int) (x6 : Int) (h : Hp) : Prop :=
  (∃ n, L7.t R n a0 l0 c0 a1 l1 c1 x2 x6 (((l1 : Nat) : Int)) 0 h)
def D6.g (R : Rt) (fr : Fr) (h : Hp) : Prop := gSlice (fr 0) fun a0 l0 c0 => gSlice (fr 1) fun a1 l1 c1 => gInt .i64 (fr 2) fun x2 => gInt .u64 (fr 6) fun x6 => D6.t R a0 l0 c0 a1 l1 c1 x2 x6 h
theorem D6.ok (R : Rt) (fr : Fr) (h : Hp) (g : D6.g R fr h) : den prog E (cAt C [true, false]) (Ex.then (D2.g R) (retQ E [] R)) fr h := by
  obtain ⟨a0, l0, c0, e0, g⟩ := gSlice_elim g
  obtain ⟨a1, l1, c1, e1, g⟩ := gSlice_elim g
  obtain ⟨x2, e2, g⟩ := gInt_elim g
  obtain ⟨x6, e6, g⟩ := gInt_elim g
  exact den_cut 1 (r := (cAt C [true, false, true])) (by kernel_rfl) (B9.ok R) (den_enter [(0, .slice a0 l0 c0), (1, .slice a1 l1 c1), (2, .int .i64 x2), (6, .int .u64 x6)] ⟨e0, e1, e2, e6, trivial⟩ (by kernel_rfl) g)
theorem W10.ok (R : Rt) (fr : Fr) (h : Hp) (g : D6.g R fr h) : den prog E (cAt C [true]) (retQ E [] R) fr h :=
  den_then (by kernel_rfl) (D2.ok R) (D6.ok R fr h g)
def D1.t (R : Rt) (a0 : Option Addr) (l0 : Nat) (c0 : Nat) (a1 : Option Addr) (l1 : Nat) (c1 : Nat) (x2 : Int) (h : Hp) : Prop :=
  D6.t R a0 l0 c0 a1 l1 c1 x2 0 h
def D1.g (R : Rt) (fr : Fr) (h : Hp) : Prop := gSlice (fr 0) fun a0 l0 c0 => gSlice (fr 1) fun a1 l1 c1 => gInt .i64 (fr 2) fun x2 => D1.t R a0 l0 c0 a1 l1 c1 x2 h
theorem D1.ok (R : Rt) (fr : Fr) (h : Hp) (g : D1.g R fr h) : den prog E C (retQ E [] R) fr h := by
  obtain ⟨a0, l0, c0, e0, g⟩ := gSlice_elim g
  obtain ⟨a1, l1, c1, e1, g⟩ := gSlice_elim g
  obtain ⟨x2, e2, g⟩ := gInt_elim g
  exact den_cut 1 (r := (cAt C [true])) (by kernel_rfl) (W10.ok R) (den_enter [(0, .slice a0 l0 c0), (1, .slice a1 l1 c1), (2, .int .i64 x2)] ⟨e0, e1, e2, trivial⟩ (by kernel_rfl) g)
def t (a0 : Option Addr) (l0 : Nat) (c0 : Nat) (a1 : Option Addr) (l1 : Nat) (c1 : Nat) (x2 : Int) (h : Hp) (R : Rt) : Prop := D1.t R a0 l0 c0 a1 l1 c1 x2 h
theorem ok {a0 : Option Addr} {l0 : Nat} {c0 : Nat} {a1 : Option Addr} {l1 : Nat} {c1 : Nat} {x2 : Int} {h : Hp} {R : Rt} (g : t a0 l0 c0 a1 l1 c1 x2 h R) : HC id #[.slice a0 l0 c0, .slice a1 l1 c1, .int .i64 x2] h R :=
  calls_of_den' envOk (c := C) (rs := []) Try.func88 (by kernel_rfl) (by kernel_rfl) (by kernel_rfl) (args := [.slice a0 l0 c0, .slice a1 l1 c1, .int .i64 x2]) (by kernel_rfl) (D1.ok R _ h (gSlice_intro rfl (gSlice_intro rfl (gInt_intro rfl (g)))))
end natmul_addAt

namespace natmul_cut
noncomputable def C : Code := bodyOf Try.f89
def D1.t (R : Rt) (a0 : Option Addr) (l0 : Nat) (c0 : Nat) (x1 : Int) (h : Hp) : Prop :=
  cond (decide (x1 ≥ (((l0 : Nat) : Int)))) (slK 1 a0 l0 c0 none (some (.int .i64 (((l0 : Nat) : Int)))) (some (.int .i64 (((l0 : Nat) : Int)))) fun a_1 l_1 c_1 =>
  HC natmul_trim.id #[.slice a_1 l_1 c_1] h fun v2 h3 =>
  gSlice v2 fun a_4 l_4 c_4 =>
  R (.tuple #[.slice a_4 l_4 c_4, .slice none 0 0]) h3) (slK 1 a0 l0 c0 none (some (.int .i64 x1)) (some (.int .i64 x1)) fun a_5 l_5 c_5 =>
  HC natmul_trim.id #[.slice a_5 l_5 c_5] h fun v6 h7 =>
  gSlice v6 fun a_8 l_8 c_8 =>
  slK 1 a0 l0 c0 (some (.int .i64 x1)) (some (.int .i64 (((l0 : Nat) : Int)))) (some (.int .i64 (((l0 : Nat) : Int)))) fun a_9 l_9 c_9 =>
  R (.tuple #[.slice a_8 l_8 c_8, .slice a_9 l_9 c_9]) h7)
def D1.g (R : Rt) (fr : Fr) (h : Hp) : Prop := gSlice (fr 0) fun a0 l0 c0 => gInt .i64 (fr 1) fun x1 => D1.t R a0 l0 c0 x1 h
theorem D1.ok (R : Rt) (fr : Fr) (h : Hp) (g : D1.g R fr h) : den prog E C (retQ E [.tmp 4, .tmp 5] R) fr h := by
  obtain ⟨a0, l0, c0, e0, g⟩ := gSlice_elim g
  obtain ⟨x1, e1, g⟩ := gInt_elim g
  exact den_enter [(0, .slice a0 l0 c0), (1, .int .i64 x1)] ⟨e0, e1, trivial⟩ (by kernel_rfl) g
def t (a0 : Option Addr) (l0 : Nat) (c0 : Nat) (x1 : Int) (h : Hp) (R : Rt) : Prop := D1.t R a0 l0 c0 x1 h
theorem ok {a0 : Option Addr} {l0 : Nat} {c0 : Nat} {x1 : Int} {h : Hp} {R : Rt} (g : t a0 l0 c0 x1 h R) : HC id #[.slice a0 l0 c0, .int .i64 x1] h R :=
  calls_of_den' envOk (c := C) (rs := [.tmp 4, .tmp 5]) Try.func89 (by kernel_rfl) (by kernel_rfl) (by kernel_rfl) (args := [.slice a0 l0 c0, .int .i64 x1]) (by kernel_rfl) (D1.ok R _ h (gSlice_intro rfl (gInt_intro rfl (g))))
end natmul_cut

namespace natmul_sum
noncomputable def C : Code := bodyOf Try.f90
def D2.t (R : Rt) (a0 : Option Addr) (l0 : Nat) (c0 : Nat) (a1 : Option Addr) (l1 : Nat) (c1 : Nat) (h : Hp) : Prop :=
  letK (IntKind.i64.wrap ((((l0 : Nat) : Int)) + 1)) fun n1 =>
  mkK h 27 T27 n1 n1 fun q2 h3 =>
  cpK h3 1 (some q2) n1.toNat (.slice a0 l0 c0) fun n4 h4 =>
  HC natmul_addAt.id #[.slice (some q2) n1.toNat n1.toNat, .slice a1 l1 c1, .int .i64 0] h4 fun v5 h6 =>
  gTup v5 fun y7 =>
  unnil y7 <| HC natmul_trim.id #[.slice (some q2) n1.toNat n1.toNat] h6 fun v8 h9 =>
  gSlice v8 fun a_10 l_10 c_10 =>
  R (.slice a_10 l_10 c_10) h9
def D2.g (R : Rt) (fr : Fr) (h : Hp) : Prop := gSlice (fr 0) fun a0 l0 c0 => gSlice (fr 1) fun a1 l1 c1 => D2.t R a0 l0 c0 a1 l1 c1 h
theorem D2.ok (R : Rt) (fr : Fr) (h : Hp) (g : D2.g R fr h) : den prog E (cAt C [true, true]) (retQ E [.tmp 4] R) fr h := by
  obtain ⟨a0, l0, c0, e0, g⟩ := gSlice_elim g
  obtain ⟨a1, l1, c1, e1, g⟩ := gSlice_elim g
  exact den_enter [(0, .slice a0 l0 c0), (1, .slice a1 l1 c1)] ⟨e0, e1, trivial⟩ (by kernel_rfl) g
def D1.t (R : Rt) (a0 : Option Addr) (l0 : Nat) (c0 : Nat) (a1 : Option Addr) (l1 : Nat) (c1 : Nat) (h : Hp) : Prop :=
  cond (decide ((((l0 : Nat) : Int)) < (((l1 : Nat) : Int)))) (D2.t R a1 l1 c1 a0 l0 c0 h) (D2.t R a0 l0 c0 a1 l1 c1 h)
def D1.g (R : Rt) (fr : Fr) (h : Hp) : Prop := gSlice (fr 0) fun a0 l0 c0 => gSlice (fr 1) fun a1 l1 c1 => D1.t R a0 l0 c0 a1 l1 c1 h
theorem D1.ok (R : Rt) (fr : Fr) (h : Hp) (g : D1.g R fr h) : den prog E C (retQ E [.tmp 4] R) fr h := by
  obtain ⟨a0, l0, c0, e0, g⟩ := gSlice_elim g
  obtain ⟨a1, l1, c1, e1, g⟩ := gSlice_elim g
  exact den_cut 2 (r := (cAt C [true, true])) (by kernel_rfl) (D2.ok R) (den_enter [(0, .slice a0 l0 c0), (1, .slice a1 l1 c1)] ⟨e0, e1, trivial⟩ (by kernel_rfl) g)
def t (a0 : Option Addr) (l0 : Nat) (c0 : Nat) (a1 : Option Addr) (l1 : Nat) (c1 : Nat) (h : Hp) (R : Rt) : Prop := D1.t R a0 l0 c0 a1 l1 c1 h
theorem ok {a0 : Option Addr} {l0 : Nat} {c0 : Nat} {a1 : Option Addr} {l1 : Nat} {c1 : Nat} {h : Hp} {R : Rt} (g : t a0 l0 c0 a1 l1 c1 h R) : HC id #[.slice a0 l0 c0, .slice a1 l1 c1] h R :=
  calls_of_den' envOk (c := C) (rs := [.tmp 4]) Try.func90 (by kernel_rfl) (by kernel_rfl) (by kernel_rfl) (args := [.slice a0 l0 c0, .slice a1 l1 c1]) (by kernel_rfl) (D1.ok R _ h (gSlice_intro rfl (gSlice_intro rfl (g))))
end natmul_sum

namespace natmul_takeAway
noncomputable def C : Code := bodyOf Try.f91
def L3.g (N : Option Addr → Nat → Nat → Int → Int → Hp → Prop) (fr : Fr) (h : Hp) : Prop := gSlice (fr 0) fun a0 l0 c0 => gInt .u64 (fr 4) fun x4 => gInt .i64 (fr 6) fun x6 => N a0 l0 c0 x4 x6 h
def D4.t (R : Rt) (N3 : Option Addr → Nat → Nat → Int → Int → Hp → Prop) (a0 : Option Addr) (l0 : Nat) (c0 : Nat) (x4 : Int) (x6 : Int) (h : Hp) : Prop :=
  cond (decide (x4 > 0)) (idxK a0 l0 x6 1 fun q1 =>
  ldK h q1 fun v2 =>
  gInt .u64 v2 fun x_3 =>
  subK x_3 0 x4 fun n4 m4 =>
  idxK a0 l0 x6 1 fun q5 =>
  stK h q5 (.int .u64 n4) fun h6 =>
  letK (IntKind.i64.wrap (x6 + 1)) fun n7 =>
  N3 a0 l0 c0 m4 n7 h6) (R (.tuple #[]) h)
def D4.g (R : Rt) (N3 : Option Addr → Nat → Nat → Int → Int → Hp → Prop) (fr : Fr) (h : Hp) : Prop := gSlice (fr 0) fun a0 l0 c0 => gInt .u64 (fr 4) fun x4 => gInt .i64 (fr 6) fun x6 => D4.t R N3 a0 l0 c0 x4 x6 h
theorem D4.ok (R : Rt) (N3 : Option Addr → Nat → Nat → Int → Int → Hp → Prop) (fr : Fr) (h : Hp) (g : D4.g R N3 fr h) : den prog E (cAt C [true, true, true, false, false]) (Ex.then (L3.g N3) (Ex.inBlock 2 (retQ E [] R))) fr h := by
  obtain ⟨a0, l0, c0, e0, g⟩ := gSlice_elim g
  obtain ⟨x4, e4, g⟩ := gInt_elim g
  obtain ⟨x6, e6, g⟩ := gInt_elim g
  exact den_enter [(0, .slice a0 l0 c0), (4, .int .u64 x4), (6, .int .i64 x6)] ⟨e0, e4, e6, trivial⟩ (by kernel_rfl) g
def L3.t (R : Rt) : Nat → Option Addr → Nat → Nat → Int → Int → Hp → Prop
  | 0 => fun _ _ _ _ _ _ => False
  | n + 1 => fun a0 l0 c0 x4 x6 h => D4.t R (L3.t R n) a0 l0 c0 x4 x6 h
theorem L3.ok (R : Rt) (fr : Fr) (h : Hp) (g : L3.g (fun a0 l0 c0 x4 x6 h => ∃ n, L3.t R n a0 l0 c0 x4 x6 h) fr h) : den prog E (cAt C [true, true, true, false]) (Ex.inBlock 2 (retQ E [] R)) fr h := by
  obtain ⟨a0, l0, c0, e0, g⟩ := gSlice_elim g
  obtain ⟨x4, e4, g⟩ := gInt_elim g
  obtain ⟨x6, e6, g⟩ := gInt_elim g
  obtain ⟨n, g⟩ := g
  refine loop_ok (fun n => L3.g (L3.t R n)) (b := (cAt C [true, true, true, false, false])) (by kernel_rfl) (fun fr h g => ?_) (fun n => D4.ok R (L3.t R n)) n fr h (gSlice_intro e0 (gInt_intro e4 (gInt_intro e6 (g))))
  obtain ⟨a0, l0, c0, e0, g⟩ := gSlice_elim g
  obtain ⟨x4, e4, g⟩ := gInt_elim g
  obtain ⟨x6, e6, g⟩ := gInt_elim g
  exact g
theorem B5.ok (R : Rt) (fr : Fr) (h : Hp) (g : L3.g (fun a0 l0 c0 x4 x6 h => ∃ n, L3.t R n a0 l0 c0 x4 x6 h) fr h) : den prog E (cAt C [true, true, true]) (retQ E [] R) fr h :=
  den_block (by kernel_rfl) (L3.ok R fr h g)
def D2.t (R : Rt) (a0 : Option Addr) (l0 : Nat) (c0 : Nat) (a1 : Option Addr) (l1 : Nat) (c1 : Nat) (x4 : Int) (h : Hp) : Prop :=
  (∃ n, L3.t R n a0 l0 c0 x4 (((l1 : Nat) : Int)) h)
def D2.g (R : Rt) (fr : Fr) (h : Hp) : Prop := gSlice (fr 0) fun a0 l0 c0 => gSlice (fr 1) fun a1 l1 c1 => gInt .u64 (fr 4) fun x4 => D2.t R a0 l0 c0 a1 l1 c1 x4 h
theorem D2.ok (R : Rt) (fr : Fr) (h : Hp) (g : D2.g R fr h) : den prog E (cAt C [true, true]) (retQ E [] R) fr h := by
  obtain ⟨a0, l0, c0, e0, g⟩ := gSlice_elim g
  obtain ⟨a1, l1, c1, e1, g⟩ := gSlice_elim g
  obtain ⟨x4, e4, g⟩ := gInt_elim g
  exact den_cut 1 (r := (cAt C [true, true, true])) (by kernel_rfl) (B5.ok R) (den_enter [(0, .slice a0 l0 c0), (1, .slice a1 l1 c1), (4, .int .u64 x4)] ⟨e0, e1, e4, trivial⟩ (by kernel_rfl) g)
def L7.g (N : Option Addr → Nat → Nat → Option Addr → Nat → Nat → Int → Int → Int → Hp → Prop) (fr : Fr) (h : Hp) : Prop := gSlice (fr 0) fun a0 l0 c0 => gSlice (fr 1) fun a1 l1 c1 => gInt .u64 (fr 4) fun x4 => gInt .i64 (fr 8) fun x8 => gInt .i64 (fr 9) fun x9 => N a0 l0 c0 a1 l1 c1 x4 x8 x9 h
def D8.t (R : Rt) (N7 : Option Addr → Nat → Nat → Option Addr → Nat → Nat → Int → Int → Int → Hp → Prop) (a0 : Option Addr) (l0 : Nat) (c0 : Nat) (a1 : Option Addr) (l1 : Nat) (c1 : Nat) (x4 : Int) (x8 : Int) (x9 : Int) (h : Hp) : Prop :=
  cond (decide (x9 < x8)) (idxK a0 l0 x9 1 fun q8 =>
  ldK h q8 fun v9 =>
  gInt .u64 v9 fun x_10 =>
  idxK a1 l1 x9 1 fun q11 =>
  ldK h q11 fun v12 =>
  gInt .u64 v12 fun x_13 =>
  subK x_10 x_13 x4 fun n14 m14 =>
  idxK a0 l0 x9 1 fun q15 =>
  stK h q15 (.int .u64 n14) fun h16 =>
  letK (IntKind.i64.wrap (x9 + 1)) fun n17 =>
  N7 a0 l0 c0 a1 l1 c1 m14 x8 n17 h16) (D2.t R a0 l0 c0 a1 l1 c1 x4 h)
def D8.g (R : Rt) (N7 : Option Addr → Nat → Nat → Option Addr → Nat → Nat → Int → Int → Int → Hp → Prop) (fr : Fr) (h : Hp) : Prop := gSlice (fr 0) fun a0 l0 c0 => gSlice (fr 1) fun a1 l1 c1 => gInt .u64 (fr 4) fun x4 => gInt .i64 (fr 8) fun x8 => gInt .i64 (fr 9) fun x9 => D8.t R N7 a0 l0 c0 a1 l1 c1 x4 x8 x9 h
theorem D8.ok (R : Rt) (N7 : Option Addr → Nat → Nat → Option Addr → Nat → Nat → Int → Int → Int → Hp → Prop) (fr : Fr) (h : Hp) (g : D8.g R N7 fr h) : den prog E (cAt C [true, false, true, false, false]) (Ex.then (L7.g N7) (Ex.inBlock 0 (Ex.then (D2.g R) (retQ E [] R)))) fr h := by
  obtain ⟨a0, l0, c0, e0, g⟩ := gSlice_elim g
  obtain ⟨a1, l1, c1, e1, g⟩ := gSlice_elim g
  obtain ⟨x4, e4, g⟩ := gInt_elim g
  obtain ⟨x8, e8, g⟩ := gInt_elim g
  obtain ⟨x9, e9, g⟩ := gInt_elim g
  exact den_enter [(0, .slice a0 l0 c0), (1, .slice a1 l1 c1), (4, .int .u64 x4), (8, .int .i64 x8), (9, .int .i64 x9)] ⟨e0, e1, e4, e8, e9, trivial⟩ (by kernel_rfl) g
def L7.t (R : Rt) : Nat → Option Addr → Nat → Nat → Option Addr → Nat → Nat → Int → Int → Int → Hp → Prop
  | 0 => fun _ _ _ _ _ _ _ _ _ _ => False
  | n + 1 => fun a0 l0 c0 a1 l1 c1 x4 x8 x9 h => D8.t R (L7.t R n) a0 l0 c0 a1 l1 c1 x4 x8 x9 h
theorem L7.ok (R : Rt) (fr : Fr) (h : Hp) (g : L7.g (fun a0 l0 c0 a1 l1 c1 x4 x8 x9 h => ∃ n, L7.t R n a0 l0 c0 a1 l1 c1 x4 x8 x9 h) fr h) : den prog E (cAt C [true, false, true, false]) (Ex.inBlock 0 (Ex.then (D2.g R) (retQ E [] R))) fr h := by
  obtain ⟨a0, l0, c0, e0, g⟩ := gSlice_elim g
  obtain ⟨a1, l1, c1, e1, g⟩ := gSlice_elim g
  obtain ⟨x4, e4, g⟩ := gInt_elim g
  obtain ⟨x8, e8, g⟩ := gInt_elim g
  obtain ⟨x9, e9, g⟩ := gInt_elim g
  obtain ⟨n, g⟩ := g
  refine loop_ok (fun n => L7.g (L7.t R n)) (b := (cAt C [true, false, true, false, false])) (by kernel_rfl) (fun fr h g => ?_) (fun n => D8.ok R (L7.t R n)) n fr h (gSlice_intro e0 (gSlice_intro e1 (gInt_intro e4 (gInt_intro e8 (gInt_intro e9 (g))))))
  obtain ⟨a0, l0, c0, e0, g⟩ := gSlice_elim g
  obtain ⟨a1, l1, c1, e1, g⟩ := gSlice_elim g
  obtain ⟨x4, e4, g⟩ := gInt_elim g
  obtain ⟨x8, e8, g⟩ := gInt_elim g
  obtain ⟨x9, e9, g⟩ := gInt_elim g
  exact g
theorem B9.ok (R : Rt) (fr : Fr) (h : Hp) (g : L7.g (fun a0 l0 c0 a1 l1 c1 x4 x8 x9 h => ∃ n, L7.t R n a0 l0 c0 a1 l1 c1 x4 x8 x9 h) fr h) : den prog E (cAt C [true, false, true]) (Ex.then (D2.g R) (retQ E [] R)) fr h :=
  den_block (by kernel_rfl) (L7.ok R fr h g)
def D6.t (R : Rt) (a0 : Option Addr) (l0 : Nat) (c0 : Nat) (a1 : Option Addr) (l1 : Nat) (c1 : Nat) (x4 : Int) (h : Hp) : Prop :=
  (∃ n, L7.t R n a0 l0 c0 a1 l1 c1 x4 (((l1 : Nat) : Int)) 0 h)
def D6.g (R : Rt) (fr : Fr) (h : Hp) : Prop := gSlice (fr 0) fun a0 l0 c0 => gSlice (fr 1) fun a1 l1 c1 => gInt .u64 (fr 4) fun x4 => D6.t R a0 l0 c0 a1 l1 c1 x4 h
theorem D6.ok (R : Rt) (fr : Fr) (h : Hp) (g : D6.g R fr h) : den prog E (cAt C [true, false]) (Ex.then (D2.g R) (retQ E [] R)) fr h := by
  obtain ⟨a0, l0, c0, e0, g⟩ := gSlice_elim g
  obtain ⟨a1, l1, c1, e1, g⟩ := gSlice_elim g
  obtain ⟨x4, e4, g⟩ := gInt_elim g
  exact den_cut 1 (r := (cAt C [true, false, true])) (by kernel_rfl) (B9.ok R) (den_enter [(0, .slice a0 l0 c0), (1, .slice a1 l1 c1), (4, .int .u64 x4)] ⟨e0, e1, e4, trivial⟩ (by kernel_rfl) g)
theorem W10.ok (R : Rt) (fr : Fr) (h : Hp) (g : D6.g R fr h) : den prog E (cAt C [true]) (retQ E [] R) fr h :=
  den_then (by kernel_rfl) (D2.ok R) (D6.ok R fr h g)
def D1.t (R : Rt) (a0 : Option Addr) (l0 : Nat) (c0 : Nat) (a1 : Option Addr) (l1 : Nat) (c1 : Nat) (h : Hp) : Prop :=
  D6.t R a0 l0 c0 a1 l1 c1 0 h
def D1.g (R : Rt) (fr : Fr) (h : Hp) : Prop := gSlice (fr 0) fun a0 l0 c0 => gSlice (fr 1) fun a1 l1 c1 => D1.t R a0 l0 c0 a1 l1 c1 h
theorem D1.ok (R : Rt) (fr : Fr) (h : Hp) (g : D1.g R fr h) : den prog E C (retQ E [] R) fr h := by
  obtain ⟨a0, l0, c0, e0, g⟩ := gSlice_elim g
  obtain ⟨a1, l1, c1, e1, g⟩ := gSlice_elim g
  exact den_cut 1 (r := (cAt C [true])) (by kernel_rfl) (W10.ok R) (den_enter [(0, .slice a0 l0 c0), (1, .slice a1 l1 c1)] ⟨e0, e1, trivial⟩ (by kernel_rfl) g)
def t (a0 : Option Addr) (l0 : Nat) (c0 : Nat) (a1 : Option Addr) (l1 : Nat) (c1 : Nat) (h : Hp) (R : Rt) : Prop := D1.t R a0 l0 c0 a1 l1 c1 h
theorem ok {a0 : Option Addr} {l0 : Nat} {c0 : Nat} {a1 : Option Addr} {l1 : Nat} {c1 : Nat} {h : Hp} {R : Rt} (g : t a0 l0 c0 a1 l1 c1 h R) : HC id #[.slice a0 l0 c0, .slice a1 l1 c1] h R :=
  calls_of_den' envOk (c := C) (rs := []) Try.func91 (by kernel_rfl) (by kernel_rfl) (by kernel_rfl) (args := [.slice a0 l0 c0, .slice a1 l1 c1]) (by kernel_rfl) (D1.ok R _ h (gSlice_intro rfl (gSlice_intro rfl (g))))
end natmul_takeAway

namespace gnomonref01_Bits
noncomputable def C : Code := bodyOf Try.f92
def D2.t (R : Rt) (x3 : Int) (h : Hp) : Prop :=
  R (.int .i64 x3) h
def D2.g (R : Rt) (fr : Fr) (h : Hp) : Prop := gInt .i64 (fr 3) fun x3 => D2.t R x3 h
theorem D2.ok (R : Rt) (fr : Fr) (h : Hp) (g : D2.g R fr h) : den prog E (cAt C [true, true, true, true]) (retQ E [.tmp 2] R) fr h := by
  obtain ⟨x3, e3, g⟩ := gInt_elim g
  exact den_enter [(3, .int .i64 x3)] ⟨e3, trivial⟩ (by kernel_rfl) g
def L4.g (N : Int → Int → Hp → Prop) (fr : Fr) (h : Hp) : Prop := gInt .i64 (fr 3) fun x3 => gInt .u32 (fr 4) fun x4 => N x3 x4 h
def D5.t (R : Rt) (N4 : Int → Int → Hp → Prop) (x3 : Int) (x4 : Int) (h : Hp) : Prop :=
  cond (decide (x4 > 0)) (letK (IntKind.i64.wrap (x3 + 1)) fun n7 =>
  (2 : Int) ≠ 0 ∧ letK (IntKind.u32.wrap (Int.tdiv x4 2)) fun n8 =>
  N4 n7 n8 h) (D2.t R x3 h)
def D5.g (R : Rt) (N4 : Int → Int → Hp → Prop) (fr : Fr) (h : Hp) : Prop := gInt .i64 (fr 3) fun x3 => gInt .u32 (fr 4) fun x4 => D5.t R N4 x3 x4 h
theorem D5.ok (R : Rt) (N4 : Int → Int → Hp → Prop) (fr : Fr) (h : Hp) (g : D5.g R N4 fr h) : den prog E (cAt C [true, true, true, false, true, false, false]) (Ex.then (L4.g N4) (Ex.inBlock 0 (Ex.then (D2.g R) (retQ E [.tmp 2] R)))) fr h := by
  obtain ⟨x3, e3, g⟩ := gInt_elim g
  obtain ⟨x4, e4, g⟩ := gInt_elim g
  exact den_enter [(3, .int .i64 x3), (4, .int .u32 x4)] ⟨e3, e4, trivial⟩ (by kernel_rfl) g
def L4.t (R : Rt) : Nat → Int → Int → Hp → Prop
  | 0 => fun _ _ _ => False
  | n + 1 => fun x3 x4 h => D5.t R (L4.t R n) x3 x4 h
theorem L4.ok (R : Rt) (fr : Fr) (h : Hp) (g : L4.g (fun x3 x4 h => ∃ n, L4.t R n x3 x4 h) fr h) : den prog E (cAt C [true, true, true, false, true, false]) (Ex.inBlock 0 (Ex.then (D2.g R) (retQ E [.tmp 2] R))) fr h := by
  obtain ⟨x3, e3, g⟩ := gInt_elim g
  obtain ⟨x4, e4, g⟩ := gInt_elim g
  obtain ⟨n, g⟩ := g
  refine loop_ok (fun n => L4.g (L4.t R n)) (b := (cAt C [true, true, true, false, true, false, false])) (by kernel_rfl) (fun fr h g => ?_) (fun n => D5.ok R (L4.t R n)) n fr h (gInt_intro e3 (gInt_intro e4 (g)))
  obtain ⟨x3, e3, g⟩ := gInt_elim g
  obtain ⟨x4, e4, g⟩ := gInt_elim g
  exact g
theorem B6.ok (R : Rt) (fr : Fr) (h : Hp) (g : L4.g (fun x3 x4 h => ∃ n, L4.t R n x3 x4 h) fr h) : den prog E (cAt C [true, true, true, false, true]) (Ex.then (D2.g R) (retQ E [.tmp 2] R)) fr h :=
  den_block (by kernel_rfl) (L4.ok R fr h g)
def D3.t (R : Rt) (a0 : Option Addr) (l0 : Nat) (c0 : Nat) (x3 : Int) (h : Hp) : Prop :=
  letK (IntKind.i64.wrap ((((l0 : Nat) : Int)) - 1)) fun n3 =>
  idxK a0 l0 n3 1 fun q4 =>
  ldK h q4 fun v5 =>
  gInt .u32 v5 fun x_6 =>
  (∃ n, L4.t R n x3 x_6 h)
def D3.g (R : Rt) (fr : Fr) (h : Hp) : Prop := gSlice (fr 0) fun a0 l0 c0 => gInt .i64 (fr 3) fun x3 => D3.t R a0 l0 c0 x3 h
theorem D3.ok (R : Rt) (fr : Fr) (h : Hp) (g : D3.g R fr h) : den prog E (cAt C [true, true, true, false]) (Ex.then (D2.g R) (retQ E [.tmp 2] R)) fr h := by
  obtain ⟨a0, l0, c0, e0, g⟩ := gSlice_elim g
  obtain ⟨x3, e3, g⟩ := gInt_elim g
  exact den_cut 1 (r := (cAt C [true, true, true, false, true])) (by kernel_rfl) (B6.ok R) (den_enter [(0, .slice a0 l0 c0), (3, .int .i64 x3)] ⟨e0, e3, trivial⟩ (by kernel_rfl) g)
theorem W7.ok (R : Rt) (fr : Fr) (h : Hp) (g : D3.g R fr h) : den prog E (cAt C [true, true, true]) (retQ E [.tmp 2] R) fr h :=
  den_then (by kernel_rfl) (D2.ok R) (D3.ok R fr h g)
def D1.t (R : Rt) (a0 : Option Addr) (l0 : Nat) (c0 : Nat) (h : Hp) : Prop :=
  cond ((((l0 : Nat) : Int)) == 0) (R (.int .i64 0) h) (letK (IntKind.i64.wrap ((((l0 : Nat) : Int)) - 1)) fun n1 =>
  letK (IntKind.i64.wrap (32 * n1)) fun n2 =>
  D3.t R a0 l0 c0 n2 h)
def D1.g (R : Rt) (fr : Fr) (h : Hp) : Prop := gSlice (fr 0) fun a0 l0 c0 => D1.t R a0 l0 c0 h
theorem D1.ok (R : Rt) (fr : Fr) (h : Hp) (g : D1.g R fr h) : den prog E C (retQ E [.tmp 2] R) fr h := by
  obtain ⟨a0, l0, c0, e0, g⟩ := gSlice_elim g
  exact den_cut 3 (r := (cAt C [true, true, true])) (by kernel_rfl) (W7.ok R) (den_enter [(0, .slice a0 l0 c0)] ⟨e0, trivial⟩ (by kernel_rfl) g)
def t (a0 : Option Addr) (l0 : Nat) (c0 : Nat) (h : Hp) (R : Rt) : Prop := D1.t R a0 l0 c0 h
theorem ok {a0 : Option Addr} {l0 : Nat} {c0 : Nat} {h : Hp} {R : Rt} (g : t a0 l0 c0 h R) : HC id #[.slice a0 l0 c0] h R :=
  calls_of_den' envOk (c := C) (rs := [.tmp 2]) Try.func92 (by kernel_rfl) (by kernel_rfl) (by kernel_rfl) (args := [.slice a0 l0 c0]) (by kernel_rfl) (D1.ok R _ h (gSlice_intro rfl (g)))
end gnomonref01_Bits

namespace gnomonref01_digit
noncomputable def C : Code := bodyOf Try.f93
def D2.t (R : Rt) (x7 : Int) (h : Hp) : Prop :=
  letK (IntKind.u32.wrap x7) fun n18 => R (.int .u32 n18) h
def D2.g (R : Rt) (fr : Fr) (h : Hp) : Prop := gInt .u64 (fr 7) fun x7 => D2.t R x7 h
theorem D2.ok (R : Rt) (fr : Fr) (h : Hp) (g : D2.g R fr h) : den prog E (cAt C [true, true, true, true, true, true, true]) (retQ E [.tmp 4] R) fr h := by
  obtain ⟨x7, e7, g⟩ := gInt_elim g
  exact den_enter [(7, .int .u64 x7)] ⟨e7, trivial⟩ (by kernel_rfl) g
def L3.g (N : Option Addr → Nat → Nat → Option Addr → Nat → Nat → Int → Int → Int → Hp → Prop) (fr : Fr) (h : Hp) : Prop := gSlice (fr 0) fun a0 l0 c0 => gSlice (fr 1) fun a1 l1 c1 => gInt .i64 (fr 5) fun x5 => gInt .u64 (fr 7) fun x7 => gInt .u64 (fr 9) fun x9 => N a0 l0 c0 a1 l1 c1 x5 x7 x9 h
def D6.t (R : Rt) (N3 : Option Addr → Nat → Nat → Option Addr → Nat → Nat → Int → Int → Int → Hp → Prop) (a0 : Option Addr) (l0 : Nat) (c0 : Nat) (a1 : Option Addr) (l1 : Nat) (c1 : Nat) (x5 : Int) (x7 : Int) (x8 : Int) (x9 : Int) (h : Hp) : Prop :=
  letK (IntKind.u64.wrap (x9 - (if x8 < x9 then x8 else x9))) fun n20 => N3 a0 l0 c0 a1 l1 c1 x5 x7 n20 h
def D6.g (R : Rt) (N3 : Option Addr → Nat → Nat → Option Addr → Nat → Nat → Int → Int → Int → Hp → Prop) (fr : Fr) (h : Hp) : Prop := gSlice (fr 0) fun a0 l0 c0 => gSlice (fr 1) fun a1 l1 c1 => gInt .i64 (fr 5) fun x5 => gInt .u64 (fr 7) fun x7 => gInt .u64 (fr 8) fun x8 => gInt .u64 (fr 9) fun x9 => D6.t R N3 a0 l0 c0 a1 l1 c1 x5 x7 x8 x9 h
theorem D6.ok (R : Rt) (N3 : Option Addr → Nat → Nat → Option Addr → Nat → Nat → Int → Int → Int → Hp → Prop) (fr : Fr) (h : Hp) (g : D6.g R N3 fr h) : den prog E (cAt C [true, true, true, true, true, true, false, false, false, true, false, true, true, true]) (Ex.inBlock 3 (Ex.then (L3.g N3) (Ex.inBlock 2 (Ex.then (D2.g R) (retQ E [.tmp 4] R))))) fr h := by
  obtain ⟨a0, l0, c0, e0, g⟩ := gSlice_elim g
  obtain ⟨a1, l1, c1, e1, g⟩ := gSlice_elim g
  obtain ⟨x5, e5, g⟩ := gInt_elim g
  obtain ⟨x7, e7, g⟩ := gInt_elim g
  obtain ⟨x8, e8, g⟩ := gInt_elim g
  obtain ⟨x9, e9, g⟩ := gInt_elim g
  exact den_enter [(0, .slice a0 l0 c0), (1, .slice a1 l1 c1), (5, .int .i64 x5), (7, .int .u64 x7), (8, .int .u64 x8), (9, .int .u64 x9)] ⟨e0, e1, e5, e7, e8, e9, trivial⟩ (by kernel_rfl) g
def L8.g (N : Option Addr → Nat → Nat → Option Addr → Nat → Nat → Int → Int → Int → Int → Int → Hp → Prop) (fr : Fr) (h : Hp) : Prop := gSlice (fr 0) fun a0 l0 c0 => gSlice (fr 1) fun a1 l1 c1 => gInt .i64 (fr 5) fun x5 => gInt .u64 (fr 7) fun x7 => gInt .u64 (fr 8) fun x8 => gInt .u64 (fr 9) fun x9 => gInt .i64 (fr 13) fun x13 => N a0 l0 c0 a1 l1 c1 x5 x7 x8 x9 x13 h
def D9.t (R : Rt) (N3 : Option Addr → Nat → Nat → Option Addr → Nat → Nat → Int → Int → Int → Hp → Prop) (N8 : Option Addr → Nat → Nat → Option Addr → Nat → Nat → Int → Int → Int → Int → Int → Hp → Prop) (a0 : Option Addr) (l0 : Nat) (c0 : Nat) (a1 : Option Addr) (l1 : Nat) (c1 : Nat) (x5 : Int) (x7 : Int) (x8 : Int) (x9 : Int) (x13 : Int) (h : Hp) : Prop :=
  cond (decide (x13 ≤ x5)) (idxK a0 l0 x13 1 fun q21 =>
  ldK h q21 fun v22 =>
  gInt .u32 v22 fun x_23 =>
  letK (IntKind.u64.wrap x_23) fun n24 =>
  letK (IntKind.u64.wrap (x8 + n24)) fun n25 =>
  cond (decide (x13 < x5)) (idxK a1 l1 x13 1 fun q26 =>
  ldK h q26 fun v27 =>
  gInt .u32 v27 fun x_28 =>
  letK (IntKind.u64.wrap x_28) fun n29 =>
  letK (IntKind.u64.wrap (n25 + n29)) fun n30 =>
  letK (andI .u64 n30 4294967295) fun n31 =>
  letK (IntKind.u32.wrap n31) fun n32 =>
  idxK a0 l0 x13 1 fun q33 =>
  stK h q33 (.int .u32 n32) fun h34 =>
  0 ≤ (32 : Int) ∧ letK (shrI .u64 n30 32) fun n35 =>
  letK (IntKind.i64.wrap (x13 + 1)) fun n36 =>
  N8 a0 l0 c0 a1 l1 c1 x5 x7 n35 x9 n36 h34) (letK (andI .u64 n25 4294967295) fun n37 =>
  letK (IntKind.u32.wrap n37) fun n38 =>
  idxK a0 l0 x13 1 fun q39 =>
  stK h q39 (.int .u32 n38) fun h40 =>
  0 ≤ (32 : Int) ∧ letK (shrI .u64 n25 32) fun n41 =>
  letK (IntKind.i64.wrap (x13 + 1)) fun n42 =>
  N8 a0 l0 c0 a1 l1 c1 x5 x7 n41 x9 n42 h40)) (D6.t R N3 a0 l0 c0 a1 l1 c1 x5 x7 x8 x9 h)
def D9.g (R : Rt) (N3 : Option Addr → Nat → Nat → Option Addr → Nat → Nat → Int → Int → Int → Hp → Prop) (N8 : Option Addr → Nat → Nat → Option Addr → Nat → Nat → Int → Int → Int → Int → Int → Hp → Prop) (fr : Fr) (h : Hp) : Prop := gSlice (fr 0) fun a0 l0 c0 => gSlice (fr 1) fun a1 l1 c1 => gInt .i64 (fr 5) fun x5 => gInt .u64 (fr 7) fun x7 => gInt .u64 (fr 8) fun x8 => gInt .u64 (fr 9) fun x9 => gInt .i64 (fr 13) fun x13 => D9.t R N3 N8 a0 l0 c0 a1 l1 c1 x5 x7 x8 x9 x13 h
theorem D9.ok (R : Rt) (N3 : Option Addr → Nat → Nat → Option Addr → Nat → Nat → Int → Int → Int → Hp → Prop) (N8 : Option Addr → Nat → Nat → Option Addr → Nat → Nat → Int → Int → Int → Int → Int → Hp → Prop) (fr : Fr) (h : Hp) (g : D9.g R N3 N8 fr h) : den prog E (cAt C [true, true, true, true, true, true, false, false, false, true, false, true, true, false, true, false, false]) (Ex.then (L8.g N8) (Ex.inBlock 4 (Ex.then (D6.g R N3) (Ex.inBlock 3 (Ex.then (L3.g N3) (Ex.inBlock 2 (Ex.then (D2.g R) (retQ E [.tmp 4] R)))))))) fr h := by
  obtain ⟨a0, l0, c0, e0, g⟩ := gSlice_elim g
  obtain ⟨a1, l1, c1, e1, g⟩ := gSlice_elim g
  obtain ⟨x5, e5, g⟩ := gInt_elim g
  obtain ⟨x7, e7, g⟩ := gInt_elim g
  obtain ⟨x8, e8, g⟩ := gInt_elim g
  obtain ⟨x9, e9, g⟩ := gInt_elim g
  obtain ⟨x13, e13, g⟩ := gInt_elim g
  exact den_enter [(0, .slice a0 l0 c0), (1, .slice a1 l1 c1), (5, .int .i64 x5), (7, .int .u64 x7), (8, .int .u64 x8), (9, .int .u64 x9), (13, .int .i64 x13)] ⟨e0, e1, e5, e7, e8, e9, e13, trivial⟩ (by kernel_rfl) g
def L8.t (R : Rt) (N3 : Option Addr → Nat → Nat → Option Addr → Nat → Nat → Int → Int → Int → Hp → Prop) : Nat → Option Addr → Nat → Nat → Option Addr → Nat → Nat → Int → Int → Int → Int → Int → Hp → Prop
  | 0 => fun _ _ _ _ _ _ _ _ _ _ _ _ => False
  | n + 1 => fun a0 l0 c0 a1 l1 c1 x5 x7 x8 x9 x13 h => D9.t R N3 (L8.t R N3 n) a0 l0 c0 a1 l1 c1 x5 x7 x8 x9 x13 h
theorem L8.ok (R : Rt) (N3 : Option Addr → Nat → Nat → Option Addr → Nat → Nat → Int → Int → Int → Hp → Prop) (fr : Fr) (h : Hp) (g : L8.g (fun a0 l0 c0 a1 l1 c1 x5 x7 x8 x9 x13 h => ∃ n, L8.t R N3 n a0 l0 c0 a1 l1 c1 x5 x7 x8 x9 x13 h) fr h) : den prog E (cAt C [true, true, true, true, true, true, false, false, false, true, false, true, true, false, true, false]) (Ex.inBlock 4 (Ex.then (D6.g R N3) (Ex.inBlock 3 (Ex.then (L3.g N3) (Ex.inBlock 2 (Ex.then (D2.g R) (retQ E [.tmp 4] R))))))) fr h := by
  obtain ⟨a0, l0, c0, e0, g⟩ := gSlice_elim g
  obtain ⟨a1, l1, c1, e1, g⟩ := gSlice_elim g
  obtain ⟨x5, e5, g⟩ := gInt_elim g
  obtain ⟨x7, e7, g⟩ := gInt_elim g
  obtain ⟨x8, e8, g⟩ := gInt_elim g
  obtain ⟨x9, e9, g⟩ := gInt_elim g
  obtain ⟨x13, e13, g⟩ := gInt_elim g
  obtain ⟨n, g⟩ := g
  refine loop_ok (fun n => L8.g (L8.t R N3 n)) (b := (cAt C [true, true, true, true, true, true, false, false, false, true, false, true, true, false, true, false, false])) (by kernel_rfl) (fun fr h g => ?_) (fun n => D9.ok R N3 (L8.t R N3 n)) n fr h (gSlice_intro e0 (gSlice_intro e1 (gInt_intro e5 (gInt_intro e7 (gInt_intro e8 (gInt_intro e9 (gInt_intro e13 (g))))))))
  obtain ⟨a0, l0, c0, e0, g⟩ := gSlice_elim g
  obtain ⟨a1, l1, c1, e1, g⟩ := gSlice_elim g
  obtain ⟨x5, e5, g⟩ := gInt_elim g
  obtain ⟨x7, e7, g⟩ := gInt_elim g
  obtain ⟨x8, e8, g⟩ := gInt_elim g
  obtain ⟨x9, e9, g⟩ := gInt_elim g
  obtain ⟨x13, e13, g⟩ := gInt_elim g
  exact g
theorem B10.ok (R : Rt) (N3 : Option Addr → Nat → Nat → Option Addr → Nat → Nat → Int → Int → Int → Hp → Prop) (fr : Fr) (h : Hp) (g : L8.g (fun a0 l0 c0 a1 l1 c1 x5 x7 x8 x9 x13 h => ∃ n, L8.t R N3 n a0 l0 c0 a1 l1 c1 x5 x7 x8 x9 x13 h) fr h) : den prog E (cAt C [true, true, true, true, true, true, false, false, false, true, false, true, true, false, true]) (Ex.then (D6.g R N3) (Ex.inBlock 3 (Ex.then (L3.g N3) (Ex.inBlock 2 (Ex.then (D2.g R) (retQ E [.tmp 4] R)))))) fr h :=
  den_block (by kernel_rfl) (L8.ok R N3 fr h g)
def D7.t (R : Rt) (N3 : Option Addr → Nat → Nat → Option Addr → Nat → Nat → Int → Int → Int → Hp → Prop) (a0 : Option Addr) (l0 : Nat) (c0 : Nat) (a1 : Option Addr) (l1 : Nat) (c1 : Nat) (x5 : Int) (x7 : Int) (x8 : Int) (x9 : Int) (h : Hp) : Prop :=
  (∃ n, L8.t R N3 n a0 l0 c0 a1 l1 c1 x5 x7 x8 x9 0 h)
def D7.g (R : Rt) (N3 : Option Addr → Nat → Nat → Option Addr → Nat → Nat → Int → Int → Int → Hp → Prop) (fr : Fr) (h : Hp) : Prop := gSlice (fr 0) fun a0 l0 c0 => gSlice (fr 1) fun a1 l1 c1 => gInt .i64 (fr 5) fun x5 => gInt .u64 (fr 7) fun x7 => gInt .u64 (fr 8) fun x8 => gInt .u64 (fr 9) fun x9 => D7.t R N3 a0 l0 c0 a1 l1 c1 x5 x7 x8 x9 h
theorem D7.ok (R : Rt) (N3 : Option Addr → Nat → Nat → Option Addr → Nat → Nat → Int → Int → Int → Hp → Prop) (fr : Fr) (h : Hp) (g : D7.g R N3 fr h) : den prog E (cAt C [true, true, true, true, true, true, false, false, false, true, false, true, true, false]) (Ex.then (D6.g R N3) (Ex.inBlock 3 (Ex.then (L3.g N3) (Ex.inBlock 2 (Ex.then (D2.g R) (retQ E [.tmp 4] R)))))) fr h := by
  obtain ⟨a0, l0, c0, e0, g⟩ := gSlice_elim g
  obtain ⟨a1, l1, c1, e1, g⟩ := gSlice_elim g
  obtain ⟨x5, e5, g⟩ := gInt_elim g
  obtain ⟨x7, e7, g⟩ := gInt_elim g
  obtain ⟨x8, e8, g⟩ := gInt_elim g
  obtain ⟨x9, e9, g⟩ := gInt_elim g
  exact den_cut 1 (r := (cAt C [true, true, true, true, true, true, false, false, false, true, false, true, true, false, true])) (by kernel_rfl) (B10.ok R N3) (den_enter [(0, .slice a0 l0 c0), (1, .slice a1 l1 c1), (5, .int .i64 x5), (7, .int .u64 x7), (8, .int .u64 x8), (9, .int .u64 x9)] ⟨e0, e1, e5, e7, e8, e9, trivial⟩ (by kernel_rfl) g)
theorem W11.ok (R : Rt) (N3 : Option Addr → Nat → Nat → Option Addr → Nat → Nat → Int → Int → Int → Hp → Prop) (fr : Fr) (h : Hp) (g : D7.g R N3 fr h) : den prog E (cAt C [true, true, true, true, true, true, false, false, false, true, false, true, true]) (Ex.inBlock 3 (Ex.then (L3.g N3) (Ex.inBlock 2 (Ex.then (D2.g R) (retQ E [.tmp 4] R))))) fr h :=
  den_then (by kernel_rfl) (D6.ok R N3) (D7.ok R N3 fr h g)
def D5.t (R : Rt) (N3 : Option Addr → Nat → Nat → Option Addr → Nat → Nat → Int → Int → Int → Hp → Prop) (a0 : Option Addr) (l0 : Nat) (c0 : Nat) (a1 : Option Addr) (l1 : Nat) (c1 : Nat) (x5 : Int) (x7 : Int) (x9 : Int) (h : Hp) : Prop :=
  letK (IntKind.u64.wrap (x7 - 1)) fun n19 => D7.t R N3 a0 l0 c0 a1 l1 c1 x5 n19 0 x9 h
def D5.g (R : Rt) (N3 : Option Addr → Nat → Nat → Option Addr → Nat → Nat → Int → Int → Int → Hp → Prop) (fr : Fr) (h : Hp) : Prop := gSlice (fr 0) fun a0 l0 c0 => gSlice (fr 1) fun a1 l1 c1 => gInt .i64 (fr 5) fun x5 => gInt .u64 (fr 7) fun x7 => gInt .u64 (fr 9) fun x9 => D5.t R N3 a0 l0 c0 a1 l1 c1 x5 x7 x9 h
theorem D5.ok (R : Rt) (N3 : Option Addr → Nat → Nat → Option Addr → Nat → Nat → Int → Int → Int → Hp → Prop) (fr : Fr) (h : Hp) (g : D5.g R N3 fr h) : den prog E (cAt C [true, true, true, true, true, true, false, false, false, true, false]) (Ex.inBlock 3 (Ex.then (L3.g N3) (Ex.inBlock 2 (Ex.then (D2.g R) (retQ E [.tmp 4] R))))) fr h := by
  obtain ⟨a0, l0, c0, e0, g⟩ := gSlice_elim g
  obtain ⟨a1, l1, c1, e1, g⟩ := gSlice_elim g
  obtain ⟨x5, e5, g⟩ := gInt_elim g
  obtain ⟨x7, e7, g⟩ := gInt_elim g
  obtain ⟨x9, e9, g⟩ := gInt_elim g
  exact den_cut 2 (r := (cAt C [true, true, true, true, true, true, false, false, false, true, false, true, true])) (by kernel_rfl) (W11.ok R N3) (den_enter [(0, .slice a0 l0 c0), (1, .slice a1 l1 c1), (5, .int .i64 x5), (7, .int .u64 x7), (9, .int .u64 x9)] ⟨e0, e1, e5, e7, e9, trivial⟩ (by kernel_rfl) g)
theorem B12.ok (R : Rt) (N3 : Option Addr → Nat → Nat → Option Addr → Nat → Nat → Int → Int → Int → Hp → Prop) (fr : Fr) (h : Hp) (g : D5.g R N3 fr h) : den prog E (cAt C [true, true, true, true, true, true, false, false, false, true]) (Ex.then (L3.g N3) (Ex.inBlock 2 (Ex.then (D2.g R) (retQ E [.tmp 4] R)))) fr h :=
  den_block (by kernel_rfl) (D5.ok R N3 fr h g)
def D4.t (R : Rt) (N3 : Option Addr → Nat → Nat → Option Addr → Nat → Nat → Int → Int → Int → Hp → Prop) (a0 : Option Addr) (l0 : Nat) (c0 : Nat) (a1 : Option Addr) (l1 : Nat) (c1 : Nat) (x5 : Int) (x7 : Int) (x9 : Int) (h : Hp) : Prop :=
  cond (decide (x9 > 0)) (D5.t R N3 a0 l0 c0 a1 l1 c1 x5 x7 x9 h) (D2.t R x7 h)
def D4.g (R : Rt) (N3 : Option Addr → Nat → Nat → Option Addr → Nat → Nat → Int → Int → Int → Hp → Prop) (fr : Fr) (h : Hp) : Prop := gSlice (fr 0) fun a0 l0 c0 => gSlice (fr 1) fun a1 l1 c1 => gInt .i64 (fr 5) fun x5 => gInt .u64 (fr 7) fun x7 => gInt .u64 (fr 9) fun x9 => D4.t R N3 a0 l0 c0 a1 l1 c1 x5 x7 x9 h
theorem D4.ok (R : Rt) (N3 : Option Addr → Nat → Nat → Option Addr → Nat → Nat → Int → Int → Int → Hp → Prop) (fr : Fr) (h : Hp) (g : D4.g R N3 fr h) : den prog E (cAt C [true, true, true, true, true, true, false, false, false]) (Ex.then (L3.g N3) (Ex.inBlock 2 (Ex.then (D2.g R) (retQ E [.tmp 4] R)))) fr h := by
  obtain ⟨a0, l0, c0, e0, g⟩ := gSlice_elim g
  obtain ⟨a1, l1, c1, e1, g⟩ := gSlice_elim g
  obtain ⟨x5, e5, g⟩ := gInt_elim g
  obtain ⟨x7, e7, g⟩ := gInt_elim g
  obtain ⟨x9, e9, g⟩ := gInt_elim g
  exact den_cut 1 (r := (cAt C [true, true, true, true, true, true, false, false, false, true])) (by kernel_rfl) (B12.ok R N3) (den_enter [(0, .slice a0 l0 c0), (1, .slice a1 l1 c1), (5, .int .i64 x5), (7, .int .u64 x7), (9, .int .u64 x9)] ⟨e0, e1, e5, e7, e9, trivial⟩ (by kernel_rfl) g)
def L3.t (R : Rt) : Nat → Option Addr → Nat → Nat → Option Addr → Nat → Nat → Int → Int → Int → Hp → Prop
  | 0 => fun _ _ _ _ _ _ _ _ _ _ => False
  | n + 1 => fun a0 l0 c0 a1 l1 c1 x5 x7 x9 h => D4.t R (L3.t R n) a0 l0 c0 a1 l1 c1 x5 x7 x9 h
theorem L3.ok (R : Rt) (fr : Fr) (h : Hp) (g : L3.g (fun a0 l0 c0 a1 l1 c1 x5 x7 x9 h => ∃ n, L3.t R n a0 l0 c0 a1 l1 c1 x5 x7 x9 h) fr h) : den prog E (cAt C [true, true, true, true, true, true, false, false]) (Ex.inBlock 2 (Ex.then (D2.g R) (retQ E [.tmp 4] R))) fr h := by
  obtain ⟨a0, l0, c0, e0, g⟩ := gSlice_elim g
  obtain ⟨a1, l1, c1, e1, g⟩ := gSlice_elim g
  obtain ⟨x5, e5, g⟩ := gInt_elim g
  obtain ⟨x7, e7, g⟩ := gInt_elim g
  obtain ⟨x9, e9, g⟩ := gInt_elim g
  obtain ⟨n, g⟩ := g
  refine loop_ok (fun n => L3.g (L3.t R n)) (b := (cAt C [true, true, true, true, true, true, false, false, false])) (by kernel_rfl) (fun fr h g => ?_) (fun n => D4.ok R (L3.t R n)) n fr h (gSlice_intro e0 (gSlice_intro e1 (gInt_intro e5 (gInt_intro e7 (gInt_intro e9 (g))))))
  obtain ⟨a0, l0, c0, e0, g⟩ := gSlice_elim g
  obtain ⟨a1, l1, c1, e1, g⟩ := gSlice_elim g
  obtain ⟨x5, e5, g⟩ := gInt_elim g
  obtain ⟨x7, e7, g⟩ := gInt_elim g
  obtain ⟨x9, e9, g⟩ := gInt_elim g
  exact g
theorem B13.ok (R : Rt) (fr : Fr) (h : Hp) (g : L3.g (fun a0 l0 c0 a1 l1 c1 x5 x7 x9 h => ∃ n, L3.t R n a0 l0 c0 a1 l1 c1 x5 x7 x9 h) fr h) : den prog E (cAt C [true, true, true, true, true, true, false]) (Ex.then (D2.g R) (retQ E [.tmp 4] R)) fr h :=
  den_block (by kernel_rfl) (L3.ok R fr h g)
theorem W14.ok (R : Rt) (fr : Fr) (h : Hp) (g : L3.g (fun a0 l0 c0 a1 l1 c1 x5 x7 x9 h => ∃ n, L3.t R n a0 l0 c0 a1 l1 c1 x5 x7 x9 h) fr h) : den prog E (cAt C [true, true, true, true, true, true]) (retQ E [.tmp 4] R) fr h :=
  den_then (by kernel_rfl) (D2.ok R) (B13.ok R fr h g)
def L16.g (N : Option Addr → Nat → Nat → Option Addr → Nat → Nat → Int → Int → Int → Int → Int → Hp → Prop) (fr : Fr) (h : Hp) : Prop := gSlice (fr 0) fun a0 l0 c0 => gSlice (fr 1) fun a1 l1 c1 => gInt .i64 (fr 5) fun x5 => gInt .u64 (fr 7) fun x7 => gInt .u64 (fr 8) fun x8 => gInt .u64 (fr 9) fun x9 => gInt .i64 (fr 10) fun x10 => N a0 l0 c0 a1 l1 c1 x5 x7 x8 x9 x10 h
def D17.t (R : Rt) (N16 : Option Addr → Nat → Nat → Option Addr → Nat → Nat → Int → Int → Int → Int → Int → Hp → Prop) (a0 : Option Addr) (l0 : Nat) (c0 : Nat) (a1 : Option Addr) (l1 : Nat) (c1 : Nat) (x5 : Int) (x7 : Int) (x8 : Int) (x9 : Int) (x10 : Int) (h : Hp) : Prop :=
  cond (decide (x10 ≤ x5)) (cond (decide (x10 < x5)) (idxK a1 l1 x10 1 fun q43 =>
  ldK h q43 fun v44 =>
  gInt .u32 v44 fun x_45 =>
  letK (IntKind.u64.wrap x_45) fun n46 =>
  letK (IntKind.u64.wrap (x7 * n46)) fun n47 =>
  letK (IntKind.u64.wrap (x8 + n47)) fun n48 =>
  letK (andI .u64 n48 4294967295) fun n49 =>
  letK (IntKind.u64.wrap (n49 + x9)) fun n50 =>
  0 ≤ (32 : Int) ∧ letK (shrI .u64 n48 32) fun n51 =>
  idxK a0 l0 x10 1 fun q52 =>
  ldK h q52 fun v53 =>
  gInt .u32 v53 fun x_54 =>
  letK (IntKind.u64.wrap x_54) fun n55 =>
  cond (decide (n55 < n50)) (letK (IntKind.u64.wrap (n55 + 4294967296)) fun n56 =>
  letK (IntKind.u64.wrap (n56 - n50)) fun n57 =>
  letK (IntKind.u32.wrap n57) fun n58 =>
  idxK a0 l0 x10 1 fun q59 =>
  stK h q59 (.int .u32 n58) fun h60 =>
  letK (IntKind.i64.wrap (x10 + 1)) fun n61 =>
  N16 a0 l0 c0 a1 l1 c1 x5 x7 n51 1 n61 h60) (letK (IntKind.u64.wrap (n55 - n50)) fun n62 =>
  letK (IntKind.u32.wrap n62) fun n63 =>
  idxK a0 l0 x10 1 fun q64 =>
  stK h q64 (.int .u32 n63) fun h65 =>
  letK (IntKind.i64.wrap (x10 + 1)) fun n66 =>
  N16 a0 l0 c0 a1 l1 c1 x5 x7 n51 0 n66 h65)) (letK (andI .u64 x8 4294967295) fun n67 =>
  letK (IntKind.u64.wrap (n67 + x9)) fun n68 =>
  0 ≤ (32 : Int) ∧ letK (shrI .u64 x8 32) fun n69 =>
  idxK a0 l0 x10 1 fun q70 =>
  ldK h q70 fun v71 =>
  gInt .u32 v71 fun x_72 =>
  letK (IntKind.u64.wrap x_72) fun n73 =>
  cond (decide (n73 < n68)) (letK (IntKind.u64.wrap (n73 + 4294967296)) fun n74 =>
  letK (IntKind.u64.wrap (n74 - n68)) fun n75 =>
  letK (IntKind.u32.wrap n75) fun n76 =>
  idxK a0 l0 x10 1 fun q77 =>
  stK h q77 (.int .u32 n76) fun h78 =>
  letK (IntKind.i64.wrap (x10 + 1)) fun n79 =>
  N16 a0 l0 c0 a1 l1 c1 x5 x7 n69 1 n79 h78) (letK (IntKind.u64.wrap (n73 - n68)) fun n80 =>
  letK (IntKind.u32.wrap n80) fun n81 =>
  idxK a0 l0 x10 1 fun q82 =>
  stK h q82 (.int .u32 n81) fun h83 =>
  letK (IntKind.i64.wrap (x10 + 1)) fun n84 =>
  N16 a0 l0 c0 a1 l1 c1 x5 x7 n69 0 n84 h83))) ((∃ n, L3.t R n a0 l0 c0 a1 l1 c1 x5 x7 x9 h))
def D17.g (R : Rt) (N16 : Option Addr → Nat → Nat → Option Addr → Nat → Nat → Int → Int → Int → Int → Int → Hp → Prop) (fr : Fr) (h : Hp) : Prop := gSlice (fr 0) fun a0 l0 c0 => gSlice (fr 1) fun a1 l1 c1 => gInt .i64 (fr 5) fun x5 => gInt .u64 (fr 7) fun x7 => gInt .u64 (fr 8) fun x8 => gInt .u64 (fr 9) fun x9 => gInt .i64 (fr 10) fun x10 => D17.t R N16 a0 l0 c0 a1 l1 c1 x5 x7 x8 x9 x10 h
theorem D17.ok (R : Rt) (N16 : Option Addr → Nat → Nat → Option Addr → Nat → Nat → Int → Int → Int → Int → Int → Hp → Prop) (fr : Fr) (h : Hp) (g : D17.g R N16 fr h) : den prog E (cAt C [true, true, true, true, true, false, true, false, false]) (Ex.then (L16.g N16) (Ex.inBlock 0 (Ex.then (L3.g (fun a0 l0 c0 a1 l1 c1 x5 x7 x9 h => ∃ n, L3.t R n a0 l0 c0 a1 l1 c1 x5 x7 x9 h)) (retQ E [.tmp 4] R)))) fr h := by
  obtain ⟨a0, l0, c0, e0, g⟩ := gSlice_elim g
  obtain ⟨a1, l1, c1, e1, g⟩ := gSlice_elim g
  obtain ⟨x5, e5, g⟩ := gInt_elim g
  obtain ⟨x7, e7, g⟩ := gInt_elim g
  obtain ⟨x8, e8, g⟩ := gInt_elim g
  obtain ⟨x9, e9, g⟩ := gInt_elim g
  obtain ⟨x10, e10, g⟩ := gInt_elim g
  exact den_enter [(0, .slice a0 l0 c0), (1, .slice a1 l1 c1), (5, .int .i64 x5), (7, .int .u64 x7), (8, .int .u64 x8), (9, .int .u64 x9), (10, .int .i64 x10)] ⟨e0, e1, e5, e7, e8, e9, e10, trivial⟩ (by kernel_rfl) g
def L16.t (R : Rt) : Nat → Option Addr → Nat → Nat → Option Addr → Nat → Nat → Int → Int → Int → Int → Int → Hp → Prop
  | 0 => fun _ _ _ _ _ _ _ _ _ _ _ _ => False
  | n + 1 => fun a0 l0 c0 a1 l1 c1 x5 x7 x8 x9 x10 h => D17.t R (L16.t R n) a0 l0 c0 a1 l1 c1 x5 x7 x8 x9 x10 h
theorem L16.ok (R : Rt) (fr : Fr) (h : Hp) (g : L16.g (fun a0 l0 c0 a1 l1 c1 x5 x7 x8 x9 x10 h => ∃ n, L16.t R n a0 l0 c0 a1 l1 c1 x5 x7 x8 x9 x10 h) fr h) : den prog E (cAt C [true, true, true, true, true, false, true, false]) (Ex.inBlock 0 (Ex.then (L3.g (fun a0 l0 c0 a1 l1 c1 x5 x7 x9 h => ∃ n, L3.t R n a0 l0 c0 a1 l1 c1 x5 x7 x9 h)) (retQ E [.tmp 4] R))) fr h := by
  obtain ⟨a0, l0, c0, e0, g⟩ := gSlice_elim g
  obtain ⟨a1, l1, c1, e1, g⟩ := gSlice_elim g
  obtain ⟨x5, e5, g⟩ := gInt_elim g
  obtain ⟨x7, e7, g⟩ := gInt_elim g
  obtain ⟨x8, e8, g⟩ := gInt_elim g
  obtain ⟨x9, e9, g⟩ := gInt_elim g
  obtain ⟨x10, e10, g⟩ := gInt_elim g
  obtain ⟨n, g⟩ := g
  refine loop_ok (fun n => L16.g (L16.t R n)) (b := (cAt C [true, true, true, true, true, false, true, false, false])) (by kernel_rfl) (fun fr h g => ?_) (fun n => D17.ok R (L16.t R n)) n fr h (gSlice_intro e0 (gSlice_intro e1 (gInt_intro e5 (gInt_intro e7 (gInt_intro e8 (gInt_intro e9 (gInt_intro e10 (g))))))))
  obtain ⟨a0, l0, c0, e0, g⟩ := gSlice_elim g
  obtain ⟨a1, l1, c1, e1, g⟩ := gSlice_elim g
  obtain ⟨x5, e5, g⟩ := gInt_elim g
  obtain ⟨x7, e7, g⟩ := gInt_elim g
  obtain ⟨x8, e8, g⟩ := gInt_elim g
  obtain ⟨x9, e9, g⟩ := gInt_elim g
  obtain ⟨x10, e10, g⟩ := gInt_elim g
  exact g
theorem B18.ok (R : Rt) (fr : Fr) (h : Hp) (g : L16.g (fun a0 l0 c0 a1 l1 c1 x5 x7 x8 x9 x10 h => ∃ n, L16.t R n a0 l0 c0 a1 l1 c1 x5 x7 x8 x9 x10 h) fr h) : den prog E (cAt C [true, true, true, true, true, false, true]) (Ex.then (L3.g (fun a0 l0 c0 a1 l1 c1 x5 x7 x9 h => ∃ n, L3.t R n a0 l0 c0 a1 l1 c1 x5 x7 x9 h)) (retQ E [.tmp 4] R)) fr h :=
  den_block (by kernel_rfl) (L16.ok R fr h g)
def D15.t (R : Rt) (a0 : Option Addr) (l0 : Nat) (c0 : Nat) (a1 : Option Addr) (l1 : Nat) (c1 : Nat) (x5 : Int) (x7 : Int) (x8 : Int) (x9 : Int) (h : Hp) : Prop :=
  (∃ n, L16.t R n a0 l0 c0 a1 l1 c1 x5 x7 x8 x9 0 h)
def D15.g (R : Rt) (fr : Fr) (h : Hp) : Prop := gSlice (fr 0) fun a0 l0 c0 => gSlice (fr 1) fun a1 l1 c1 => gInt .i64 (fr 5) fun x5 => gInt .u64 (fr 7) fun x7 => gInt .u64 (fr 8) fun x8 => gInt .u64 (fr 9) fun x9 => D15.t R a0 l0 c0 a1 l1 c1 x5 x7 x8 x9 h
theorem D15.ok (R : Rt) (fr : Fr) (h : Hp) (g : D15.g R fr h) : den prog E (cAt C [true, true, true, true, true, false]) (Ex.then (L3.g (fun a0 l0 c0 a1 l1 c1 x5 x7 x9 h => ∃ n, L3.t R n a0 l0 c0 a1 l1 c1 x5 x7 x9 h)) (retQ E [.tmp 4] R)) fr h := by
  obtain ⟨a0, l0, c0, e0, g⟩ := gSlice_elim g
  obtain ⟨a1, l1, c1, e1, g⟩ := gSlice_elim g
  obtain ⟨x5, e5, g⟩ := gInt_elim g
  obtain ⟨x7, e7, g⟩ := gInt_elim g
  obtain ⟨x8, e8, g⟩ := gInt_elim g
  obtain ⟨x9, e9, g⟩ := gInt_elim g
  exact den_cut 1 (r := (cAt C [true, true, true, true, true, false, true])) (by kernel_rfl) (B18.ok R) (den_enter [(0, .slice a0 l0 c0), (1, .slice a1 l1 c1), (5, .int .i64 x5), (7, .int .u64 x7), (8, .int .u64 x8), (9, .int .u64 x9)] ⟨e0, e1, e5, e7, e8, e9, trivial⟩ (by kernel_rfl) g)
theorem W19.ok (R : Rt) (fr : Fr) (h : Hp) (g : D15.g R fr h) : den prog E (cAt C [true, true, true, true, true]) (retQ E [.tmp 4] R) fr h :=
  den_then (by kernel_rfl) (W14.ok R) (D15.ok R fr h g)
def D1.t (R : Rt) (a0 : Option Addr) (l0 : Nat) (c0 : Nat) (a1 : Option Addr) (l1 : Nat) (c1 : Nat) (h : Hp) : Prop :=
  idxK a0 l0 (((l1 : Nat) : Int)) 1 fun q1 =>
  ldK h q1 fun v2 =>
  gInt .u32 v2 fun x_3 =>
  letK (IntKind.u64.wrap x_3) fun n4 =>
  0 ≤ (32 : Int) ∧ letK (shlI .u64 n4 32) fun n5 =>
  letK (IntKind.i64.wrap ((((l1 : Nat) : Int)) - 1)) fun n6 =>
  idxK a0 l0 n6 1 fun q7 =>
  ldK h q7 fun v8 =>
  gInt .u32 v8 fun x_9 =>
  letK (IntKind.u64.wrap x_9) fun n10 =>
  letK (IntKind.u64.wrap (n5 + n10)) fun n11 =>
  letK (IntKind.i64.wrap ((((l1 : Nat) : Int)) - 1)) fun n12 =>
  idxK a1 l1 n12 1 fun q13 =>
  ldK h q13 fun v14 =>
  gInt .u32 v14 fun x_15 =>
  letK (IntKind.u64.wrap x_15) fun n16 =>
  n16 ≠ 0 ∧ letK (IntKind.u64.wrap (Int.tdiv n11 n16)) fun n17 =>
  D15.t R a0 l0 c0 a1 l1 c1 (((l1 : Nat) : Int)) (if 4294967295 < n17 then 4294967295 else n17) 0 0 h
def D1.g (R : Rt) (fr : Fr) (h : Hp) : Prop := gSlice (fr 0) fun a0 l0 c0 => gSlice (fr 1) fun a1 l1 c1 => D1.t R a0 l0 c0 a1 l1 c1 h
theorem D1.ok (R : Rt) (fr : Fr) (h : Hp) (g : D1.g R fr h) : den prog E C (retQ E [.tmp 4] R) fr h := by
  obtain ⟨a0, l0, c0, e0, g⟩ := gSlice_elim g
  obtain ⟨a1, l1, c1, e1, g⟩ := gSlice_elim g
  exact den_cut 5 (r := (cAt C [true, true, true, true, true])) (by kernel_rfl) (W19.ok R) (den_enter [(0, .slice a0 l0 c0), (1, .slice a1 l1 c1)] ⟨e0, e1, trivial⟩ (by kernel_rfl) g)
def t (a0 : Option Addr) (l0 : Nat) (c0 : Nat) (a1 : Option Addr) (l1 : Nat) (c1 : Nat) (h : Hp) (R : Rt) : Prop := D1.t R a0 l0 c0 a1 l1 c1 h
theorem ok {a0 : Option Addr} {l0 : Nat} {c0 : Nat} {a1 : Option Addr} {l1 : Nat} {c1 : Nat} {h : Hp} {R : Rt} (g : t a0 l0 c0 a1 l1 c1 h R) : HC id #[.slice a0 l0 c0, .slice a1 l1 c1] h R :=
  calls_of_den' envOk (c := C) (rs := [.tmp 4]) Try.func93 (by kernel_rfl) (by kernel_rfl) (by kernel_rfl) (args := [.slice a0 l0 c0, .slice a1 l1 c1]) (by kernel_rfl) (D1.ok R _ h (gSlice_intro rfl (gSlice_intro rfl (g))))
end gnomonref01_digit

namespace gnomonref01_Shr
noncomputable def C : Code := bodyOf Try.f94
def D1.t (R : Rt) (a0 : Option Addr) (l0 : Nat) (c0 : Nat) (x1 : Int) (h : Hp) : Prop :=
  cond (decide (x1 ≤ 0)) (HC gnomonref01_Norm.id #[.slice a0 l0 c0] h fun v1 h2 =>
  gSlice v1 fun a_3 l_3 c_3 =>
  R (.slice a_3 l_3 c_3) h2) ((32 : Int) ≠ 0 ∧ letK (IntKind.i64.wrap (Int.tdiv x1 32)) fun n4 =>
  cond (decide (n4 ≥ (((l0 : Nat) : Int)))) (HC gnomonref01_Word.id #[.int .u64 0] h fun v5 h6 =>
  gSlice v5 fun a_7 l_7 c_7 =>
  R (.slice a_7 l_7 c_7) h6) ((32 : Int) ≠ 0 ∧ letK (IntKind.i64.wrap (Int.tdiv x1 32)) fun n8 =>
  slK 1 a0 l0 c0 (some (.int .i64 n8)) none none fun a_9 l_9 c_9 =>
  (32 : Int) ≠ 0 ∧ letK (Int.tmod x1 32) fun n10 =>
  0 ≤ n10 ∧ letK (shlI .u32 1 n10) fun n11 =>
  HC gnomonref01_DivSmall.id #[.slice a_9 l_9 c_9, .int .u32 n11] h fun v12 h13 =>
  gTup v12 fun y14 =>
  uncons y14 fun v15 y15 =>
  gSlice v15 fun a_16 l_16 c_16 =>
  uncons y15 fun v17 y17 =>
  gInt .u32 v17 fun x_18 =>
  unnil y17 <| R (.slice a_16 l_16 c_16) h13))
def D1.g (R : Rt) (fr : Fr) (h : Hp) : Prop := gSlice (fr 0) fun a0 l0 c0 => gInt .i64 (fr 1) fun x1 => D1.t R a0 l0 c0 x1 h
theorem D1.ok (R : Rt) (fr : Fr) (h : Hp) (g : D1.g R fr h) : den prog E C (retQ E [.tmp 4] R) fr h := by
  obtain ⟨a0, l0, c0, e0, g⟩ := gSlice_elim g
  obtain ⟨x1, e1, g⟩ := gInt_elim g
  exact den_enter [(0, .slice a0 l0 c0), (1, .int .i64 x1)] ⟨e0, e1, trivial⟩ (by kernel_rfl) g
def t (a0 : Option Addr) (l0 : Nat) (c0 : Nat) (x1 : Int) (h : Hp) (R : Rt) : Prop := D1.t R a0 l0 c0 x1 h
theorem ok {a0 : Option Addr} {l0 : Nat} {c0 : Nat} {x1 : Int} {h : Hp} {R : Rt} (g : t a0 l0 c0 x1 h R) : HC id #[.slice a0 l0 c0, .int .i64 x1] h R :=
  calls_of_den' envOk (c := C) (rs := [.tmp 4]) Try.func94 (by kernel_rfl) (by kernel_rfl) (by kernel_rfl) (args := [.slice a0 l0 c0, .int .i64 x1]) (by kernel_rfl) (D1.ok R _ h (gSlice_intro rfl (gInt_intro rfl (g))))
end gnomonref01_Shr

namespace gnomonref01_Pow2
noncomputable def C : Code := bodyOf Try.f95
def D1.t (R : Rt) (x0 : Int) (h : Hp) : Prop :=
  HC gnomonref01_Word.id #[.int .u64 1] h fun v1 h2 =>
  gSlice v1 fun a_3 l_3 c_3 =>
  HC gnomonref01_Shl.id #[.slice a_3 l_3 c_3, .int .i64 x0] h2 fun v4 h5 =>
  gSlice v4 fun a_6 l_6 c_6 =>
  R (.slice a_6 l_6 c_6) h5
def D1.g (R : Rt) (fr : Fr) (h : Hp) : Prop := gInt .i64 (fr 0) fun x0 => D1.t R x0 h
theorem D1.ok (R : Rt) (fr : Fr) (h : Hp) (g : D1.g R fr h) : den prog E C (retQ E [.tmp 2] R) fr h := by
  obtain ⟨x0, e0, g⟩ := gInt_elim g
  exact den_enter [(0, .int .i64 x0)] ⟨e0, trivial⟩ (by kernel_rfl) g
def t (x0 : Int) (h : Hp) (R : Rt) : Prop := D1.t R x0 h
theorem ok {x0 : Int} {h : Hp} {R : Rt} (g : t x0 h R) : HC id #[.int .i64 x0] h R :=
  calls_of_den' envOk (c := C) (rs := [.tmp 2]) Try.func95 (by kernel_rfl) (by kernel_rfl) (by kernel_rfl) (args := [.int .i64 x0]) (by kernel_rfl) (D1.ok R _ h (gInt_intro rfl (g)))
end gnomonref01_Pow2

namespace gnomonref01_Sub
noncomputable def C : Code := bodyOf Try.f96
def D2.t (R : Rt) (a5 : Option Addr) (l5 : Nat) (c5 : Nat) (h : Hp) : Prop :=
  HC gnomonref01_Norm.id #[.slice a5 l5 c5] h fun v9 h10 =>
  gSlice v9 fun a_11 l_11 c_11 =>
  R (.slice a_11 l_11 c_11) h10
def D2.g (R : Rt) (fr : Fr) (h : Hp) : Prop := gSlice (fr 5) fun a5 l5 c5 => D2.t R a5 l5 c5 h
theorem D2.ok (R : Rt) (fr : Fr) (h : Hp) (g : D2.g R fr h) : den prog E (cAt C [true, true, true, true, true]) (retQ E [.tmp 4] R) fr h := by
  obtain ⟨a5, l5, c5, e5, g⟩ := gSlice_elim g
  exact den_enter [(5, .slice a5 l5 c5)] ⟨e5, trivial⟩ (by kernel_rfl) g
def L4.g (N : Option Addr → Nat → Nat → Option Addr → Nat → Nat → Option Addr → Nat → Nat → Int → Int → Hp → Prop) (fr : Fr) (h : Hp) : Prop := gSlice (fr 0) fun a0 l0 c0 => gSlice (fr 1) fun a1 l1 c1 => gSlice (fr 5) fun a5 l5 c5 => gInt .u64 (fr 6) fun x6 => gInt .i64 (fr 7) fun x7 => N a0 l0 c0 a1 l1 c1 a5 l5 c5 x6 x7 h
def D5.t (R : Rt) (N4 : Option Addr → Nat → Nat → Option Addr → Nat → Nat → Option Addr → Nat → Nat → Int → Int → Hp → Prop) (a0 : Option Addr) (l0 : Nat) (c0 : Nat) (a1 : Option Addr) (l1 : Nat) (c1 : Nat) (a5 : Option Addr) (l5 : Nat) (c5 : Nat) (x6 : Int) (x7 : Int) (h : Hp) : Prop :=
  cond (decide (x7 < (((l0 : Nat) : Int)))) (cond (decide (x7 < (((l1 : Nat) : Int)))) (idxK a1 l1 x7 1 fun q12 =>
  ldK h q12 fun v13 =>
  gInt .u32 v13 fun x_14 =>
  letK (IntKind.u64.wrap x_14) fun n15 =>
  letK (IntKind.u64.wrap (x6 + n15)) fun n16 =>
  idxK a0 l0 x7 1 fun q17 =>
  ldK h q17 fun v18 =>
  gInt .u32 v18 fun x_19 =>
  letK (IntKind.u64.wrap x_19) fun n20 =>
  cond (decide (n20 < n16)) (letK (IntKind.u64.wrap (n20 + 4294967296)) fun n21 =>
  letK (IntKind.u64.wrap (n21 - n16)) fun n22 =>
  letK (IntKind.u32.wrap n22) fun n23 =>
  boxK h 84 [.int .u32 n23] fun q24 h25 =>
  apK h25 84 T84 a5 l5 c5 (.slice (some q24) 1 1) fun a_26 l_26 c_26 h26 =>
  letK (IntKind.i64.wrap (x7 + 1)) fun n27 =>
  N4 a0 l0 c0 a1 l1 c1 a_26 l_26 c_26 1 n27 h26) (letK (IntKind.u64.wrap (n20 - n16)) fun n28 =>
  letK (IntKind.u32.wrap n28) fun n29 =>
  boxK h 84 [.int .u32 n29] fun q30 h31 =>
  apK h31 84 T84 a5 l5 c5 (.slice (some q30) 1 1) fun a_32 l_32 c_32 h32 =>
  letK (IntKind.i64.wrap (x7 + 1)) fun n33 =>
  N4 a0 l0 c0 a1 l1 c1 a_32 l_32 c_32 0 n33 h32)) (idxK a0 l0 x7 1 fun q34 =>
  ldK h q34 fun v35 =>
  gInt .u32 v35 fun x_36 =>
  letK (IntKind.u64.wrap x_36) fun n37 =>
  cond (decide (n37 < x6)) (letK (IntKind.u64.wrap (n37 + 4294967296)) fun n38 =>
  letK (IntKind.u64.wrap (n38 - x6)) fun n39 =>
  letK (IntKind.u32.wrap n39) fun n40 =>
  boxK h 84 [.int .u32 n40] fun q41 h42 =>
  apK h42 84 T84 a5 l5 c5 (.slice (some q41) 1 1) fun a_43 l_43 c_43 h43 =>
  letK (IntKind.i64.wrap (x7 + 1)) fun n44 =>
  N4 a0 l0 c0 a1 l1 c1 a_43 l_43 c_43 1 n44 h43) (letK (IntKind.u64.wrap (n37 - x6)) fun n45 =>
  letK (IntKind.u32.wrap n45) fun n46 =>
  boxK h 84 [.int .u32 n46] fun q47 h48 =>
  apK h48 84 T84 a5 l5 c5 (.slice (some q47) 1 1) fun a_49 l_49 c_49 h49 =>
  letK (IntKind.i64.wrap (x7 + 1)) fun n50 =>
  N4 a0 l0 c0 a1 l1 c1 a_49 l_49 c_49 0 n50 h49))) (D2.t R a5 l5 c5 h)
def D5.g (R : Rt) (N4 : Option Addr → Nat → Nat → Option Addr → Nat → Nat → Option Addr → Nat → Nat → Int → Int → Hp → Prop) (fr : Fr) (h : Hp) : Prop := gSlice (fr 0) fun a0 l0 c0 => gSlice (fr 1) fun a1 l1 c1 => gSlice (fr 5) fun a5 l5 c5 => gInt .u64 (fr 6) fun x6 => gInt .i64 (fr 7) fun x7 => D5.t R N4 a0 l0 c0 a1 l1 c1 a5 l5 c5 x6 x7 h
theorem D5.ok (R : Rt) (N4 : Option Addr → Nat → Nat → Option Addr → Nat → Nat → Option Addr → Nat → Nat → Int → Int → Hp → Prop) (fr : Fr) (h : Hp) (g : D5.g R N4 fr h) : den prog E (cAt C [true, true, true, true, false, true, false, false]) (Ex.then (L4.g N4) (Ex.inBlock 0 (Ex.then (D2.g R) (retQ E [.tmp 4] R)))) fr h := by
  obtain ⟨a0, l0, c0, e0, g⟩ := gSlice_elim g
  obtain ⟨a1, l1, c1, e1, g⟩ := gSlice_elim g
  obtain ⟨a5, l5, c5, e5, g⟩ := gSlice_elim g
  obtain ⟨x6, e6, g⟩ := gInt_elim g
  obtain ⟨x7, e7, g⟩ := gInt_elim g
  exact den_enter [(0, .slice a0 l0 c0), (1, .slice a1 l1 c1), (5, .slice a5 l5 c5), (6, .int .u64 x6), (7, .int .i64 x7)] ⟨e0, e1, e5, e6, e7, trivial⟩ (by kernel_rfl) g
def L4.t (R : Rt) : Nat → Option Addr → Nat → Nat → Option Addr → Nat → Nat → Option Addr → Nat → Nat → Int → Int → Hp → Prop
  | 0 => fun _ _ _ _ _ _ _ _ _ _ _ _ => False
  | n + 1 => fun a0 l0 c0 a1 l1 c1 a5 l5 c5 x6 x7 h => D5.t R (L4.t R n) a0 l0 c0 a1 l1 c1 a5 l5 c5 x6 x7 h
theorem L4.ok (R : Rt) (fr : Fr) (h : Hp) (g : L4.g (fun a0 l0 c0 a1 l1 c1 a5 l5 c5 x6 x7 h => ∃ n, L4.t R n a0 l0 c0 a1 l1 c1 a5 l5 c5 x6 x7 h) fr h) : den prog E (cAt C [true, true, true, true, false, true, false]) (Ex.inBlock 0 (Ex.then (D2.g R) (retQ E [.tmp 4] R))) fr h := by
  obtain ⟨a0, l0, c0, e0, g⟩ := gSlice_elim g
  obtain ⟨a1, l1, c1, e1, g⟩ := gSlice_elim g
  obtain ⟨a5, l5, c5, e5, g⟩ := gSlice_elim g
  obtain ⟨x6, e6, g⟩ := gInt_elim g
  obtain ⟨x7, e7, g⟩ := gInt_elim g
  obtain ⟨n, g⟩ := g
  refine loop_ok (fun n => L4.g (L4.t R n)) (b := (cAt C [true, true, true, true, false, true, false, false])) (by kernel_rfl) (fun fr h g => ?_) (fun n => D5.ok R (L4.t R n)) n fr h (gSlice_intro e0 (gSlice_intro e1 (gSlice_intro e5 (gInt_intro e6 (gInt_intro e7 (g))))))
  obtain ⟨a0, l0, c0, e0, g⟩ := gSlice_elim g
  obtain ⟨a1, l1, c1, e1, g⟩ := gSlice_elim g
  obtain ⟨a5, l5, c5, e5, g⟩ := gSlice_elim g
  obtain ⟨x6, e6, g⟩ := gInt_elim g
  obtain ⟨x7, e7, g⟩ := gInt_elim g
  exact g
theorem B6.ok (R : Rt) (fr : Fr) (h : Hp) (g : L4.g (fun a0 l0 c0 a1 l1 c1 a5 l5 c5 x6 x7 h => ∃ n, L4.t R n a0 l0 c0 a1 l1 c1 a5 l5 c5 x6 x7 h) fr h) : den prog E (cAt C [true, true, true, true, false, true]) (Ex.then (D2.g R) (retQ E [.tmp 4] R)) fr h :=
  den_block (by kernel_rfl) (L4.ok R fr h g)
def D3.t (R : Rt) (a0 : Option Addr) (l0 : Nat) (c0 : Nat) (a1 : Option Addr) (l1 : Nat) (c1 : Nat) (a5 : Option Addr) (l5 : Nat) (c5 : Nat) (x6 : Int) (h : Hp) : Prop :=
  (∃ n, L4.t R n a0 l0 c0 a1 l1 c1 a5 l5 c5 x6 0 h)
def D3.g (R : Rt) (fr : Fr) (h : Hp) : Prop := gSlice (fr 0) fun a0 l0 c0 => gSlice (fr 1) fun a1 l1 c1 => gSlice (fr 5) fun a5 l5 c5 => gInt .u64 (fr 6) fun x6 => D3.t R a0 l0 c0 a1 l1 c1 a5 l5 c5 x6 h
theorem D3.ok (R : Rt) (fr : Fr) (h : Hp) (g : D3.g R fr h) : den prog E (cAt C [true, true, true, true, false]) (Ex.then (D2.g R) (retQ E [.tmp 4] R)) fr h := by
  obtain ⟨a0, l0, c0, e0, g⟩ := gSlice_elim g
  obtain ⟨a1, l1, c1, e1, g⟩ := gSlice_elim g
  obtain ⟨a5, l5, c5, e5, g⟩ := gSlice_elim g
  obtain ⟨x6, e6, g⟩ := gInt_elim g
  exact den_cut 1 (r := (cAt C [true, true, true, true, false, true])) (by kernel_rfl) (B6.ok R) (den_enter [(0, .slice a0 l0 c0), (1, .slice a1 l1 c1), (5, .slice a5 l5 c5), (6, .int .u64 x6)] ⟨e0, e1, e5, e6, trivial⟩ (by kernel_rfl) g)
theorem W7.ok (R : Rt) (fr : Fr) (h : Hp) (g : D3.g R fr h) : den prog E (cAt C [true, true, true, true]) (retQ E [.tmp 4] R) fr h :=
  den_then (by kernel_rfl) (D2.ok R) (D3.ok R fr h g)
def D1.t (R : Rt) (a0 : Option Addr) (l0 : Nat) (c0 : Nat) (a1 : Option Addr) (l1 : Nat) (c1 : Nat) (h : Hp) : Prop :=
  HC gnomonref01_Cmp.id #[.slice a0 l0 c0, .slice a1 l1 c1] h fun v1 h2 =>
  gInt .i64 v1 fun x_3 =>
  cond (decide (x_3 ≤ 0)) (HC gnomonref01_Word.id #[.int .u64 0] h2 fun v4 h5 =>
  gSlice v4 fun a_6 l_6 c_6 =>
  R (.slice a_6 l_6 c_6) h5) (mkK h2 84 T84 0 (((l0 : Nat) : Int)) fun q7 h8 =>
  D3.t R a0 l0 c0 a1 l1 c1 (some q7) ((0 : Int).toNat) ((((l0 : Nat) : Int)).toNat) 0 h8)
def D1.g (R : Rt) (fr : Fr) (h : Hp) : Prop := gSlice (fr 0) fun a0 l0 c0 => gSlice (fr 1) fun a1 l1 c1 => D1.t R a0 l0 c0 a1 l1 c1 h
theorem D1.ok (R : Rt) (fr : Fr) (h : Hp) (g : D1.g R fr h) : den prog E C (retQ E [.tmp 4] R) fr h := by
  obtain ⟨a0, l0, c0, e0, g⟩ := gSlice_elim g
  obtain ⟨a1, l1, c1, e1, g⟩ := gSlice_elim g
  exact den_cut 4 (r := (cAt C [true, true, true, true])) (by kernel_rfl) (W7.ok R) (den_enter [(0, .slice a0 l0 c0), (1, .slice a1 l1 c1)] ⟨e0, e1, trivial⟩ (by kernel_rfl) g)
def t (a0 : Option Addr) (l0 : Nat) (c0 : Nat) (a1 : Option Addr) (l1 : Nat) (c1 : Nat) (h : Hp) (R : Rt) : Prop := D1.t R a0 l0 c0 a1 l1 c1 h
theorem ok {a0 : Option Addr} {l0 : Nat} {c0 : Nat} {a1 : Option Addr} {l1 : Nat} {c1 : Nat} {h : Hp} {R : Rt} (g : t a0 l0 c0 a1 l1 c1 h R) : HC id #[.slice a0 l0 c0, .slice a1 l1 c1] h R :=
  calls_of_den' envOk (c := C) (rs := [.tmp 4]) Try.func96 (by kernel_rfl) (by kernel_rfl) (by kernel_rfl) (args := [.slice a0 l0 c0, .slice a1 l1 c1]) (by kernel_rfl) (D1.ok R _ h (gSlice_intro rfl (gSlice_intro rfl (g))))
end gnomonref01_Sub

end Go.Proofs.Ytdpkfipkjdlmlaa.G
