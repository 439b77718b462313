/- Texts of this work, joined: GvCore, GvSound, GvSound2, GvSound3, GvRegion, GvSound4, GvMono, GvGen. -/
import Derived.Orders
import Derived.Still
import Derived.Below
import Derived.KernelRfl
import Derived.Tactics
import Derived.Laws.Externs
import Derived.Laws.Append
import Derived.Laws.Slices
import Derived.Laws.Entries
import Derived.WalkSpells
import Derived.LoopN
import Derived.Scope
import Derived.Laws.Cells
/- Gv: Go code of plain data as predicates on heaps. Part 1: what an operation, a region, a body comes to ('den'), over heaps alone. -/
namespace Go.Gv

abbrev Fr := Nat → Value
abbrev Hp := Array Obj

/-! ### frames -/
def upd (fr : Fr) (d : Nat) (v : Value) : Fr := fun t => bif Nat.beq t d then v else fr t
def updO (fr : Fr) : Option Nat → Value → Fr
  | some d, v => upd fr d v
  | none, _ => fr
def ev (fr : Fr) : Operand → Value
  | .tmp t => fr t
  | .const v => v
  | .global g => .pointer (some ⟨g, 0, none⟩)
  | .func f => .func (.func f) #[] #[]
/-- What a branch knows of its condition. -/
def updC (fr : Fr) : Operand → Bool → Fr
  | .tmp t, b => upd fr t (.bool b)
  | _, _ => fr
theorem upd_self {fr : Fr} {d : Nat} {v : Value} (h : fr d = v) : upd fr d v = fr := by
  funext t
  unfold upd
  cases e : Nat.beq t d with
  | false => rfl
  | true => obtain rfl := Nat.eq_of_beq_eq_true e; exact h.symm

theorem updC_self {fr : Fr} {c : Operand} {b : Bool} (h : ev fr c = .bool b) : updC fr c b = fr := by
  cases c with
  | tmp t => exact upd_self h
  | _ => rfl

/-! ### heaps -/
def cellH (h : Hp) (a : Addr) : Option Value :=
  match h[a.block]? with
  | some (.cells c _ _) => if a.spot.isSome then none else c[a.off]?
  | _ => none
def frozenH (h : Hp) (a : Addr) : Bool :=
  match h[a.block]? with
  | some (.cells _ _ (lo, hi)) => lo ≤ a.off && a.off < hi
  | _ => false
def setH (h : Hp) (a : Addr) (v : Value) : Hp := h.modify a.block fun
      | .cells c elem frozen => .cells (if a.spot.isSome then c else c.setIfInBounds a.off v) elem frozen
      | o => o
theorem cell?_eq (w : World) (a : Addr) : w.cell? a = cellH w.heap a := rfl
theorem frozen?_eq (w : World) (a : Addr) : w.frozen? a = frozenH w.heap a := rfl
theorem setCell_heap (w : World) (a : Addr) (v : Value) : (w.setCell a v).heap = setH w.heap a v := rfl
/-- Store a list of cells from p + i on. -/
def stH (h : Hp) (p : Addr) : Nat → List Value → Hp
  | _, [] => h
  | i, v :: vs => stH (setH h (p.add i) v) p (i + 1) vs
/-- The cells from p + i on are there and read so. -/
def RdL (h : Hp) (p : Addr) : Nat → List Value → Prop
  | _, [] => True
  | i, v :: vs => cellH h (p.add i) = some v ∧ RdL h p (i + 1) vs
/-- The cells from p + i on are there and may be written. -/
def StL (h : Hp) (p : Addr) : Nat → Nat → Prop
  | _, 0 => True
  | i, n + 1 => ((∃ v, cellH h (p.add i) = some v) ∧ frozenH h (p.add i) = false) ∧ StL h p (i + 1) n

structure Same (w w' : World) : Prop where
  os : w'.os = w.os
  tape : w'.tape = w.tape
  output : w'.output = w.output
theorem Same.refl (w : World) : Same w w := ⟨rfl, rfl, rfl⟩
theorem Same.trans {a b c : World} (h : Same a b) (k : Same b c) : Same a c := ⟨k.os.trans h.os, k.tape.trans h.tape, k.output.trans h.output⟩

/-- A call of a Go function, by heaps. -/
def HCalls (P : Program) (f : FuncId) (args : Array Value) (h : Hp) (R : Value → Hp → Prop) : Prop :=
  ∀ w : World, w.heap = h → Calls P f args w fun e w' => ∃ v, e = .returned v ∧ Same w w' ∧ R v w'.heap
theorem HCalls.mono {P : Program} {f : FuncId} {args : Array Value} {h : Hp} {R R' : Value → Hp → Prop} (hc : HCalls P f args h R) (hr : ∀ v h', R v h' → R' v h') : HCalls P f args h R' :=
  fun w hw => (hc w hw).mono fun _ _ ⟨v, e, s, r⟩ => ⟨v, e, s, hr _ _ r⟩

/-! ### types -/
inductive Kd where
  | int (k : IntKind) | bool | str | slice | ptr
inductive Ty where
  | int (k : IntKind) | bool | str | slice (e : TypeId) | ptr (e : TypeId) | struct (fs : List (Nat × TypeId)) | tuple (ts : List TypeId)
structure TyI where
  ty : Ty
  leaves : List Kd
  bytes : Nat
inductive Fk where
  | body | quiet | add64 | sub64
def sub64Entry : Array Value → Sem Value := fun args => do
  let (x, y, b) ← Extern.MathBitsCarry.three "Sub64" args
  pure (Extern.MathBitsCarry.pair ((x + Extern.MathBitsCarry.m64 - y - b) % Extern.MathBitsCarry.m64) (if x < y + b then 1 else 0))
structure Env where
  types : List (Nat × TyI)
  fns : List (Nat × Fk)
  arrs : List (Nat × (Nat × TypeId)) := []
def look {α : Type} : List (Nat × α) → Nat → Option α
  | [], _ => none
  | (k, x) :: l, n => bif Nat.beq k n then some x else look l n
theorem look_mem {α : Type} {l : List (Nat × α)} {n : Nat} {x : α} (h : look l n = some x) : (n, x) ∈ l := by
  induction l with
  | nil => simp [look] at h
  | cons p l ih =>
    obtain ⟨k, y⟩ := p
    unfold look at h
    cases e : Nat.beq k n with
    | false => rw [e] at h; exact List.mem_cons_of_mem _ (ih h)
    | true =>
      obtain rfl := Nat.eq_of_beq_eq_true e
      rw [e] at h
      cases h
      exact List.mem_cons_self
def kEq : IntKind → IntKind → Bool
  | .i8, .i8 | .i16, .i16 | .i32, .i32 | .i64, .i64 | .u8, .u8 | .u16, .u16 | .u32, .u32 | .u64, .u64 => true
  | _, _ => false
theorem kEq_eq {j k : IntKind} (h : kEq j k = true) : j = k := by cases j <;> cases k <;> first | rfl | cases h
def Kd.zero : Kd → Value
  | .int k => .int k 0
  | .bool => .bool false
  | .str => .string ByteArray.empty
  | .slice => .slice none 0 0
  | .ptr => .pointer none
def zeroB : Kd → Value → Bool
  | .int k, .int k' n => kEq k k' && n == 0
  | .bool, .bool b => !b
  | .str, .string s => s.size == 0
  | .slice, .slice none 0 0 => true
  | .ptr, .pointer none => true
  | _, _ => false
theorem zeroB_eq {k : Kd} {v : Value} (h : zeroB k v = true) : v = k.zero := by
  cases k <;> cases v <;> simp only [zeroB, Bool.and_eq_true, Bool.false_eq_true] at h
  · obtain ⟨h1, h2⟩ := h
    rw [← kEq_eq h1]
    simp at h2
    simp [Kd.zero, h2]
  · simp at h; simp [Kd.zero, h]
  · rename_i s
    have : s = ByteArray.empty := by
      apply ByteArray.ext
      have h' : s.size = 0 := by simpa using h
      exact Array.eq_empty_of_size_eq_zero h'
    rw [this]; rfl
  · split at h <;> simp_all [Kd.zero]
  · split at h <;> simp_all [Kd.zero]
def zerosB : List Kd → List Value → Bool
  | [], [] => true
  | k :: ks, v :: vs => zeroB k v && zerosB ks vs
  | _, _ => false
theorem zerosB_eq : ∀ {ks : List Kd} {vs : List Value}, zerosB ks vs = true → vs = ks.map Kd.zero
  | [], [], _ => rfl
  | k :: ks, v :: vs, h => by
    simp only [zerosB, Bool.and_eq_true] at h
    rw [zeroB_eq h.1, zerosB_eq h.2]; rfl
  | [], _ :: _, h => by simp [zerosB] at h
  | _ :: _, [], h => by simp [zerosB] at h
def undB : Option TypeDesc → Ty → Bool
  | some (.int k), .int k' => kEq k k'
  | some .bool, .bool => true
  | some .string, .str => true
  | some (.slice e), .slice e' => Nat.beq e e'
  | some (.pointer e), .ptr e' => Nat.beq e e'
  | some (.struct fs), .struct fs' => decide (fs.toList.map (fun f => (f.offset, f.type)) = fs')
  | some (.tuple ts), .tuple ts' => decide (ts.toList = ts')
  | some (.array _ _), .struct fs' => fs'.isEmpty
  | _, _ => false
def tyB (P : Program) (t : TypeId) (i : TyI) : Bool :=
  undB (P.underlying t) i.ty && match P.info? t with
    | some inf => Nat.beq inf.size i.leaves.length && Nat.beq inf.bytes i.bytes && match i.ty with
      | .tuple _ => true
      | _ => match inf.zero with
        | some z => zerosB i.leaves z.cells.toList
        | none => false
    | none => false
def fnB (P : Program) (f : FuncId) (k : Fk) : Bool :=
  match P.funcs[f]? with
  | some fn => match k with
    | .body | .quiet => fn.body.isSome && !(fn.name == "runtime.NumGoroutine")
    | .add64 | .sub64 => fn.body.isNone && !(fn.name == "runtime.NumGoroutine")
  | none => false
def arrB (P : Program) (t : TypeId) (p : Nat × TypeId) : Bool :=
  match P.underlying t with
  | some (.array n e) => Nat.beq n p.1 && Nat.beq e p.2
  | _ => false
def envB (P : Program) (E : Env) : Bool := ((E.types.all fun (t, i) => tyB P t i) && (E.fns.all fun (f, k) => fnB P f k)) && E.arrs.all fun (t, p) => arrB P t p

/-! ### looking into values -/
def gBool (v : Value) (K : Bool → Prop) : Prop := match v with | .bool b => K b | _ => False
def gInt (k : IntKind) (v : Value) (K : Int → Prop) : Prop := match v with | .int k' n => (bif kEq k k' then K n else False) | _ => False
def gStr (v : Value) (K : ByteArray → Prop) : Prop := match v with | .string s => K s | _ => False
def gSlice (v : Value) (K : Option Addr → Nat → Nat → Prop) : Prop := match v with | .slice a l c => K a l c | _ => False
def gPtrS (v : Value) (K : Addr → Prop) : Prop := match v with | .pointer (some q) => K q | _ => False
def gPtr (v : Value) (K : Option Addr → Prop) : Prop := match v with | .pointer a => K a | _ => False
def asLeaf : Kd → Value → (Value → Prop) → Prop
  | .int k, v, K => gInt k v fun n => K (.int k n)
  | .bool, v, K => gBool v fun b => K (.bool b)
  | .str, v, K => gStr v fun s => K (.string s)
  | .slice, v, K => gSlice v fun a l c => K (.slice a l c)
  | .ptr, v, K => gPtr v fun a => K (.pointer a)
def uncons (l : List Value) (K : Value → List Value → Prop) : Prop := match l with | v :: vs => K v vs | [] => False
def unnil (l : List Value) (K : Prop) : Prop := match l with | [] => K | _ => False
def asLeaves : List Kd → List Value → (List Value → Prop) → Prop
  | [], l, K => unnil l (K [])
  | k :: ks, l, K => uncons l fun v vs => asLeaf k v fun v' => asLeaves ks vs fun vs' => K (v' :: vs')
def gAgg (v : Value) (K : List Value → Prop) : Prop := match v with | .agg cs => K cs.toList | _ => False
def gTup (v : Value) (K : List Value → Prop) : Prop := match v with | .tuple cs => K cs.toList | _ => False
def asOne (i : TyI) (v : Value) (K : Value → Prop) : Prop :=
  match i.ty with
  | .struct _ => gAgg v fun l => asLeaves i.leaves l fun vs => K (.agg vs.toArray)
  | _ => match i.leaves with
    | [k] => asLeaf k v K
    | _ => False
def asParts (E : Env) : List TypeId → List Value → (List Value → Prop) → Prop
  | [], l, K => unnil l (K [])
  | t :: ts, l, K => uncons l fun v vs => match look E.types t with
    | some i => asOne i v fun v' => asParts E ts vs fun vs' => K (v' :: vs')
    | none => False
def asTy (E : Env) (t : TypeId) (v : Value) (K : Value → Prop) : Prop :=
  match look E.types t with
  | some i => match i.ty with
    | .tuple ts => gTup v fun l => asParts E ts l fun vs => K (.tuple vs.toArray)
    | _ => asOne i v K
  | none => K v

/-! ### operations that leave the heap alone -/
def shlI (k : IntKind) (x y : Int) : Int := k.wrap (x * 2 ^ (min y.toNat k.bits))
def shrI (k : IntKind) (x y : Int) : Int := x.fdiv (2 ^ (min y.toNat k.bits))
def andI (k : IntKind) (x y : Int) : Int := k.wrap (BitVec.ofInt k.bits x &&& BitVec.ofInt k.bits y).toNat
def orI (k : IntKind) (x y : Int) : Int := k.wrap (BitVec.ofInt k.bits x ||| BitVec.ofInt k.bits y).toNat
def xorI (k : IntKind) (x y : Int) : Int := k.wrap (BitVec.ofInt k.bits x ^^^ BitVec.ofInt k.bits y).toNat
def andNotI (k : IntKind) (x y : Int) : Int := k.wrap (BitVec.ofInt k.bits x &&& ~~~(BitVec.ofInt k.bits y)).toNat
/-- A number under a name. -/
structure letK (n : Int) (K : Int → Prop) : Prop where
  out : K n
def dIntOp (op : BinOp) (k : IntKind) (a b : Int) (K : Value → Prop) : Prop :=
  match op with
  | .add => letK (k.wrap (a + b)) fun n => K (.int k n)
  | .sub => letK (k.wrap (a - b)) fun n => K (.int k n)
  | .mul => letK (k.wrap (a * b)) fun n => K (.int k n)
  | .quo => b ≠ 0 ∧ letK (k.wrap (a.tdiv b)) fun n => K (.int k n)
  | .rem => b ≠ 0 ∧ letK (a.tmod b) fun n => K (.int k n)
  | .and => letK (andI k a b) fun n => K (.int k n)
  | .or => letK (orI k a b) fun n => K (.int k n)
  | .xor => letK (xorI k a b) fun n => K (.int k n)
  | .andNot => letK (andNotI k a b) fun n => K (.int k n)
  | .eql => K (.bool (a == b))
  | .neq => K (.bool (a != b))
  | .lss => K (.bool (decide (a < b)))
  | .leq => K (.bool (decide (a ≤ b)))
  | .gtr => K (.bool (decide (a > b)))
  | .geq => K (.bool (decide (a ≥ b)))
  | _ => False
def dBin (E : Env) (op : BinOp) (t : TypeId) (x y : Value) (K : Value → Prop) : Prop :=
  match x, y with
  | .int k a, .int k' b =>
    match op with
    | .shl => 0 ≤ b ∧ letK (shlI k a b) fun n => K (.int k n)
    | .shr => 0 ≤ b ∧ letK (shrI k a b) fun n => K (.int k n)
    | op => bif kEq k k' then dIntOp op k a b K else False
  | .string a, .string b =>
    match op with
    | .add => (((a.size + b.size : Nat) : Int) ≤ 9223372036854775807) ∧ K (.string (a ++ b))
    | .eql => K (.bool (a.toList == b.toList))
    | .neq => K (.bool (!(a.toList == b.toList)))
    | _ => False
  | .bool a, .bool b =>
    match look E.types t with
    | some ⟨.bool, _, _⟩ => (match op with
      | .eql => K (.bool (a == b))
      | .neq => K (.bool (!(a == b)))
      | _ => False)
    | _ => False
  | .slice a _ _, .slice none _ _ =>
    match look E.types t with
    | some ⟨.slice _, _, _⟩ => (match op with
      | .eql => K (.bool a.isNone)
      | .neq => K (.bool (!a.isNone))
      | _ => False)
    | _ => False
  | _, _ => False
def notI (k : IntKind) (n : Int) : Int := xorI k (bif k.signed then -1 else k.max) n
def dUn (op : UnOp) (x : Value) (K : Value → Prop) : Prop :=
  match op, x with
  | .neg, .int k n => letK (k.wrap (0 - n)) fun n => K (.int k n)
  | .xor, .int k n => letK (notI k n) fun n => K (.int k n)
  | .not, .bool b => K (.bool (!b))
  | _, _ => False
def idxK (a : Option Addr) (l : Nat) (i : Int) (sz : Nat) (K : Addr → Prop) : Prop :=
  (0 ≤ i ∧ i < (l : Int)) ∧ match a with
    | some p => K (p.add (i.toNat * sz))
    | none => False
def idxS (s : ByteArray) (i : Int) (K : Int → Prop) : Prop :=
  0 ≤ i ∧ match s[i.toNat]? with
    | some b => K b.toNat
    | none => False
def ldK (h : Hp) (q : Addr) (K : Value → Prop) : Prop := match cellH h q with | some v => K v | none => False
def ldLs (h : Hp) (q : Addr) : Nat → List Kd → (List Value → Prop) → Prop
  | _, [], K => K []
  | i, k :: ks, K => ldK h (q.add i) fun v => asLeaf k v fun v' => ldLs h q (i + 1) ks fun vs => K (v' :: vs)
def ldT (i : TyI) (h : Hp) (q : Addr) (K : Value → Prop) : Prop :=
  match i.ty with
  | .struct _ => ldLs h q 0 i.leaves fun vs => K (.agg vs.toArray)
  | .tuple _ => False
  | _ => match i.leaves with
    | [k] => ldK h q fun v => asLeaf k v K
    | _ => False
def bnd (v : Option Value) (dflt y : Nat) (K : Nat → Prop) : Prop :=
  match v with
  | none => K dflt
  | some (.int _ i) => (0 ≤ i ∧ i ≤ (y : Int)) ∧ K i.toNat
  | _ => False
def subA (a : Option Addr) (m l sz : Nat) : Option Addr := if m = l then a else a.map (·.add (l * sz))
def slK (sz : Nat) (a : Option Addr) (len cap : Nat) (lo hi mx : Option Value) (K : Option Addr → Nat → Nat → Prop) : Prop :=
  match hi, mx with
  | none, some _ => False
  | _, _ => bnd mx cap cap fun m => bnd hi len m fun h => bnd lo 0 h fun l => K (subA a m l sz) (h - l) (m - l)
def slS (s : ByteArray) (lo hi : Option Value) (K : ByteArray → Prop) : Prop :=
  bnd hi s.size s.size fun h => bnd lo 0 h fun l => K (s.extract l h)
def setL (cells : List Value) (off : Nat) (vs : List Value) : List Value := cells.take off ++ (vs ++ cells.drop (off + vs.length))
def fillL (place : Nat → Option (Nat × Nat)) (cells : List Value) : List (Nat × Value) → Option (List Value)
  | [] => some cells
  | (i, v) :: rest =>
    match place i with
    | none => none
    | some (off, size) => bif Nat.beq v.cells.toList.length size && Nat.ble (off + v.cells.toList.length) cells.length then fillL place (setL cells off v.cells.toList) rest else none
def fieldPl (E : Env) (fs : List (Nat × TypeId)) (f : Nat) : Option (Nat × Nat) :=
  match fs[f]? with
  | some (off, t) => match look E.types t with
    | some i => some (off, i.leaves.length)
    | none => none
  | none => none
def placesOk (E : Env) : List (Nat × TypeId) → Bool
  | [] => true
  | (_, t) :: l => match look E.types t with
    | some _ => placesOk E l
    | none => false
def dMax : Value → List Value → (Value → Prop) → Prop
  | x, [], K => K x
  | .int k x, .int _ y :: rest, K => dMax (.int k (if y > x then y else x)) rest K
  | _, _, _ => False
def dMin : Value → List Value → (Value → Prop) → Prop
  | x, [], K => K x
  | .int k x, .int _ y :: rest, K => dMin (.int k (if y < x then y else x)) rest K
  | _, _, _ => False
def dLen (E : Env) (t : TypeId) (v : Value) (K : Value → Prop) : Prop :=
  match look E.types t, v with
  | some ⟨.slice _, _, _⟩, .slice _ n _ => K (.int .i64 (n : Int))
  | some ⟨.str, _, _⟩, .string s => K (.int .i64 (s.size : Int))
  | _, _ => False
def addK (x y z : Int) (K : Int → Int → Prop) : Prop := (0 ≤ x ∧ 0 ≤ y ∧ 0 ≤ z ∧ z ≤ 1) ∧ K ((x + y + z) % 18446744073709551616) ((x + y + z) / 18446744073709551616)
def subK (x y z : Int) (K : Int → Int → Prop) : Prop := (0 ≤ x ∧ 0 ≤ y ∧ 0 ≤ z ∧ z ≤ 1 ∧ y < 18446744073709551616) ∧ K ((x - y - z) % 18446744073709551616) (if x < y + z then 1 else 0)
def dCall (E : Env) (c : Call) (fr : Fr) (K : Value → Prop) : Prop :=
  match c.callee with
  | .builtin .len => (match c.args.toList, c.argTypes.toList with
    | x :: _, t :: _ => dLen E t (ev fr x) K
    | _, _ => False)
  | .builtin .max => (match c.args.toList.map (ev fr) with
    | x :: rest => dMax x rest K
    | [] => False)
  | .builtin .min => (match c.args.toList.map (ev fr) with
    | x :: rest => dMin x rest K
    | [] => False)
  | .value (.func f) => (match look E.fns f with
    | some .add64 => (match c.args.toList.map (ev fr) with
      | [.int .u64 x, .int .u64 y, .int .u64 z] => addK x y z fun s c => K (.tuple #[.int .u64 s, .int .u64 c])
      | _ => False)
    | some .sub64 => (match c.args.toList.map (ev fr) with
      | [.int .u64 x, .int .u64 y, .int .u64 z] => subK x y z fun s c => K (.tuple #[.int .u64 s, .int .u64 c])
      | _ => False)
    | _ => False)
  | _ => False
def dStill (E : Env) (op : Op) (fr : Fr) (h : Hp) (K : Value → Prop) : Prop :=
  match op with
  | .move x => K (ev fr x)
  | .assign x => K (ev fr x)
  | .pick c a b => (match ev fr c with
    | .bool t => cond t (K (ev fr a)) (K (ev fr b))
    | _ => False)
  | .load t a => (match ev fr a, look E.types t with
    | .pointer (some q), some i => ldT i h q K
    | _, _ => False)
  | .binOp op t x y _ => dBin E op t (ev fr x) (ev fr y) K
  | .unOp op _ x => dUn op (ev fr x) K
  | .convert s d x => (match look E.types s, look E.types d, ev fr x with
    | some ⟨.int _, _, _⟩, some ⟨.int k, _, _⟩, .int _ n => letK (k.wrap n) fun n => K (.int k n)
    | _, _, _ => False)
  | .indexAddr t x i => (match look E.types t, ev fr x, ev fr i with
    | some ⟨.slice e, _, _⟩, .slice a l _, .int _ n => (match look E.types e with
      | some ie => idxK a l n ie.leaves.length fun q => K (.pointer (some q))
      | none => False)
    | _, .pointer (some q), .int _ n => (match look E.arrs t with
      | some (m, e) => (match look E.types e with
        | some ie => idxK (some q) m n ie.leaves.length fun q => K (.pointer (some q))
        | none => False)
      | none => False)
    | _, _, _ => False)
  | .index t x i => (match look E.types t, ev fr x, ev fr i with
    | some ⟨.str, _, _⟩, .string s, .int _ n => idxS s n fun b => K (.int .u8 b)
    | _, _, _ => False)
  | .extract x i => (match ev fr x with
    | .tuple vs => (match vs.toList[i]? with
      | some v => K v
      | none => False)
    | _ => False)
  | .fieldAddr s x f => (match ev fr x, look E.types s with
    | .pointer (some q), some ⟨.struct fs, _, _⟩ => (match fs[f]? with
      | some (off, t) => (match look E.types t with
        | some i => bif Nat.beq i.leaves.length 0 then False else K (.pointer (some (q.add off)))
        | none => False)
      | none => False)
    | _, _ => False)
  | .field t x f => (match ev fr x, look E.types t with
    | .agg cs, some ⟨.struct fs, _, _⟩ => (match fs[f]? with
      | some (off, t') => (match look E.types t' with
        | some ⟨.struct _, ls, _⟩ => K (.agg ((cs.toList.drop off).take ls.length).toArray)
        | some ⟨.tuple _, _, _⟩ => False
        | some _ => (match cs.toList[off]? with
          | some v => K v
          | none => False)
        | none => False)
      | none => False)
    | _, _ => False)
  | .build t parts => (match look E.types t with
    | some ⟨.struct fs, ls, _⟩ => bif !fs.isEmpty && placesOk E fs then (match fillL (fieldPl E fs) (ls.map Kd.zero) (parts.toList.map fun (i, x) => (i, ev fr x)) with
      | some cells => K (.agg cells.toArray)
      | none => False) else False
    | _ => False)
  | .nilCheck x => (match ev fr x with
    | .pointer (some q) => K (.pointer (some q))
    | _ => False)
  | .slice t x lo hi mx => (match look E.types t, ev fr x with
    | some ⟨.slice e, _, _⟩, .slice a l c => (match look E.types e with
      | some ie => slK ie.leaves.length a l c (lo.map (ev fr)) (hi.map (ev fr)) (mx.map (ev fr)) fun a l c => K (.slice a l c)
      | none => False)
    | some ⟨.str, _, _⟩, .string s => (match mx with
      | none => slS s (lo.map (ev fr)) (hi.map (ev fr)) fun s => K (.string s)
      | some _ => False)
    | _, _ => False)
  | .call c => dCall E c fr K
  | _ => False

/-! ### operations that make or write memory, and calls -/
def zerosL (zs : List Value) : Nat → List Value
  | 0 => []
  | n + 1 => zs ++ zerosL zs n
def TyI.zs (i : TyI) : List Value := i.leaves.map Kd.zero
def boxK (h : Hp) (e : TypeId) (cells : List Value) (K : Addr → Hp → Prop) : Prop := K ⟨h.size, 0, none⟩ (h.push (.cells cells.toArray e (0, 0)))
def mkK (h : Hp) (e : TypeId) (i : TyI) (n m : Int) (K : Addr → Hp → Prop) : Prop :=
  (0 ≤ n ∧ n ≤ m ∧ 1 ≤ i.bytes ∧ (i.bytes : Int) * m ≤ 281474976710656) ∧
    K ⟨h.size, 0, none⟩ (h.push (.cells (zerosL i.zs m.toNat).toArray e (0, 0)))
def plainV : Value → Bool
  | .agg _ | .tuple _ => false
  | _ => true
def stK (h : Hp) (q : Addr) (v : Value) (K : Hp → Prop) : Prop :=
  ((∃ o, cellH h q = some o) ∧ frozenH h q = false) ∧ K (setH h q v)
def stLs (h : Hp) (q : Addr) : Nat → List Value → (Hp → Prop) → Prop
  | _, [], K => K h
  | i, v :: vs, K => bif plainV v then stK h (q.add i) v fun h' => stLs h' q (i + 1) vs K else False
def dStore (i : TyI) (h : Hp) (q : Addr) (v : Value) (K : Hp → Prop) : Prop :=
  match v with
  | .agg cs => bif Nat.beq cs.toList.length i.leaves.length then stLs h q 0 cs.toList K else False
  | .tuple _ => False
  | v => bif Nat.beq 1 i.leaves.length then stK h q v K else False
/-- What append and copy read: n elements of the source, in cells. -/
def SrcL (h : Hp) (sz : Nat) (x : Value) (n : Nat) (cs : List Value) : Prop :=
  cs.length = n * sz ∧ (∀ v ∈ cs, plainV v = true) ∧ match x with
    | .slice (some b) _ _ => RdL h b 0 cs
    | .slice none _ _ => cs = []
    | .string s => cs = (s.extract 0 n).data.toList.map fun b => .int .u8 b.toNat
    | _ => False
def lenV : Value → Option Nat
  | .slice _ n _ => some n
  | .string s => some s.size
  | _ => none
def apK (h : Hp) (e : TypeId) (i : TyI) (a : Option Addr) (l c : Nat) (x : Value) (K : Option Addr → Nat → Nat → Hp → Prop) : Prop :=
  ∃ n cs, lenV x = some n ∧ SrcL h i.leaves.length x n cs ∧
    (l + n ≤ c → match a with
      | some p => StL h (p.add (l * i.leaves.length)) 0 cs.length ∧ K a (l + n) c (stH h (p.add (l * i.leaves.length)) 0 cs)
      | none => K a (l + n) c h) ∧
    (¬ l + n ≤ c → Builtin.nextslicecap (l + n) c * i.bytes ≤ 281474976710656 ∧ 1 ≤ i.bytes ∧ l + n ≤ 9223372036854775807 ∧
      ∃ old, SrcL h i.leaves.length (.slice a l c) l old ∧
        ∀ nc, l + n ≤ nc → K (some ⟨h.size, 0, none⟩) (l + n) nc (h.push (.cells (old ++ (cs ++ zerosL i.zs (nc - (l + n)))).toArray e (0, 0))))
def cpK (h : Hp) (sz : Nat) (a : Option Addr) (l : Nat) (x : Value) (K : Int → Hp → Prop) : Prop :=
  ∃ n cs, lenV x = some n ∧ SrcL h sz x (Nat.min n l) cs ∧ match a with
    | some p => StL h p 0 cs.length ∧ K (Nat.min n l : Int) (stH h p 0 cs)
    | none => K (Nat.min n l : Int) h
def clK (h : Hp) (i : TyI) (a : Option Addr) (l : Nat) (K : Hp → Prop) : Prop :=
  match a, l with
  | none, _ => K h
  | some _, 0 => K h
  | some p, l + 1 => StL h p 0 ((l + 1) * i.leaves.length) ∧ K (stH h p 0 (zerosL i.zs (l + 1)))
/-- May a value of this type be appended? -/
def srcTy (E : Env) (t : TypeId) : Bool :=
  match look E.types t with
  | some ⟨.slice _, _, _⟩ => true
  | some ⟨.str, _, _⟩ => true
  | _ => false
/-! strings: a range over one, and the string of a list of bytes -/
def rgK (h : Hp) (s : ByteArray) (K : Addr → Hp → Prop) : Prop := K ⟨h.size, 0, none⟩ (h.push (.stringIter s 0))
def setIt (h : Hp) (b : Nat) (s : ByteArray) (pos : Nat) : Hp := h.setIfInBounds b (.stringIter s pos)
def nxK (h : Hp) (q : Addr) (K1 : Int → Int → Hp → Prop) (K0 : Prop) : Prop :=
  q.off = 0 ∧ ∃ s pos, h[q.block]? = some (.stringIter s pos) ∧ (pos < s.size → K1 (pos : Int) ((Utf8.decode s pos).1 : Int) (setIt h q.block s (pos + (Utf8.decode s pos).2))) ∧ (¬ pos < s.size → K0)
def b2s (h : Hp) (a : Option Addr) (l : Nat) (K : ByteArray → Prop) : Prop :=
  match a with
  | none => K ByteArray.empty
  | some p => ∃ bs : List UInt8, bs.length = l ∧ RdL h p 0 (bs.map fun b => .int .u8 b.toNat) ∧ K ⟨bs.toArray⟩
def dAct (P : Program) (E : Env) (op : Op) (t0 : TypeId) (fr : Fr) (h : Hp) (K : Value → Hp → Prop) : Prop :=
  match op with
  | .range t x => (match look E.types t, ev fr x with
    | some ⟨.str, _, _⟩, .string s => rgK h s fun p h' => K (.pointer (some p)) h'
    | _, _ => False)
  | .next it b => cond b (match ev fr it with
    | .pointer (some q) => nxK h q (fun i c h' => K (.tuple #[.bool true, .int .i64 i, .int .i32 c]) h') (K (.tuple #[.bool false]) h)
    | _ => False) False
  | .convert s d x => (match look E.types s, look E.types d, ev fr x with
    | some ⟨.slice e, _, _⟩, some ⟨.str, _, _⟩, .slice a l _ => (match look E.types e with
      | some ⟨.int .u8, _, _⟩ => b2s h a l fun t => K (.string t) h
      | _ => False)
    | _, _, _ => False)
  | .store t x v => (match ev fr x, look E.types t with
    | .pointer (some q), some i => dStore i h q (ev fr v) (fun h' => K undef h')
    | _, _ => False)
  | .box e v => boxK h e (ev fr v).cells.toList fun p h' => K (.pointer (some p)) h'
  | .alloc e => (match look E.types e with
    | some ⟨.tuple _, _, _⟩ => False
    | some i => boxK h e i.zs fun p h' => K (.pointer (some p)) h'
    | none => False)
  | .makeSlice t l c => (match look E.types t, ev fr l, ev fr c with
    | some ⟨.slice e, _, _⟩, .int _ n, .int _ m => (match look E.types e with
      | some ⟨.tuple _, _, _⟩ => False
      | some i => mkK h e i n m fun p h' => K (.slice (some p) n.toNat m.toNat) h'
      | none => False)
    | _, _, _ => False)
  | .buildSlice t n parts => (match look E.types t with
    | some ⟨.slice e, _, _⟩ => (match look E.types e with
      | some ⟨.tuple _, _, _⟩ => False
      | some i => bif Nat.ble (n * i.leaves.length) 16777216 then (match fillL (fun j => some (j * i.leaves.length, i.leaves.length)) (zerosL i.zs n) (parts.toList.map fun (j, x) => (j, ev fr x)) with
        | some cells => boxK h e cells fun p h' => K (.slice (some p) n n) h'
        | none => False) else False
      | none => False)
    | _ => False)
  | .call c => (match c.callee with
    | .builtin .append => (match c.args.toList, c.argTypes.toList with
      | [s, x], [t, t'] => bif srcTy E t' then (match look E.types t, ev fr s with
        | some ⟨.slice e, _, _⟩, .slice a l cp => (match look E.types e with
          | some ⟨.tuple _, _, _⟩ => False
          | some i => apK h e i a l cp (ev fr x) fun a l c h' => K (.slice a l c) h'
          | none => False)
        | _, _ => False) else False
      | _, _ => False)
    | .builtin .copy => (match c.args.toList, c.argTypes.toList with
      | [d, x], t :: _ => (match look E.types t, ev fr d with
        | some ⟨.slice e, _, _⟩, .slice a l _ => (match look E.types e with
          | some ⟨.tuple _, _, _⟩ => False
          | some i => cpK h i.leaves.length a l (ev fr x) fun n h' => K (.int .i64 n) h'
          | none => False)
        | _, _ => False)
      | _, _ => False)
    | .builtin .clear => (match c.args.toList, c.argTypes.toList with
      | [d], [t] => (match look E.types t, ev fr d with
        | some ⟨.slice e, _, _⟩, .slice a l _ => (match look E.types e with
          | some ⟨.tuple _, _, _⟩ => False
          | some i => clK h i a l fun h' => K (.tuple #[]) h'
          | none => False)
        | _, _ => False)
      | _, _ => False)
    | .value (.func f) => (match look E.fns f with
      | some .body => HCalls P f (c.args.toList.map (ev fr)).toArray h fun v h' => asTy E t0 v fun v' => K v' h'
      | _ => False)
    | _ => False)
  | _ => False
/-- A call that leaves the heap as it was. -/
def HQ (P : Program) (f : FuncId) (args : Array Value) (h : Hp) (K : Value → Prop) : Prop := ∃ v, HCalls P f args h (fun v' h' => v' = v ∧ h' = h) ∧ K v
def dQuiet (P : Program) (E : Env) (op : Op) (t0 : TypeId) (fr : Fr) (h : Hp) (K : Value → Prop) : Prop :=
  match op with
  | .call c => (match c.callee with
    | .value (.func f) => HQ P f (c.args.toList.map (ev fr)).toArray h fun v => asTy E t0 v K
    | _ => False)
  | _ => False
/-- What kind of operation it is, as far as its place in an order goes. -/
inductive Cl where
  | pure | load | quiet | call | act
def clOf (E : Env) : Op → Cl
  | .load .. => .load
  | .move _ | .assign _ | .pick .. | .binOp .. | .unOp .. | .indexAddr .. | .index .. | .extract .. | .fieldAddr .. | .field .. | .build .. | .nilCheck _ | .slice .. => .pure
  | .convert s _ _ => (match look E.types s with
    | some ⟨.slice _, _, _⟩ => .act
    | _ => .pure)
  | .call c => (match c.callee with
    | .builtin .len | .builtin .max | .builtin .min => .pure
    | .value (.func f) => (match look E.fns f with
      | some .add64 | some .sub64 => .pure
      | some .quiet => .quiet
      | _ => .call)
    | _ => .act)
  | .alloc _ | .box .. | .makeSlice .. | .buildSlice .. => .call
  | _ => .act
def Pre (n0 : Nat) (h h' : Hp) : Prop := ∀ b, b < n0 → h'[b]? = h[b]?
/-- In a region of the second mode a load reads what was there ahead of the region, and a call leaves that as it is. -/
def blkK (n0 : Nat) (x : Value) : Prop := match x with | .pointer (some q) => q.block < n0 | _ => False
def dOp (P : Program) (E : Env) (md : Bool) (n0 : Nat) (o : Oper) (fr : Fr) (h : Hp) (K : Value → Hp → Prop) : Prop :=
  match clOf E o.op with
  | .pure => dStill E o.op fr h (fun v => K v h)
  | .load => cond md (match o.op with
    | .load _ a => blkK n0 (ev fr a) ∧ dStill E o.op fr h (fun v => K v h)
    | _ => False) (dStill E o.op fr h (fun v => K v h))
  | .quiet => dQuiet P E o.op o.type fr h (fun v => K v h)
  | .call => cond md (dAct P E o.op o.type fr h fun v h' => Pre n0 h h' ∧ K v h') (dAct P E o.op o.type fr h K)
  | .act => dAct P E o.op o.type fr h K

/-! ### regions -/
def gTmp (all : List Oper) (j : Nat) : Option Nat := match all[j]? with | some o => o.dst | none => none
def dOps (P : Program) (E : Env) (md : Bool) (n0 : Nat) (all : List Oper) : List Oper → Fr → Hp → (Fr → Hp → Prop) → Prop
  | [], fr, h, K => K fr h
  | o :: rest, fr, h, K =>
    match o.guard with
    | none => dOp P E md n0 o fr h fun v h' => dOps P E md n0 all rest (updO fr o.dst v) h' K
    | some (j, want) =>
      match gTmp all j with
      | none => False
      | some t =>
        match fr t with
        | .bool b => cond b
            (cond want (dOp P E md n0 o (upd fr t (.bool true)) h fun v h' => dOps P E md n0 all rest (updO (upd fr t (.bool true)) o.dst v) h' K)
              (dOps P E md n0 all rest (updO (upd fr t (.bool true)) o.dst undef) h K))
            (cond want (dOps P E md n0 all rest (updO (upd fr t (.bool false)) o.dst undef) h K)
              (dOp P E md n0 o (upd fr t (.bool false)) h fun v h' => dOps P E md n0 all rest (updO (upd fr t (.bool false)) o.dst v) h' K))
        | .tuple _ => dOps P E md n0 all rest (updO fr o.dst undef) h K
        | _ => False
/-- May two operations that no edge holds be taken in either order? (a: ahead in the text.) -/
def comB (md : Bool) : Cl → Cl → Bool
  | .pure, _ | _, .pure => true
  | .load, .load | .quiet, .quiet => true
  | .load, .quiet | .quiet, .load => true
  | .load, .call | .call, .load => md
  | _, _ => false
def befOf (acc : List Nat) : List Edge → Nat
  | [] => 0
  | e :: l => bif Region.binds .any e then (2 ^ e.on ||| acc.getD e.on 0) ||| befOf acc l else befOf acc l
def befs (acc : List Nat) : List Oper → List Nat
  | [] => acc
  | o :: l => befs (acc ++ [befOf acc o.after.toList]) l
def edgesB (ops : List Oper) : Bool := (List.range ops.length).all fun i => match ops[i]? with
  | some o => o.after.toList.all fun e => !Region.binds .any e || Nat.blt e.on i
  | none => true
def pairB (E : Env) (md : Bool) (ops : List Oper) (bs : List Nat) (i j : Nat) : Bool :=
  match ops[i]?, ops[j]? with
  | some oi, some oj => (bs.getD i 0).testBit j || (oj.apart ops.toArray oi && comB md (clOf E oj.op) (clOf E oi.op))
  | _, _ => true
def comOk (E : Env) (md : Bool) (ops : List Oper) : Bool :=
  Region.noSelect ops.toArray && edgesB ops && (List.range ops.length).all fun i => (List.range i).all fun j => pairB E md ops (befs [] ops) i j
/-- The mode of a region: the second one where the first does not do. -/
def modeB (E : Env) (draw : Bool) (ops : List Oper) : Bool := draw && !comOk E false ops
/-! A region whose order is open in either mode: a tree of choices. An operation that hinders none of those that are left is taken at once; else all that may come next are asked for. -/
def openB (E : Env) (draw : Bool) (ops : List Oper) : Bool := draw && !comOk E false ops && !comOk E true ops
def rdyB (bs : List Nat) (todo : List Nat) (i : Nat) : Bool := todo.all fun j => !(bs.getD i 0).testBit j
def frontB (E : Env) (all : List Oper) (bs : List Nat) (todo : List Nat) (i : Nat) : Bool :=
  rdyB bs todo i && todo.all fun j => Nat.beq j i || (bs.getD j 0).testBit i || (match all[i]?, all[j]? with
    | some oi, some oj => oi.apart all.toArray oj && comB true (clOf E oi.op) (clOf E oj.op)
    | _, _ => false)
def del (todo : List Nat) (i : Nat) : List Nat := todo.filter fun j => !Nat.beq j i
def conjL (f : Nat → Prop) : List Nat → Prop
  | [] => True
  | [i] => f i
  | i :: j :: l => f i ∧ conjL f (j :: l)
def dAt (P : Program) (E : Env) (n0 : Nat) (all : List Oper) (i : Nat) (fr : Fr) (h : Hp) (K : Fr → Hp → Prop) : Prop :=
  match all[i]? with
  | some o => dOps P E true n0 all [o] fr h K
  | none => False
def dTr (P : Program) (E : Env) (n0 : Nat) (all : List Oper) (bs : List Nat) : Nat → List Nat → Fr → Hp → (Fr → Hp → Prop) → Prop
  | 0, _, fr, h, K => K fr h
  | n + 1, todo, fr, h, K => match todo.find? (frontB E all bs todo) with
    | some i => dAt P E n0 all i fr h fun fr h => dTr P E n0 all bs n (del todo i) fr h K
    | none => conjL (fun i => dAt P E n0 all i fr h fun fr h => dTr P E n0 all bs n (del todo i) fr h K) (todo.filter (rdyB bs todo))

/-! ### code -/
inductive Ex where
  | normal | exit (id : Nat) | ret
def Ex.then (next : Fr → Hp → Prop) (Q : Ex → Fr → Hp → Prop) : Ex → Fr → Hp → Prop
  | .normal => next
  | .exit id => Q (.exit id)
  | .ret => Q .ret
def Ex.inBlock (id : Nat) (Q : Ex → Fr → Hp → Prop) : Ex → Fr → Hp → Prop
  | .exit id' => bif Nat.beq id' id then Q .normal else Q (.exit id')
  | .normal => Q .normal
  | .ret => Q .ret
def iter (B : (Fr → Hp → Prop) → Fr → Hp → Prop) : Nat → Fr → Hp → Prop
  | 0 => fun _ _ => False
  | n + 1 => B (iter B n)
def den (P : Program) (E : Env) : Code → (Ex → Fr → Hp → Prop) → Fr → Hp → Prop
  | .skip, Q, fr, h => Q .normal fr h
  | .region _ ops draw, Q, fr, h => bif openB E draw ops.toList then dTr P E h.size ops.toList (befs [] ops.toList) ops.toList.length (List.range ops.toList.length) fr h (Q .normal)
      else dOps P E (modeB E draw ops.toList) h.size ops.toList ops.toList fr h (Q .normal)
  | .seq a b, Q, fr, h => den P E a (Ex.then (den P E b Q) Q) fr h
  | .cond c a b, Q, fr, h => match ev fr c with
    | .bool t => cond t (den P E a Q (updC fr c true) h) (den P E b Q (updC fr c false) h)
    | _ => False
  | .block id c, Q, fr, h => den P E c (Ex.inBlock id Q) fr h
  | .loop c, Q, fr, h => ∃ n, iter (fun N => den P E c (Ex.then N Q)) n fr h
  | .exit id, Q, fr, h => Q (.exit id) fr h
  | .ret, Q, fr, h => Q .ret fr h
  | .rangeFunc .., _, _, _ => False
  | .scope c, Q, fr, h => den P E c Q fr h
  | .label _, Q, fr, h => Q .normal fr h
  | .goto _, _, _, _ => False
  | .refuse _, _, _, _ => False
def initFr (args : List Value) : Fr := fun t => match args[t]? with | some v => v | none => undef
/-- What a function hands back. -/
def resK (E : Env) (fr : Fr) (h : Hp) : List ResultVar → (List Value → Prop) → Prop
  | [], K => K []
  | .tmp t :: l, K => resK E fr h l fun vs => K (fr t :: vs)
  | .cell a t :: l, K => match fr a, look E.types t with
    | .pointer (some q), some i => ldT i h q fun v => resK E fr h l fun vs => K (v :: vs)
    | _, _ => False
def mkRes : List Value → Value
  | [v] => v
  | vs => .tuple vs.toArray

/-! ### places in a body -/
def bodyOf (f : Func) : Code := match f.body with | some c => c | none => .skip
/-- false: the first part; true: the second. -/
def cAt : Code → List Bool → Code
  | c, [] => c
  | .seq a _, false :: p => cAt a p
  | .seq _ b, true :: p => cAt b p
  | .cond _ a _, false :: p => cAt a p
  | .cond _ _ b, true :: p => cAt b p
  | .block _ c, _ :: p => cAt c p
  | .loop c, _ :: p => cAt c p
  | .scope c, _ :: p => cAt c p
  | _, _ :: _ => .skip
def chainR : List Code → Code → Code
  | [], r => r
  | a :: l, r => .seq a (chainR l r)
def chainL : List Code → Code
  | [] => .skip
  | [a] => a
  | a :: l => .seq a (chainL l)

/-! ### what is asked of the text alone -/
def dstB (n : Nat) (o : Oper) : Bool := match o.dst with | some d => Nat.blt d n | none => true
def regB (_E : Env) (n : Nat) (ops : Array Oper) (draw : Bool) : Bool :=
  ops.toList.all (dstB n) && (!draw || (Region.noSelect ops.toList.toArray && edgesB ops.toList))
def codeB (E : Env) (n : Nat) : Code → Bool
  | .region _ ops draw => regB E n ops draw
  | .seq a b => codeB E n a && codeB E n b
  | .cond _ a b => codeB E n a && codeB E n b
  | .block _ c => codeB E n c
  | .loop c => codeB E n c
  | .scope c => codeB E n c
  | .skip | .exit _ | .ret | .label _ => true
  | _ => false
end Go.Gv

/- Gv, part 2: 'den' is sound: what it says of a body, the machine does. -/
namespace Go.Gv
set_option linter.unusedVariables false
set_option linter.unusedSimpArgs false

/-! ### facts of the environment -/
/-- A row of the machine's own behind a function without a body. -/
def extP (P : Program) (f : FuncId) : Fk → Prop
  | .body | .quiet => True
  | .add64 => ∃ fn, P.funcs[f]? = some fn ∧ Extern.findNext fn = none ∧ Extern.find fn = some add64Entry
  | .sub64 => ∃ fn, P.funcs[f]? = some fn ∧ Extern.findNext fn = none ∧ Extern.find fn = some sub64Entry
structure EnvOk (P : Program) (E : Env) : Prop where
  ty : ∀ t i, look E.types t = some i → tyB P t i = true
  fn : ∀ f k, look E.fns f = some k → fnB P f k = true
  ext : ∀ f k, look E.fns f = some k → extP P f k
  mixed : P.follows .mixedOrders = true
  arr : ∀ t p, look E.arrs t = some p → P.underlying t = some (.array p.1 p.2)
def Fk.isExt : Fk → Bool
  | .body | .quiet => false
  | _ => true
theorem ext_of {P : Program} {l : List (Nat × Fk)} {r : List (Nat × Fk)} (e : l.filter (fun p => p.2.isExt) = r) (h : ∀ p ∈ r, extP P p.1 p.2) : ∀ p ∈ l, extP P p.1 p.2 := by
  intro p hp
  obtain ⟨f, k⟩ := p
  cases k with
  | body => trivial
  | quiet => trivial
  | add64 => exact h (f, .add64) (by rw [← e]; exact List.mem_filter.2 ⟨hp, rfl⟩)
  | sub64 => exact h (f, .sub64) (by rw [← e]; exact List.mem_filter.2 ⟨hp, rfl⟩)
theorem EnvOk.mk' {P : Program} {E : Env} (h : envB P E = true) (hx : ∀ p ∈ E.fns, extP P p.1 p.2) (hm : P.follows .mixedOrders = true) : EnvOk P E := by
  simp only [envB, Bool.and_eq_true, List.all_eq_true] at h
  refine ⟨fun t i hi => h.1.1 (t, i) (look_mem hi), fun f k hk => h.1.2 (f, k) (look_mem hk), fun f k hk => hx (f, k) (look_mem hk), hm, fun t p hp => ?_⟩
  have := h.2 (t, p) (look_mem hp)
  unfold arrB at this
  split at this
  · rename_i n e hu
    simp only [Bool.and_eq_true] at this
    rw [hu, Nat.eq_of_beq_eq_true this.1, Nat.eq_of_beq_eq_true this.2]
  · cases this

section facts
variable {P : Program} {t e : TypeId} {ls : List Kd} {b : Nat}
theorem undB_of {i : TyI} (h : tyB P t i = true) : undB (P.underlying t) i.ty = true := by
  simp only [tyB, Bool.and_eq_true] at h; exact h.1
theorem und_int {k : IntKind} (h : tyB P t ⟨.int k, ls, b⟩ = true) : P.underlying t = some (.int k) := by
  have h' := undB_of h
  simp only at h'
  unfold undB at h'
  split at h' <;> simp_all
  exact kEq_eq h'
theorem und_bool (h : tyB P t ⟨.bool, ls, b⟩ = true) : P.underlying t = some .bool := by
  have h' := undB_of h
  simp only at h'
  unfold undB at h'
  split at h' <;> simp_all
theorem und_str (h : tyB P t ⟨.str, ls, b⟩ = true) : P.underlying t = some .string := by
  have h' := undB_of h
  simp only at h'
  unfold undB at h'
  split at h' <;> simp_all
theorem und_slice (h : tyB P t ⟨.slice e, ls, b⟩ = true) : P.underlying t = some (.slice e) := by
  have h' := undB_of h
  simp only at h'
  unfold undB at h'
  split at h' <;> simp_all
theorem und_ptr (h : tyB P t ⟨.ptr e, ls, b⟩ = true) : P.underlying t = some (.pointer e) := by
  have h' := undB_of h
  simp only at h'
  unfold undB at h'
  split at h' <;> simp_all
theorem und_struct' {fs : List (Nat × TypeId)} (h : tyB P t ⟨.struct fs, ls, b⟩ = true) : (∃ fs', P.underlying t = some (.struct fs') ∧ fs'.toList.map (fun f => (f.offset, f.type)) = fs) ∨ (fs = [] ∧ ∃ n e, P.underlying t = some (.array n e)) := by
  have h' := undB_of h
  simp only at h'
  unfold undB at h'
  split at h' <;> simp_all
theorem und_struct {fs : List (Nat × TypeId)} (hn : fs ≠ []) (h : tyB P t ⟨.struct fs, ls, b⟩ = true) : ∃ fs', P.underlying t = some (.struct fs') ∧ fs'.toList.map (fun f => (f.offset, f.type)) = fs := by
  rcases und_struct' h with h | h
  · exact h
  · exact absurd h.1 hn
theorem und_some {i : TyI} (h : tyB P t i = true) : ∃ d, P.underlying t = some d := by
  have h' := undB_of h
  cases hu : P.underlying t with
  | none => rw [hu] at h'; cases i.ty <;> simp [undB] at h'
  | some d => exact ⟨d, rfl⟩
def Ty.isTuple : Ty → Bool
  | .tuple _ => true
  | _ => false
def Ty.isStruct : Ty → Bool
  | .struct _ => true
  | _ => false
theorem info_of {i : TyI} (h : tyB P t i = true) : ∃ inf, P.info? t = some inf ∧ inf.size = i.leaves.length ∧ inf.bytes = i.bytes := by
  simp only [tyB, Bool.and_eq_true] at h
  obtain ⟨_, h⟩ := h
  split at h
  · rename_i inf hi
    simp only [Bool.and_eq_true] at h
    exact ⟨inf, hi, Nat.eq_of_beq_eq_true h.1.1, Nat.eq_of_beq_eq_true h.1.2⟩
  · simp at h
theorem zero_of {i : TyI} (h : tyB P t i = true) (hn : i.ty.isTuple = false) :
    ∃ inf, P.info? t = some inf ∧ inf.size = i.leaves.length ∧ inf.bytes = i.bytes ∧ ∃ z, inf.zero = some z ∧ z.cells.toList = i.zs := by
  simp only [tyB, Bool.and_eq_true] at h
  obtain ⟨_, h⟩ := h
  split at h
  · rename_i inf hi
    simp only [Bool.and_eq_true] at h
    obtain ⟨⟨h1, h2⟩, h3⟩ := h
    split at h3
    · rename_i e; rw [e] at hn; simp [Ty.isTuple] at hn
    · split at h3
      · rename_i z hz
        exact ⟨inf, hi, Nat.eq_of_beq_eq_true h1, Nat.eq_of_beq_eq_true h2, z, hz, zerosB_eq h3⟩
      · simp at h3
  · simp at h
theorem und_scalar {i : TyI} (h : tyB P t i = true) (hs : i.ty.isStruct = false) : ∃ d, P.underlying t = some d ∧ (∀ fs, d ≠ .struct fs) ∧ (∀ n e, d ≠ .array n e) := by
  have h' := undB_of h
  cases hu : P.underlying t with
  | none => rw [hu] at h'; cases i.ty <;> simp [undB] at h'
  | some d =>
    rw [hu] at h'
    refine ⟨d, rfl, ?_, ?_⟩
    · rintro fs rfl
      cases ht : i.ty <;> rw [ht] at h' hs <;> simp [undB, Ty.isStruct] at h' hs
    · rintro n e rfl
      cases ht : i.ty <;> rw [ht] at h' hs <;> simp [undB, Ty.isStruct] at h' hs
end facts

section runs
variable {P : Program} {t : TypeId}
theorem run_und {d : TypeDesc} (h : P.underlying t = some d) (w : World) : (underlying t).run P w = .ok d w := run_underlying h w
theorem run_size {inf : TypeInfo} (h : P.info? t = some inf) (w : World) : (sizeOf t).run P w = .ok inf.size w := by simp [sizeOf, typeInfo, h]
theorem run_info {inf : TypeInfo} (h : P.info? t = some inf) (w : World) : (typeInfo t).run P w = .ok inf w := by simp [typeInfo, h]
theorem run_zero {inf : TypeInfo} {z : Value} (h : P.info? t = some inf) (hz : inf.zero = some z) (w : World) : (zeroValue t).run P w = .ok z w := by simp [zeroValue, typeInfo, h, hz]
theorem run_isAgg_no {i : TyI} (h : tyB P t i = true) (hs : i.ty.isStruct = false) (w : World) : (isAgg t).run P w = .ok false w := by
  obtain ⟨d, hd, h1, h2⟩ := und_scalar h hs
  unfold isAgg
  rw [Sem.run_bind, run_und hd]
  cases d <;> first | rfl | exact absurd rfl (h1 _) | exact absurd rfl (h2 _ _)
theorem run_isAgg_yes {fs : List (Nat × TypeId)} {ls : List Kd} {b : Nat} (h : tyB P t ⟨.struct fs, ls, b⟩ = true) (w : World) : (isAgg t).run P w = .ok true w := by
  rcases und_struct' h with ⟨fs', hd, _⟩ | ⟨_, n, e, hd⟩ <;>
  · unfold isAgg
    rw [Sem.run_bind, run_und hd]
    rfl
theorem run_loads : ∀ (vs : List Value) (q : Addr) (i : Nat) (acc : Array Value) (w : World), RdL w.heap q i vs → (loadCellsFrom q i vs.length acc).run P w = .ok (acc ++ vs.toArray) w
  | [], q, i, acc, w, _ => by simp [loadCellsFrom]
  | v :: vs, q, i, acc, w, h => by
    have h0 : w.cell? (q.add i) = some v := h.1
    have ih := run_loads vs q (i + 1) (acc.push v) w h.2
    simp only [List.length_cons, loadCellsFrom, Sem.run_bind, run_load, h0, Result.andThen, ih]
    simp
theorem plainV_one {v : Value} (h : plainV v = true) : v.oneCell' = true := by cases v <;> first | rfl | cases h
theorem run_store1 {q : Addr} {v : Value} {w : World} (h1 : ∃ o, cellH w.heap q = some o) (h2 : frozenH w.heap q = false) (hp : plainV v = true) : (store q v).run P w = .ok () (w.setCell q v) := by
  obtain ⟨o, ho⟩ := h1
  have e1 : w.cell? q = some o := ho
  have e2 : w.frozen? q = false := h2
  rw [run_store P w q v _ (plainV_one hp), e1]
  simp [e2]
end runs

/-! ### values -/
theorem gBool_elim {v : Value} {K : Bool → Prop} (h : gBool v K) : ∃ b, v = .bool b ∧ K b := by
  cases v <;> first | exact ⟨_, rfl, h⟩ | cases h
theorem gInt_elim {k : IntKind} {v : Value} {K : Int → Prop} (h : gInt k v K) : ∃ n, v = .int k n ∧ K n := by
  cases v with
  | int k' n =>
    unfold gInt at h
    cases e : kEq k k' with
    | false => simp [e] at h
    | true => simp [e] at h; obtain rfl := kEq_eq e; exact ⟨n, rfl, h⟩
  | _ => cases h
theorem gStr_elim {v : Value} {K : ByteArray → Prop} (h : gStr v K) : ∃ s, v = .string s ∧ K s := by
  cases v <;> first | exact ⟨_, rfl, h⟩ | cases h
theorem gSlice_elim {v : Value} {K : Option Addr → Nat → Nat → Prop} (h : gSlice v K) : ∃ a l c, v = .slice a l c ∧ K a l c := by
  cases v <;> first | exact ⟨_, _, _, rfl, h⟩ | cases h
theorem gPtr_elim {v : Value} {K : Option Addr → Prop} (h : gPtr v K) : ∃ a, v = .pointer a ∧ K a := by
  cases v <;> first | exact ⟨_, rfl, h⟩ | cases h
theorem asLeaf_elim {k : Kd} {v : Value} {K : Value → Prop} (h : asLeaf k v K) : K v ∧ plainV v = true := by
  cases k with
  | int k => obtain ⟨n, e, g⟩ := gInt_elim (show gInt k v _ from h); subst e; exact ⟨g, rfl⟩
  | bool => obtain ⟨n, e, g⟩ := gBool_elim (show gBool v _ from h); subst e; exact ⟨g, rfl⟩
  | str => obtain ⟨n, e, g⟩ := gStr_elim (show gStr v _ from h); subst e; exact ⟨g, rfl⟩
  | slice => obtain ⟨a, l, c, e, g⟩ := gSlice_elim (show gSlice v _ from h); subst e; exact ⟨g, rfl⟩
  | ptr => obtain ⟨n, e, g⟩ := gPtr_elim (show gPtr v _ from h); subst e; exact ⟨g, rfl⟩
theorem uncons_elim {l : List Value} {K : Value → List Value → Prop} (h : uncons l K) : ∃ v vs, l = v :: vs ∧ K v vs := by
  cases l <;> first | exact ⟨_, _, rfl, h⟩ | cases h
theorem unnil_elim {l : List Value} {K : Prop} (h : unnil l K) : l = [] ∧ K := by
  cases l <;> first | exact ⟨rfl, h⟩ | cases h
theorem asLeaves_elim : ∀ {ks : List Kd} {l : List Value} {K : List Value → Prop}, asLeaves ks l K → K l
  | [], l, K, h => by obtain ⟨e, g⟩ := unnil_elim h; subst e; exact g
  | k :: ks, l, K, h => by
    obtain ⟨v, vs, e, g⟩ := uncons_elim h
    subst e
    exact asLeaves_elim (K := fun vs' => K (v :: vs')) (asLeaf_elim g).1
theorem gAgg_elim {v : Value} {K : List Value → Prop} (h : gAgg v K) : ∃ cs, v = .agg cs ∧ K cs.toList := by
  cases v <;> first | exact ⟨_, rfl, h⟩ | cases h
theorem gTup_elim {v : Value} {K : List Value → Prop} (h : gTup v K) : ∃ cs, v = .tuple cs ∧ K cs.toList := by
  cases v <;> first | exact ⟨_, rfl, h⟩ | cases h
theorem asOne_elim {i : TyI} {v : Value} {K : Value → Prop} (h : asOne i v K) : K v := by
  unfold asOne at h
  split at h
  · obtain ⟨cs, e, g⟩ := gAgg_elim h
    subst e
    have := asLeaves_elim g
    simpa using this
  · split at h
    · exact (asLeaf_elim h).1
    · cases h
theorem asParts_elim {E : Env} : ∀ {ts : List TypeId} {l : List Value} {K : List Value → Prop}, asParts E ts l K → K l
  | [], l, K, h => by obtain ⟨e, g⟩ := unnil_elim h; subst e; exact g
  | t :: ts, l, K, h => by
    obtain ⟨v, vs, e, g⟩ := uncons_elim h
    subst e
    split at g
    · exact asParts_elim (K := fun vs' => K (v :: vs')) (asOne_elim g)
    · cases g
theorem asTy_elim {E : Env} {t : TypeId} {v : Value} {K : Value → Prop} (h : asTy E t v K) : K v := by
  unfold asTy at h
  split at h
  · split at h
    · obtain ⟨cs, e, g⟩ := gTup_elim h
      subst e
      have := asParts_elim g
      simpa using this
    · exact asOne_elim h
  · exact h

/-! ### operations that leave the heap alone -/
section still
variable {P : Program} {E : Env}
theorem dIntOp_run {op : BinOp} {k : IntKind} {a b : Int} {K : Value → Prop} {t : TypeId} (h : dIntOp op k a b K) (h1 : op ≠ .shl) (h2 : op ≠ .shr) :
    ∃ v, K v ∧ ∀ w, (binOp op t (.int k a) (.int k b)).run P w = .ok v w := by
  cases op with
  | shl => exact absurd rfl h1
  | shr => exact absurd rfl h2
  | add => exact ⟨_, h.out, fun w => by simp [binOp, Op.intArith]⟩
  | sub => exact ⟨_, h.out, fun w => by simp [binOp, Op.intArith]⟩
  | mul => exact ⟨_, h.out, fun w => by simp [binOp, Op.intArith]⟩
  | quo => exact ⟨_, h.2.out, fun w => by simp [binOp, Op.intDiv, h.1]⟩
  | rem => exact ⟨_, h.2.out, fun w => by simp [binOp, Op.intDiv, h.1]⟩
  | and => exact ⟨_, h.out, fun w => by rw [binOp_and]; rfl⟩
  | or => exact ⟨_, h.out, fun w => by rw [binOp_or]; rfl⟩
  | xor => exact ⟨_, h.out, fun w => by rw [binOp_xor]; rfl⟩
  | andNot => exact ⟨_, h.out, fun w => by rw [binOp_andNot]; rfl⟩
  | eql => exact ⟨_, h, fun w => by rw [binOp_eql]; rfl⟩
  | neq => exact ⟨_, h, fun w => by rw [binOp_neq]; rfl⟩
  | lss => exact ⟨_, h, fun w => by rw [binOp_lss]; rfl⟩
  | leq => exact ⟨_, h, fun w => by rw [binOp_leq]; rfl⟩
  | gtr => exact ⟨_, h, fun w => by rw [binOp_gtr]; rfl⟩
  | geq => exact ⟨_, h, fun w => by rw [binOp_geq]; rfl⟩
theorem run_equalBool {t : TypeId} (h : P.underlying t = some .bool) (a b : Bool) (w : World) : (Op.equal t (.bool a) (.bool b)).run P w = .ok (a == b) w := by
  have hm : Op.maxDepth = 9999 + 1 := rfl
  rw [Op.equal, hm, Op.equalIn, Sem.run_bind, run_und h]
  rfl
theorem run_equalNil {t e : TypeId} (h : P.underlying t = some (.slice e)) (a : Option Addr) (l c l' c' : Nat) (w : World) : (Op.equal t (.slice a l c) (.slice none l' c')).run P w = .ok a.isNone w := by
  have hm : Op.maxDepth = 9999 + 1 := rfl
  rw [Op.equal, hm, Op.equalIn, Sem.run_bind, run_und h]
  cases a <;> rfl
theorem dBin_run (hE : EnvOk P E) {op : BinOp} {t : TypeId} {X Y : Operand} {x y : Value} {K : Value → Prop} (h : dBin E op t x y K) :
    ∃ v, K v ∧ ∀ w, (do eqGuard op t X Y x y; binOp op t x y : Sem Value).run P w = .ok v w := by
  unfold dBin at h
  split at h
  · rename_i k a k' b
    have hg : eqGuard op t X Y (.int k a) (.int k' b) = pure () := eqGuard_at_int ..
    split at h
    · exact ⟨_, h.2.out, fun w => by
        rw [hg]
        have : ¬ b < 0 := by omega
        simp [binOp, Op.shift, shlI, this]⟩
    · exact ⟨_, h.2.out, fun w => by
        rw [hg]
        have : ¬ b < 0 := by omega
        simp [binOp, Op.shift, shrI, this]⟩
    · rename_i h1 h2
      cases e : kEq k k' with
      | false => simp [e] at h
      | true =>
        simp only [e, cond_true] at h
        obtain rfl := kEq_eq e
        obtain ⟨v, hv, hr⟩ := dIntOp_run (P := P) (t := t) h h1 h2
        exact ⟨v, hv, fun w => by rw [hg]; simp [hr w]⟩
  · rename_i a b
    have hg : eqGuard op t X Y (.string a) (.string b) = pure () := eqGuard_at_string ..
    split at h
    · refine ⟨_, h.2, fun w => ?_⟩
      rw [hg]
      have h1 : ¬ ((a.size + b.size : Nat) : Int) > IntKind.i64.max := by rw [IntKind.max_i64]; omega
      simp only [binOp, Op.stringOp, pure_bind]
      rw [if_neg h1]
      rfl
    · exact ⟨_, h, fun w => by rw [hg]; simp [binOp, Op.stringOp]⟩
    · exact ⟨_, h, fun w => by rw [hg]; simp [binOp, Op.stringOp]⟩
    · cases h
  · rename_i a b
    have hg : eqGuard op t X Y (.bool a) (.bool b) = pure () := eqGuard_at_bool ..
    split at h
    · rename_i ls by_ hl
      have hu := und_bool (hE.ty _ _ hl)
      split at h
      · exact ⟨_, h, fun w => by rw [hg]; simp [binOp, run_equalBool hu]⟩
      · exact ⟨_, h, fun w => by rw [hg]; simp [binOp, run_equalBool hu]⟩
      · cases h
    · cases h
  · rename_i a l c l' c'
    have hg : eqGuard op t X Y (.slice a l c) (.slice none l' c') = pure () := eqGuard_at_slice ..
    split at h
    · rename_i e ls by_ hl
      have hu := und_slice (hE.ty _ _ hl)
      split at h
      · exact ⟨_, h, fun w => by rw [hg]; simp [binOp, run_equalNil hu]⟩
      · exact ⟨_, h, fun w => by rw [hg]; simp [binOp, run_equalNil hu]⟩
      · cases h
    · cases h
  · cases h
theorem dUn_run {op : UnOp} {x : Value} {K : Value → Prop} (h : dUn op x K) : ∃ v, K v ∧ ∀ w, (Op.unary op x).run P w = .ok v w := by
  unfold dUn at h
  split at h
  · exact ⟨_, h.out, fun w => by simp [Op.unary, Op.intArith]⟩
  · rename_i k n
    refine ⟨_, h.out, fun w => ?_⟩
    have e : (if k.signed = true then (-1 : Int) else k.max) = bif k.signed then -1 else k.max := by cases k.signed <;> rfl
    simp only [Op.unary, e]
    rfl
  · exact ⟨_, h, fun w => by simp [Op.unary]⟩
  · cases h
theorem ldLs_elim {h : Hp} {q : Addr} : ∀ {ks : List Kd} {i : Nat} {K : List Value → Prop}, ldLs h q i ks K → ∃ vs, K vs ∧ RdL h q i vs ∧ vs.length = ks.length
  | [], i, K, hd => ⟨[], hd, trivial, rfl⟩
  | k :: ks, i, K, hd => by
    unfold ldLs ldK at hd
    split at hd
    · rename_i v hv
      obtain ⟨vs, h1, h2, h3⟩ := ldLs_elim (K := fun vs => K (v :: vs)) (asLeaf_elim hd).1
      exact ⟨v :: vs, h1, ⟨hv, h2⟩, by simp [h3]⟩
    · cases hd
theorem cellH_congr {h h' : Hp} {q : Addr} (e : h'[q.block]? = h[q.block]?) : cellH h' q = cellH h q := by unfold cellH; rw [e]
theorem add_block (q : Addr) (i : Nat) : (q.add i).block = q.block := by unfold Addr.add; split <;> rfl
theorem RdL_congr {h h' : Hp} {q : Addr} (e : h'[q.block]? = h[q.block]?) : ∀ {vs : List Value} {i : Nat}, RdL h q i vs → RdL h' q i vs
  | [], _, _ => trivial
  | v :: vs, i, hr => ⟨(cellH_congr (h := h) (h' := h') (q := q.add i) (by rw [add_block]; exact e)).trans hr.1, RdL_congr e hr.2⟩
theorem ldT_run (hE : EnvOk P E) {t : TypeId} {i : TyI} (hl : look E.types t = some i) {h : Hp} {q : Addr} {K : Value → Prop} (hd : ldT i h q K) :
    ∃ v, K v ∧ ∀ w : World, w.heap[q.block]? = h[q.block]? → (Instr.loadAt t (.pointer (some q))).run P w = .ok v w := by
  have ht := hE.ty _ _ hl
  obtain ⟨ty, ls, b⟩ := i
  unfold ldT at hd
  split at hd
  · rename_i fs e
    simp only at e hd
    subst e
    obtain ⟨vs, h1, h2, h3⟩ := ldLs_elim hd
    refine ⟨_, h1, fun w hw => ?_⟩
    obtain ⟨inf, hi, hs, _⟩ := info_of ht
    have hr := run_loads (P := P) vs q 0 #[] w (RdL_congr hw h2)
    simp only at hs
    simp only [Instr.loadAt, Instr.sureAddr, pure_bind, loadVar, Sem.run_bind, run_isAgg_yes ht, Result.andThen, if_true, run_size hi, loadCells, hs, ← h3, hr]
    simp
  · cases hd
  · rename_i h1 h2
    simp only at hd h1 h2
    split at hd
    · rename_i k
      unfold ldK at hd
      split at hd
      · rename_i v hv
        refine ⟨v, (asLeaf_elim hd).1, fun w hw => ?_⟩
        have hs : (TyI.mk ty [k] b).ty.isStruct = false := by
          cases ty <;> first | rfl | exact absurd rfl (h1 _)
        have hc : w.cell? q = some v := by rw [cell?_eq, cellH_congr hw]; exact hv
        simp [Instr.loadAt, Instr.sureAddr, loadVar, run_isAgg_no ht hs, hc]
      · cases hd
    · cases hd
theorem idxK_run {t e : TypeId} {inf : TypeInfo} (hu : P.underlying t = some (.slice e)) (hi : P.info? e = some inf) {a : Option Addr} {l c : Nat} {k : IntKind} {n : Int} {K : Addr → Prop}
    (hd : idxK a l n inf.size K) : ∃ q, K q ∧ ∀ w, (Instr.indexAt t (.slice a l c) (.int k n)).run P w = .ok (.pointer (some q)) w := by
  obtain ⟨⟨h0, h1⟩, hd⟩ := hd
  split at hd
  · rename_i p
    refine ⟨_, hd, fun w => ?_⟩
    simp only [Instr.indexAt, asIntOf, pure_bind, Sem.run_bind, run_und hu, Result.andThen]
    simp [h0, h1, run_size hi]
  · cases hd
theorem idxK_run_arr {t e : TypeId} {inf : TypeInfo} {m : Nat} (hu : P.underlying t = some (.array m e)) (hi : P.info? e = some inf) {p : Addr} {k : IntKind} {n : Int} {K : Addr → Prop}
    (hd : idxK (some p) m n inf.size K) : ∃ q, K q ∧ ∀ w, (Instr.indexAt t (.pointer (some p)) (.int k n)).run P w = .ok (.pointer (some q)) w := by
  obtain ⟨⟨h0, h1⟩, hd⟩ := hd
  refine ⟨_, hd, fun w => ?_⟩
  simp only [Instr.indexAt, asIntOf, pure_bind, Sem.run_bind, run_und hu, Result.andThen, Instr.sureAddr]
  simp [h0, h1, run_size hi, run_und hu]
theorem bnd_elim {P : Program} {v : Option Value} {dflt y : Nat} {K : Nat → Prop} (h : bnd v dflt y K) :
    ∃ m, K m ∧ (v = none → m = dflt) ∧ ∀ x, v = some x → ∀ code (w : World), (Instr.sliceBound x y code).run P w = .ok m w := by
  unfold bnd at h
  split at h
  · exact ⟨_, h, ⟨fun _ => rfl, fun x hx => (by cases hx)⟩⟩
  · rename_i k i
    refine ⟨i.toNat, h.2, ⟨fun hx => (by cases hx), fun x hx code w => ?_⟩⟩
    obtain rfl := Option.some.inj hx
    exact run_sliceBound w k i y code h.1.1 h.1.2
  · cases h
theorem slK_run {t e : TypeId} {inf : TypeInfo} (hu : P.underlying t = some (.slice e)) (hi : P.info? e = some inf) {a : Option Addr} {l c : Nat} {lo hi' mx : Option Value} {K : Value → Prop}
    (hd : slK inf.size a l c lo hi' mx fun a l c => K (.slice a l c)) : ∃ v, K v ∧ ∀ w, (Instr.sliceAt t (.slice a l c) lo hi' mx).run P w = .ok v w := by
  unfold slK at hd
  split at hd
  · cases hd
  · rename_i hne
    obtain ⟨m, hd, m0, mr⟩ := bnd_elim (P := P) hd
    obtain ⟨hh, hd, h0, hr⟩ := bnd_elim (P := P) hd
    obtain ⟨ll, hd, l0, lr⟩ := bnd_elim (P := P) hd
    refine ⟨_, hd, fun w => ?_⟩
    have hb : (Instr.sliceBounds true l c lo hi' mx).run P w = .ok (ll, hh, m) w := by
      unfold Instr.sliceBounds
      cases mx with
      | none =>
        obtain rfl := m0 rfl
        cases hi' with
        | none =>
          obtain rfl := h0 rfl
          cases lo with
          | none => obtain rfl := l0 rfl; rfl
          | some x => simp [lr x rfl]
        | some y =>
          cases lo with
          | none => obtain rfl := l0 rfl; simp [hr y rfl]
          | some x => simp [lr x rfl, hr y rfl]
      | some z =>
        cases hi' with
        | none => exact absurd rfl (hne z rfl)
        | some y =>
          cases lo with
          | none => obtain rfl := l0 rfl; simp [hr y rfl, mr z rfl]
          | some x => simp [lr x rfl, hr y rfl, mr z rfl]
    simp only [Instr.sliceAt, Sem.run_bind, run_und hu, Result.andThen, Instr.slice, hb, run_size hi, subA]
    rfl
theorem slS_run {t : TypeId} (hu : P.underlying t = some .string) {s : ByteArray} {lo hi' : Option Value} {K : Value → Prop}
    (hd : slS s lo hi' fun s => K (.string s)) : ∃ v, K v ∧ ∀ w, (Instr.sliceAt t (.string s) lo hi' none).run P w = .ok v w := by
  unfold slS at hd
  obtain ⟨hh, hd, h0, hr⟩ := bnd_elim (P := P) hd
  obtain ⟨ll, hd, l0, lr⟩ := bnd_elim (P := P) hd
  refine ⟨_, hd, fun w => ?_⟩
  have hb : (Instr.sliceBounds false s.size s.size lo hi' none).run P w = .ok (ll, hh, s.size) w := by
    unfold Instr.sliceBounds
    cases hi' with
    | none =>
      obtain rfl := h0 rfl
      cases lo with
      | none => obtain rfl := l0 rfl; rfl
      | some x => simp [lr x rfl]
    | some y =>
      cases lo with
      | none => obtain rfl := l0 rfl; simp [hr y rfl]
      | some x => simp [lr x rfl, hr y rfl]
  simp only [Instr.sliceAt, Sem.run_bind, run_und hu, Result.andThen, Instr.slice, Option.isSome_none, Bool.false_eq_true, if_false, hb]
  rfl
theorem fold_setL : ∀ (l : List Value) (off k : Nat) (cells : Array Value), off + k + l.length ≤ cells.size →
    (l.zipIdx k).foldl (fun cs p => cs.setIfInBounds (off + p.2) p.1) cells = (cells.toList.take (off + k) ++ (l ++ cells.toList.drop (off + k + l.length))).toArray
  | [], off, k, cells, h => by simp
  | v :: l, off, k, cells, h => by
    have hl : off + k < cells.size := by simp at h; omega
    have ih := fold_setL l off (k + 1) (cells.setIfInBounds (off + k) v) (by simp at h ⊢; omega)
    simp only [List.zipIdx_cons, List.foldl_cons, ih]
    congr 1
    have e1 : (cells.setIfInBounds (off + k) v).toList = cells.toList.set (off + k) v := by simp
    rw [e1]
    have e2 : off + (k + 1) = off + k + 1 := by omega
    have e3 : off + (k + 1) + l.length = off + k + (l.length + 1) := by omega
    have hlt : off + k < cells.toList.length := by simpa using hl
    rw [e3, e2, List.length_cons, List.take_succ_eq_append_getElem (by simpa using hl)]
    rw [List.getElem_set_self, List.take_set_of_le (Nat.le_refl _), List.drop_set_of_lt (by omega)]
    simp
theorem fill_of {placeM place : Nat → Option (Nat × Nat)} (hp : ∀ i, placeM i = place i) : ∀ (parts : List (Nat × Value)) (cells out : List Value), fillL place cells parts = some out →
    Instr.fill placeM cells.toArray parts = some out.toArray
  | [], cells, out, h => by simp only [fillL, Option.some.injEq] at h; subst h; rfl
  | (i, v) :: rest, cells, out, h => by
    unfold fillL at h
    unfold Instr.fill
    rw [hp i]
    split at h
    · cases h
    · rename_i off size e
      rw [e]
      simp only
      cases c1 : Nat.beq v.cells.toList.length size with
      | false => rw [c1] at h; cases h
      | true =>
        cases c2 : Nat.ble (off + v.cells.toList.length) cells.length with
        | false => rw [c1, c2] at h; cases h
        | true =>
          rw [c1, c2] at h
          simp only [Bool.and_self, cond_true] at h
          have d1 : v.cells.size = size := by simpa using Nat.eq_of_beq_eq_true c1
          have d2 : off + v.cells.size ≤ cells.length := by simpa using Nat.le_of_ble_eq_true c2
          have hf := fold_setL v.cells.toList off 0 cells.toArray (by simpa using d2)
          have ih := fill_of hp rest _ out h
          have e3 : (v.cells.zipIdx.foldl (fun cs (p : Value × Nat) => cs.setIfInBounds (off + p.2) p.1) cells.toArray) = (setL cells off v.cells.toList).toArray := by
            rw [← Array.foldl_toList, Array.toList_zipIdx, hf]
            simp [setL]
          have c3 : ¬ (v.cells.size ≠ size || off + v.cells.size > cells.toArray.size) = true := by simp; omega
          rw [if_neg c3]
          rw [← ih]
          congr 1
theorem run_mapM_places {fs' : List Field} (h : ∀ f ∈ fs', ∃ inf, P.info? f.type = some inf) (w : World) :
    (fs'.mapM fun (f : Field) => (do pure (f.offset, ← sizeOf f.type) : Sem (Nat × Nat))).run P w = .ok (fs'.map fun f => (f.offset, P.cellsOf f.type)) w := by
  induction fs' with
  | nil => rfl
  | cons f l ih =>
    obtain ⟨inf, hi⟩ := h f (by simp)
    have ih' := ih fun g hg => h g (by simp [hg])
    rw [List.mapM_cons]
    simp only [Sem.run_bind, run_size hi, Result.andThen, Sem.run_pure, ih', List.map_cons, Program.cellsOf, hi]
    rfl
theorem placesOk_mem : ∀ {fs : List (Nat × TypeId)}, placesOk E fs = true → ∀ p ∈ fs, ∃ i, look E.types p.2 = some i
  | [], _, p, hp => by cases hp
  | (off, t) :: l, h, p, hp => by
    unfold placesOk at h
    split at h
    · rename_i i hi
      rcases List.mem_cons.1 hp with rfl | hp
      · exact ⟨i, hi⟩
      · exact placesOk_mem h p hp
    · cases h
theorem cellsOf_eq {t : TypeId} {i : TyI} (h : tyB P t i = true) : P.cellsOf t = i.leaves.length := by
  obtain ⟨inf, hi, hs, _⟩ := info_of h
  simp [Program.cellsOf, hi, hs]
theorem dMax_run : ∀ {rest : List Value} {x : Value} {K : Value → Prop}, dMax x rest K → ∃ v, K v ∧ ∀ w, (rest.foldlM Builtin.max2 x : Sem Value).run P w = .ok v w
  | [], x, K, h => by unfold dMax at h; exact ⟨x, h, fun w => rfl⟩
  | y :: rest, x, K, h => by
    cases x with
    | int k a =>
      cases y with
      | int k' b =>
        unfold dMax at h
        obtain ⟨v, hv, hr⟩ := dMax_run h
        exact ⟨v, hv, fun w => by simp only [List.foldlM_cons, Builtin.max2, pure_bind]; exact hr w⟩
      | _ => simp [dMax] at h
    | _ => cases y <;> simp [dMax] at h
theorem dMin_run : ∀ {rest : List Value} {x : Value} {K : Value → Prop}, dMin x rest K → ∃ v, K v ∧ ∀ w, (rest.foldlM Builtin.min2 x : Sem Value).run P w = .ok v w
  | [], x, K, h => by unfold dMin at h; exact ⟨x, h, fun w => rfl⟩
  | y :: rest, x, K, h => by
    cases x with
    | int k a =>
      cases y with
      | int k' b =>
        unfold dMin at h
        obtain ⟨v, hv, hr⟩ := dMin_run h
        exact ⟨v, hv, fun w => by simp only [List.foldlM_cons, Builtin.min2, pure_bind]; exact hr w⟩
      | _ => simp [dMin] at h
    | _ => cases y <;> simp [dMin] at h
theorem run_sub64 (x y c : Int) (hx : 0 ≤ x) (hy : 0 ≤ y) (hc0 : 0 ≤ c) (hc : c ≤ 1) (hy' : y < 18446744073709551616) (w : World) :
    (sub64Entry #[.int .u64 x, .int .u64 y, .int .u64 c]).run P w =
      .ok (.tuple #[.int .u64 ((x - y - c) % 18446744073709551616), .int .u64 (if x < y + c then 1 else 0)]) w := by
  have key : ∀ k : Nat, k ≤ 1 → (sub64Entry #[.int .u64 x, .int .u64 y, .int .u64 (k : Int)]).run P w =
      .ok (Extern.MathBitsCarry.pair ((x.toNat + Extern.MathBitsCarry.m64 - y.toNat - k) % Extern.MathBitsCarry.m64) (if x.toNat < y.toNat + k then 1 else 0)) w := by
    intro k hk
    have : k = 0 ∨ k = 1 := by omega
    rcases this with rfl | rfl <;> rfl
  obtain ⟨k, rfl⟩ := Int.eq_ofNat_of_zero_le hc0
  rw [key k (by omega)]
  obtain ⟨X, rfl⟩ := Int.eq_ofNat_of_zero_le hx
  obtain ⟨Y, rfl⟩ := Int.eq_ofNat_of_zero_le hy
  simp only [Extern.MathBitsCarry.pair, Extern.MathBitsCarry.m64, Int.toNat_natCast]
  have e1 : Int.ofNat ((X + 2 ^ 64 - Y - k) % 2 ^ 64) = ((X : Int) - Y - k) % 18446744073709551616 := by
    simp; omega
  have e2 : Int.ofNat (if X < Y + k then 1 else 0) = if (X : Int) < Y + k then 1 else 0 := by
    by_cases hlt : X < Y + k
    · rw [if_pos hlt, if_pos (by omega)]; rfl
    · rw [if_neg hlt, if_neg (by omega)]; rfl
  rw [e1, e2]
theorem fn_facts (hE : EnvOk P E) {f : FuncId} {k : Fk} (hl : look E.fns f = some k) : ∃ fn, P.funcs[f]? = some fn ∧ (fn.name == "runtime.NumGoroutine") = false ∧ (k = .body ∨ k = .quiet → fn.body.isSome = true) ∧ (k = .add64 ∨ k = .sub64 → fn.body.isNone = true) := by
  have h := hE.fn _ _ hl
  unfold fnB at h
  split at h
  · rename_i fn hf
    refine ⟨fn, hf, ?_⟩
    cases k <;> simp only [Bool.and_eq_true, Bool.not_eq_true'] at h <;> simp [h]
  · cases h
/-- A call of the builtins and rows that leave the heap alone. -/
theorem dCall_run (hE : EnvOk P E) {c : Call} {fr : Fr} {t0 : TypeId} {K : Value → Prop} (h : dCall E c fr K) :
    ∃ v, K v ∧ ∀ w, (do let d ← resolve (ev fr) c t0; invoke d.target d.args : Sem Next).run P w = .ok (.value v) w := by
  obtain ⟨callee, ⟨args⟩, ⟨ats⟩⟩ := c
  unfold dCall at h
  simp only at h
  split at h
  · -- len
    split at h
    · rename_i x xs t ts
      unfold dLen at h
      split at h
      · rename_i e ls b a n cp hl hv
        have hu := und_slice (hE.ty _ _ hl)
        refine ⟨_, h, fun w => ?_⟩
        simp [resolve, invoke, builtin, Builtin.len_, hv, run_und hu, goInt]
      · rename_i ls b s hl hv
        have hu := und_str (hE.ty _ _ hl)
        refine ⟨_, h, fun w => ?_⟩
        simp [resolve, invoke, builtin, Builtin.len_, hv, run_und hu, goInt]
      · cases h
    · cases h
  · -- max
    split at h
    · rename_i x rest e
      obtain ⟨v, hv, hr⟩ := dMax_run (P := P) h
      refine ⟨v, hv, fun w => ?_⟩
      have e' : (List.map (ev fr) args) = x :: rest := e
      simp [resolve, invoke, builtin, Builtin.max_, e', hr]
    · cases h
  · -- min
    split at h
    · rename_i x rest e
      obtain ⟨v, hv, hr⟩ := dMin_run (P := P) h
      refine ⟨v, hv, fun w => ?_⟩
      have e' : (List.map (ev fr) args) = x :: rest := e
      simp [resolve, invoke, builtin, Builtin.min_, e', hr]
    · cases h
  · -- rows
    rename_i f
    split at h
    · rename_i hl
      split at h
      · rename_i x y z e
        obtain ⟨⟨h1, h2, h3, h4⟩, h⟩ := h
        refine ⟨_, h, fun w => ?_⟩
        obtain ⟨fn, hf, hn, _, hb⟩ := fn_facts hE hl
        obtain ⟨fn', hf', hx1, hx2⟩ := hE.ext _ _ hl
        obtain rfl : fn = fn' := by rw [hf] at hf'; exact Option.some.inj hf'
        have e' : (List.map (ev fr) args) = [.int .u64 x, .int .u64 y, .int .u64 z] := e
        have hc := run_callFunc_extern (P := P) hf hn (hb (by simp)) hx1 hx2 #[.int .u64 x, .int .u64 y, .int .u64 z] w
        rw [run_add64 x y z h1 h2 h3 h4] at hc
        simp only [resolve, Deferred.ofValue, ev, pure_bind, invoke]
        have e3 : (#[] ++ Array.map (ev fr) { toList := args } ++ #[] : Array Value) = #[.int .u64 x, .int .u64 y, .int .u64 z] := by simp [e']
        rw [e3, hc]
        rfl
      · cases h
    · rename_i hl
      split at h
      · rename_i x y z e
        obtain ⟨⟨h1, h2, h3, h4, h5⟩, h⟩ := h
        refine ⟨_, h, fun w => ?_⟩
        obtain ⟨fn, hf, hn, _, hb⟩ := fn_facts hE hl
        obtain ⟨fn', hf', hx1, hx2⟩ := hE.ext _ _ hl
        obtain rfl : fn = fn' := by rw [hf] at hf'; exact Option.some.inj hf'
        have e' : (List.map (ev fr) args) = [.int .u64 x, .int .u64 y, .int .u64 z] := e
        have hc := run_callFunc_extern (P := P) hf hn (hb (by simp)) hx1 hx2 #[.int .u64 x, .int .u64 y, .int .u64 z] w
        rw [run_sub64 x y z h1 h2 h3 h4 h5] at hc
        simp only [resolve, Deferred.ofValue, ev, pure_bind, invoke]
        have e3 : (#[] ++ Array.map (ev fr) { toList := args } ++ #[] : Array Value) = #[.int .u64 x, .int .u64 y, .int .u64 z] := by simp [e']
        rw [e3, hc]
        rfl
      · cases h
    · cases h
  · cases h
end still
end Go.Gv

/- Gv, part 3: operations, regions and code of the machine, by 'den'. -/
namespace Go.Gv
set_option linter.unusedVariables false
set_option linter.unusedSimpArgs false

/-! ### frames -/
structure RelA (n : Nat) (fr : Fr) (a : Act) : Prop where
  size : a.tmps.size = n
  defers : a.defers = []
  get : ∀ t, a.tmps.getD t undef = fr t
theorem RelA.ev {n : Nat} {fr : Fr} {a : Act} (h : RelA n fr a) : a.eval = ev fr := by
  funext x
  cases x with
  | tmp t => exact h.get t
  | _ => rfl
theorem RelA.put {n : Nat} {fr : Fr} {a : Act} (h : RelA n fr a) {o : Oper} (hd : dstB n o = true) (v : Value) : RelA n (updO fr o.dst v) (a.put o.dst v) := by
  unfold dstB at hd
  cases e : o.dst with
  | none => exact h
  | some d =>
    rw [e] at hd
    have hlt : d < n := by simpa [Nat.blt_eq] using hd
    refine ⟨by simp [Act.put, h.size], by simp [Act.put, h.defers], fun t => ?_⟩
    simp only [Act.put, updO, upd]
    rw [Array.getD_eq_getD_getElem?, Array.getElem?_setIfInBounds]
    cases c : Nat.beq t d with
    | true =>
      obtain rfl := Nat.eq_of_beq_eq_true c
      have : t < a.tmps.size := by rw [h.size]; exact hlt
      simp [this]
    | false =>
      have : d ≠ t := fun e => by subst e; simp at c
      rw [if_neg this, ← Array.getD_eq_getD_getElem?, h.get t]
      rfl

section
variable {P : Program} {E : Env}
theorem dStill_run (hE : EnvOk P E) {o : Oper} {fr : Fr} {h : Hp} {K : Value → Prop} (hd : dStill E o.op fr h K) :
    ∃ v, K v ∧ ∀ w : World, (∀ t a q, o.op = .load t a → ev fr a = .pointer (some q) → w.heap[q.block]? = h[q.block]?) → (execOp (ev fr) o).run P w = .ok (.value v) w := by
  obtain ⟨dst, op, type, pos, after, guard⟩ := o
  simp only at hd
  cases op with
  | move x => exact ⟨_, hd, fun w _ => rfl⟩
  | assign x => exact ⟨_, hd, fun w _ => rfl⟩
  | pick c a b =>
    simp only [dStill] at hd
    split at hd
    · rename_i t ht
      cases t with
      | true => exact ⟨_, hd, fun w _ => by simp [execOp, ht, Go.asBool]⟩
      | false => exact ⟨_, hd, fun w _ => by simp [execOp, ht, Go.asBool]⟩
    · cases hd
  | load t a =>
    simp only [dStill] at hd
    split at hd
    · rename_i q i ha hl
      obtain ⟨v, hv, hr⟩ := ldT_run hE hl hd
      exact ⟨v, hv, fun w hw => by simp [execOp, ha, hr w (hw _ _ _ rfl ha)]⟩
    · cases hd
  | binOp op t x y yt =>
    obtain ⟨v, hv, hr⟩ := dBin_run hE (X := x) (Y := y) hd
    exact ⟨v, hv, fun w _ => by
      have := hr w
      simp only [execOp, Sem.run_bind] at this ⊢
      rw [this]; rfl⟩
  | unOp op t x =>
    obtain ⟨v, hv, hr⟩ := dUn_run (P := P) hd
    exact ⟨v, hv, fun w _ => by simp [execOp, hr w]⟩
  | convert s d x =>
    simp only [dStill] at hd
    split at hd
    · rename_i k0 l0 b0 k ls b k' n h1 h2 h3
      have u1 := und_int (hE.ty _ _ h1)
      have u2 := und_int (hE.ty _ _ h2)
      exact ⟨_, hd.out, fun w _ => by simp [execOp, convert, run_und u1, run_und u2, h3, Conv.intToInt]⟩
    · cases hd
  | indexAddr t x i =>
    simp only [dStill] at hd
    split at hd
    · rename_i e ls b a l c k n h1 h2 h3
      split at hd
      · rename_i ie h4
        have u1 := und_slice (hE.ty _ _ h1)
        obtain ⟨inf, hi, hs, _⟩ := info_of (hE.ty _ _ h4)
        rw [← hs] at hd
        obtain ⟨q, hk, hr⟩ := idxK_run u1 hi (c := c) (k := k) hd
        exact ⟨_, hk, fun w _ => by simp [execOp, h2, h3, hr w]⟩
      · cases hd
    · rename_i q k n h2 h3
      split at hd
      · rename_i m e h5
        split at hd
        · rename_i ie h4
          have u1 := hE.arr _ _ h5
          obtain ⟨inf, hi, hs, _⟩ := info_of (hE.ty _ _ h4)
          rw [← hs] at hd
          obtain ⟨q', hk, hr⟩ := idxK_run_arr u1 hi (k := k) hd
          exact ⟨_, hk, fun w _ => by simp [execOp, h2, h3, hr w]⟩
        · cases hd
      · cases hd
    · cases hd
  | index t x i =>
    simp only [dStill] at hd
    split at hd
    · rename_i ls b s k n h1 h2 h3
      have u1 := und_str (hE.ty _ _ h1)
      obtain ⟨h0, hd⟩ := hd
      split at hd
      · rename_i c hc
        exact ⟨_, hd, fun w _ => by simp [execOp, h2, h3, Instr.index, asIntOf, run_und u1, h0, hc]⟩
      · cases hd
    · cases hd
  | extract x i =>
    simp only [dStill] at hd
    split at hd
    · rename_i vs hx
      split at hd
      · rename_i v hv
        have hv' : vs[i]? = some v := by simpa using hv
        exact ⟨v, hd, fun w _ => by simp [execOp, hx, Instr.extract, hv']⟩
      · cases hd
    · cases hd
  | fieldAddr s x f =>
    simp only [dStill] at hd
    split at hd
    · rename_i q fs ls b h1 h2
      split at hd
      · rename_i off t hf
        split at hd
        · rename_i i hi
          cases hz : Nat.beq i.leaves.length 0 with
          | true => simp [hz] at hd
          | false =>
            simp only [hz, cond_false] at hd
            obtain ⟨fs', u, e⟩ := und_struct (by rintro rfl; simp at hf) (hE.ty _ _ h2)
            subst e
            have hf' : ∃ fld, fs'[f]? = some fld ∧ fld.offset = off ∧ fld.type = t := by
              rw [List.getElem?_map] at hf
              cases hg : fs'.toList[f]? with
              | none => simp [hg] at hf
              | some fld => simp [hg] at hf; exact ⟨fld, by simpa using hg, hf.1, hf.2⟩
            obtain ⟨fld, hfl, rfl, rfl⟩ := hf'
            exact ⟨_, hd, fun w _ => by
              obtain ⟨inf, hi', hs, _⟩ := info_of (hE.ty _ _ hi)
              have hne : ¬ inf.size = 0 := by rw [hs]; intro e0; rw [e0] at hz; simp at hz
              simp [execOp, h1, Instr.fieldAt, run_und u, hfl, Instr.sureAddr, fieldPlace, run_size hi', hne]⟩
        · cases hd
      · cases hd
    · cases hd
  | field t x f =>
    simp only [dStill] at hd
    split at hd
    · rename_i cs fs ls b h1 h2
      split at hd
      · rename_i off t' hf
        obtain ⟨fs', u, e⟩ := und_struct (by rintro rfl; simp at hf) (hE.ty _ _ h2)
        subst e
        have hf' : ∃ fld, fs'[f]? = some fld ∧ fld.offset = off ∧ fld.type = t' := by
          rw [List.getElem?_map] at hf
          cases hg : fs'.toList[f]? with
          | none => simp [hg] at hf
          | some fld => simp [hg] at hf; exact ⟨fld, by simpa using hg, hf.1, hf.2⟩
        obtain ⟨fld, hfl, rfl, rfl⟩ := hf'
        split at hd
        · rename_i fs2 ls2 b2 hl
          have ht := hE.ty _ _ hl
          obtain ⟨inf, hi', hs, _⟩ := info_of ht
          refine ⟨_, hd, fun w _ => ?_⟩
          simp only at hs
          have e2 : cs.extract fld.offset (fld.offset + inf.size) = ((cs.toList.drop fld.offset).take ls2.length).toArray := by
            apply Array.ext'
            simp [hs]
          simp [execOp, h1, Instr.field, run_und u, hfl, gAgg, part, run_isAgg_yes ht, run_size hi', e2, Go.asAgg]
        · cases hd
        · rename_i i hn1 hn2 hl
          split at hd
          · rename_i v hv
            have hv' : cs[fld.offset]? = some v := by simpa using hv
            have hs : i.ty.isStruct = false := by
              obtain ⟨ty, ls2, b2⟩ := i
              cases ty <;> first | rfl | exact absurd rfl (hn1 _ _ _)
            refine ⟨v, hd, fun w _ => ?_⟩
            simp [execOp, h1, Instr.field, run_und u, hfl, part, run_isAgg_no (hE.ty _ _ hl) hs, hv', Go.asAgg]
          · cases hd
        · cases hd
      · cases hd
    · cases hd
  | build t parts =>
    simp only [dStill] at hd
    split at hd
    · rename_i fs ls b h1
      cases hp' : (!fs.isEmpty && placesOk E fs) with
      | false => simp [hp'] at hd
      | true =>
        simp only [hp', cond_true] at hd
        have hp : placesOk E fs = true := by simp only [Bool.and_eq_true] at hp'; exact hp'.2
        have hfn : fs ≠ [] := by rintro rfl; simp at hp'
        split at hd
        · rename_i cells hc
          refine ⟨_, hd, fun w _ => ?_⟩
          have ht := hE.ty _ _ h1
          obtain ⟨fs', u, e⟩ := und_struct hfn ht
          subst e
          obtain ⟨inf, hi, hs, hb, z, hz, hzc⟩ := zero_of ht rfl
          have hmem := placesOk_mem hp
          have hall : ∀ f ∈ fs'.toList, ∃ inf, P.info? f.type = some inf := by
            intro f hf
            obtain ⟨i, hi⟩ := hmem (f.offset, f.type) (List.mem_map.2 ⟨f, hf, rfl⟩)
            obtain ⟨inf, h1, _⟩ := info_of (hE.ty _ _ hi)
            exact ⟨inf, h1⟩
          have hm := run_mapM_places (P := P) hall w
          have hm' : (fs'.mapM fun (f : Field) => (do pure (f.offset, ← sizeOf f.type) : Sem (Nat × Nat))).run P w = .ok (fs'.toList.map fun f => (f.offset, P.cellsOf f.type)).toArray w := by
            rw [Array.mapM_eq_mapM_toList, Sem.run_map, hm]; rfl
          have hplace : ∀ j, ((fs'.toList.map fun f => (f.offset, P.cellsOf f.type)).toArray)[j]? = fieldPl E (fs'.toList.map fun f => (f.offset, f.type)) j := by
            intro j
            unfold fieldPl
            rw [List.getElem?_map]
            cases hg : fs'.toList[j]? with
            | none => simpa using hg
            | some f =>
              obtain ⟨i, hi⟩ := hmem (f.offset, f.type) (List.mem_map.2 ⟨f, List.mem_of_getElem? hg, rfl⟩)
              have : P.cellsOf f.type = i.leaves.length := cellsOf_eq (hE.ty _ _ hi)
              simp at hg
              simp [hg, hi, this]
          have hfill := fill_of hplace _ _ _ hc
          simp only [execOp, Sem.run_bind, Instr.build, run_zero hi hz, Result.andThen, run_und u, hm']
          have hz' : z.cells = (ls.map Kd.zero).toArray := by apply Array.ext'; simpa [TyI.zs] using hzc
          rw [hz']
          have hpp : (Array.map (fun (x : Nat × Operand) => match x with | (i, x) => (i, ev fr x)) parts).toList = parts.toList.map fun (i, x) => (i, ev fr x) := by simp
          rw [hpp, hfill]
          rfl
        · cases hd
    · cases hd
  | nilCheck x =>
    simp only [dStill] at hd
    split at hd
    · rename_i q hx
      exact ⟨_, hd, fun w _ => by simp [execOp, hx]⟩
    · cases hd
  | slice t x lo hi mx =>
    simp only [dStill] at hd
    split at hd
    · rename_i e ls b a l c h1 h2
      split at hd
      · rename_i ie h4
        have u1 := und_slice (hE.ty _ _ h1)
        obtain ⟨inf, hi', hs, _⟩ := info_of (hE.ty _ _ h4)
        rw [← hs] at hd
        obtain ⟨v, hv, hr⟩ := slK_run u1 hi' hd
        exact ⟨v, hv, fun w _ => by simp [execOp, h2, hr w]⟩
      · cases hd
    · rename_i ls b s h1 h2
      split at hd
      · have u1 := und_str (hE.ty _ _ h1)
        obtain ⟨v, hv, hr⟩ := slS_run u1 hd
        exact ⟨v, hv, fun w _ => by simp [execOp, h2, hr w]⟩
      · cases hd
    · cases hd
  | call c =>
    obtain ⟨v, hv, hr⟩ := dCall_run hE (t0 := type) hd
    exact ⟨v, hv, fun w _ => hr w⟩
  | _ => exact hd.elim
end
end Go.Gv

/- Gv, part 4: operations that write, calls, regions and code of the machine, by 'den'. -/
namespace Go.Gv
set_option linter.unusedVariables false
set_option linter.unusedSimpArgs false

/-! ### heaps that are written -/
theorem add_zero (q : Addr) : q.add 0 = q := by simp [Addr.add]
theorem cellH_setH_some {h : Hp} {a q : Addr} {v o : Value} (hq : cellH h q = some o) : ∃ o', cellH (setH h a v) q = some o' := by
  unfold cellH setH at *
  rw [Array.getElem?_modify]
  split at hq
  · rename_i c e f hc
    by_cases hb : a.block = q.block
    · rw [if_pos hb, hc]
      simp only [Option.map_some]
      by_cases hs : q.spot.isSome = true
      · simp [hs] at hq
      · simp only [hs] at hq ⊢
        have hlt : q.off < c.size := by
          rcases Nat.lt_or_ge q.off c.size with hl | hl
          · exact hl
          · simp [Array.getElem?_eq_none hl] at hq
        cases a.spot.isSome with
        | true => exact ⟨o, by simpa using hq⟩
        | false => simp only [Bool.false_eq_true, if_false]; rw [Array.getElem?_setIfInBounds]; split <;> simp_all
    · rw [if_neg hb, hc]; exact ⟨o, hq⟩
  · cases hq
theorem frozenH_setH (h : Hp) (a q : Addr) (v : Value) : frozenH (setH h a v) q = frozenH h q := by
  unfold frozenH setH
  rw [Array.getElem?_modify]
  by_cases hb : a.block = q.block
  · rw [if_pos hb]
    cases hc : h[q.block]? with
    | none => rfl
    | some ob => cases ob <;> rfl
  · rw [if_neg hb]
theorem StL_setH {h : Hp} {p a : Addr} {v : Value} : ∀ {n i : Nat}, StL h p i n → StL (setH h a v) p i n
  | 0, _, _ => trivial
  | n + 1, i, hs => by
    obtain ⟨⟨⟨o, ho⟩, hf⟩, hr⟩ := hs
    exact ⟨⟨cellH_setH_some ho, by rw [frozenH_setH]; exact hf⟩, StL_setH hr⟩

section
variable {P : Program} {E : Env}
theorem stLs_run {q : Addr} : ∀ {l : List Value} {i : Nat} {w : World} {K : Hp → Prop}, stLs w.heap q i l K → ∃ w', (storeCells q l i).run P w = .ok () w' ∧ Same w w' ∧ K w'.heap
  | [], i, w, K, h => ⟨w, rfl, Same.refl w, h⟩
  | v :: vs, i, w, K, h => by
    unfold stLs at h
    cases hp : plainV v with
    | false => simp [hp] at h
    | true =>
      simp only [hp, cond_true] at h
      obtain ⟨⟨h1, h2⟩, h3⟩ := h
      have hr := run_store1 (P := P) h1 h2 hp
      obtain ⟨w', r, s, k⟩ := stLs_run (w := w.setCell (q.add i) v) h3
      exact ⟨w', by simp only [storeCells, Sem.run_bind, hr, Result.andThen, r], Same.trans (b := w.setCell _ v) ⟨rfl, rfl, rfl⟩ s, k⟩
theorem run_stores {p : Addr} : ∀ {vs : List Value} {i : Nat} {w : World}, StL w.heap p i vs.length → (∀ v ∈ vs, plainV v = true) →
    ∃ w', (storeCells p vs i).run P w = .ok () w' ∧ Same w w' ∧ w'.heap = stH w.heap p i vs
  | [], i, w, _, _ => ⟨w, rfl, Same.refl w, rfl⟩
  | v :: vs, i, w, h, hp => by
    obtain ⟨⟨h1, h2⟩, h3⟩ := h
    have hr := run_store1 (P := P) h1 h2 (hp v (by simp))
    obtain ⟨w', r, s, k⟩ := run_stores (w := w.setCell (p.add i) v) (i := i + 1) (vs := vs) (StL_setH h3) (fun x hx => hp x (by simp [hx]))
    exact ⟨w', by simp only [storeCells, Sem.run_bind, hr, Result.andThen, r], Same.trans (b := w.setCell _ v) ⟨rfl, rfl, rfl⟩ s, k⟩
theorem zerosL_length (zs : List Value) : ∀ n, (zerosL zs n).length = n * zs.length
  | 0 => by simp [zerosL]
  | n + 1 => by simp [zerosL, zerosL_length zs n, Nat.succ_mul]; omega
theorem zerosL_get (zs : List Value) : ∀ n i, i < n * zs.length → (zerosL zs n)[i]? = zs[i % zs.length]?
  | 0, i, h => by simp at h
  | n + 1, i, h => by
    simp only [zerosL]
    by_cases hi : i < zs.length
    · rw [List.getElem?_append_left hi, Nat.mod_eq_of_lt hi]
    · have hi' : zs.length ≤ i := by omega
      rw [List.getElem?_append_right hi', zerosL_get zs n (i - zs.length) (by rw [Nat.succ_mul] at h; omega)]
      congr 1
      rw [Nat.mod_eq_sub_mod hi']
theorem zeros_arr (zs : List Value) (n m : Nat) (hm : m = n * zs.length) (z : Array Value) (hz : z = zs.toArray) : (Array.range m).map (fun i => z[i % z.size]!) = (zerosL zs n).toArray := by
  subst hz; subst hm
  apply Array.ext
  · simp [zerosL_length]
  · intro i h1 h2
    simp only [Array.size_map, Array.size_range] at h1
    simp only [Array.getElem_map, Array.getElem_range]
    have hp : 0 < zs.length := by
      rcases Nat.eq_zero_or_pos zs.length with h | h
      · rw [h] at h1; simp at h1
      · exact h
    have hlt : i % zs.length < zs.length := Nat.mod_lt _ hp
    have hg := zerosL_get zs n i h1
    rw [List.getElem?_eq_getElem hlt, List.getElem?_eq_getElem (by rw [zerosL_length]; exact h1)] at hg
    have hg' := Option.some.inj hg
    have hlt' : i % zs.toArray.size < zs.toArray.size := by simpa using hlt
    rw [getElem!_pos zs.toArray _ hlt']
    simp [hg']
theorem zeros_arr0 (zs : List Value) (n m : Nat) (hm : m = n * zs.length) (z : Array Value) (hz : m ≠ 0 → z = zs.toArray) : (Array.range m).map (fun i => z[i % z.size]!) = (zerosL zs n).toArray := by
  by_cases h0 : m = 0
  · subst h0
    have : (zerosL zs n).length = 0 := by rw [zerosL_length]; exact hm.symm
    rw [List.length_eq_zero_iff] at this
    rw [this]; simp
  · exact zeros_arr zs n m hm z (hz h0)
theorem zs_length (i : TyI) : i.zs.length = i.leaves.length := by simp [TyI.zs]
theorem SrcL_run {w : World} {sz : Nat} {x : Value} {n : Nat} {cs : List Value} (h : SrcL w.heap sz x n cs) : (Builtin.firstCells sz n x).run P w = .ok cs.toArray w := by
  obtain ⟨hl, _, h⟩ := h
  split at h
  · have hr := run_loads (P := P) cs _ 0 #[] w h
    simp only [Builtin.firstCells, loadCells, ← hl, hr]
    simp
  · subst h; rfl
  · subst h
    simp only [Builtin.firstCells, Sem.run_pure]
    congr 1
    apply Array.ext'
    simp
  · cases h
theorem SrcL_other {h h' : Hp} {sz : Nat} {x : Value} {n : Nat} {cs : List Value} (e : h = h') (hs : SrcL h sz x n cs) : SrcL h' sz x n cs := e ▸ hs
theorem lenV_run {x : Value} {n : Nat} (h : lenV x = some n) (w : World) : (Builtin.lenOf x).run P w = .ok n w := by
  unfold lenV at h
  split at h <;> simp_all [Builtin.lenOf]
theorem srcTy_und (hE : EnvOk P E) {t : TypeId} (h : srcTy E t = true) : (∃ e, P.underlying t = some (.slice e)) ∨ P.underlying t = some .string := by
  unfold srcTy at h
  split at h
  · rename_i hl; exact .inl ⟨_, und_slice (hE.ty _ _ hl)⟩
  · rename_i hl; exact .inr (und_str (hE.ty _ _ hl))
  · cases h
set_option maxHeartbeats 2000000 in
theorem apK_run (hE : EnvOk P E) {t t' e ty : TypeId} {i : TyI} {ls : List Kd} {b : Nat} (h1 : look E.types t = some ⟨.slice e, ls, b⟩) (h2 : look E.types e = some i) (h3 : srcTy E t' = true)
    (hn : i.ty.isTuple = false) {a : Option Addr} {l c : Nat} {x : Value} {w : World} {K : Value → Hp → Prop} (hd : apK w.heap e i a l c x fun a l c h' => K (.slice a l c) h') :
    ∃ v w', (Builtin.append_ #[t, t'] ty #[.slice a l c, x]).run P w = .ok v w' ∧ Same w w' ∧ K v w'.heap := by
  have u1 := und_slice (hE.ty _ _ h1)
  obtain ⟨inf, hi, hs, hb, z, hz, hzc⟩ := zero_of (hE.ty _ _ h2) hn
  have hz' : z.cells = i.zs.toArray := by apply Array.ext'; simpa using hzc
  have hu2 := srcTy_und hE h3
  obtain ⟨n, cs, hlen, hsrc, hin, hout⟩ := hd
  have hlen' := fun w2 => lenV_run (P := P) hlen w2
  by_cases hc : l + n ≤ c
  · have hin := hin hc
    have hsrc' : (Builtin.firstCells inf.size n x).run P w = .ok cs.toArray w := SrcL_run (by rw [hs]; exact hsrc)
    cases a with
    | none =>
      refine ⟨_, w, ?_, Same.refl w, hin⟩
      rcases hu2 with ⟨e2, u2⟩ | u2 <;>
        simp [Builtin.append_, run_und u1, run_und u2, run_size hi, hlen', hc, hsrc']
    | some p =>
      obtain ⟨hst, hk⟩ := hin
      obtain ⟨w', r, s, e'⟩ := run_stores (P := P) hst hsrc.2.1
      refine ⟨_, w', ?_, s, by rw [e']; exact hk⟩
      rw [← hs] at r
      rcases hu2 with ⟨e2, u2⟩ | u2 <;>
        simp [Builtin.append_, run_und u1, run_und u2, run_size hi, hlen', hc, hsrc', r]
  · obtain ⟨g1, g2, g3, old, hold, hk⟩ := hout hc
    have hsrc' : (Builtin.firstCells inf.size n x).run P w.drew = .ok cs.toArray w.drew := SrcL_run (by rw [hs]; exact hsrc)
    have hold' : (Builtin.firstCells inf.size l (.slice a l c)).run P w.drew = .ok old.toArray w.drew := SrcL_run (by rw [hs]; exact hold)
    have hb0 : inf.bytes ≠ 0 := by rw [hb]; omega
    have hg : ¬ 281474976710656 < Builtin.nextslicecap (l + n) c * inf.bytes := by rw [hb]; omega
    obtain ⟨nc, hncd⟩ : ∃ nc, nc = Question.cut (.appendCap (l + n) c e) (w.tape w.drawn (.appendCap (l + n) c e)) := ⟨_, rfl⟩
    have hnc : l + n ≤ nc := by rw [hncd]; simp only [Question.cut]; omega
    have hzz : Builtin.zeroCells z.cells (nc - (l + n)) = (zerosL i.zs (nc - (l + n))).toArray := by
      unfold Builtin.zeroCells
      exact zeros_arr i.zs _ _ (by rw [hz']; simp) _ hz'
    have hf : (Question.appendCap (l + n) c e).forced = false := rfl
    refine ⟨_, w.drew.alloc (.cells (old ++ (cs ++ zerosL i.zs (nc - (l + n)))).toArray e (0, 0)), ?_, ⟨rfl, rfl, rfl⟩, hk nc hnc⟩
    rcases hu2 with ⟨e2, u2⟩ | u2 <;>
      simp [Builtin.append_, run_und u1, run_und u2, run_size hi, hlen', hc, run_info hi, hb0, hg, hold', hsrc', run_zero hi hz, newRow, hzz, hf, ← hncd]
theorem cpK_run (hE : EnvOk P E) {t e ty : TypeId} {ats : List TypeId} {i : TyI} {ls : List Kd} {b : Nat} (h1 : look E.types t = some ⟨.slice e, ls, b⟩) (h2 : look E.types e = some i)
    {a : Option Addr} {l c : Nat} {x : Value} {w : World} {K : Value → Hp → Prop} (hd : cpK w.heap i.leaves.length a l x fun n h' => K (.int .i64 n) h') :
    ∃ v w', (Builtin.copy_ (t :: ats).toArray ty #[.slice a l c, x]).run P w = .ok v w' ∧ Same w w' ∧ K v w'.heap := by
  have u1 := und_slice (hE.ty _ _ h1)
  obtain ⟨inf, hi, hs, _⟩ := info_of (hE.ty _ _ h2)
  obtain ⟨n, cs, hlen, hsrc, hd⟩ := hd
  have hlen' := fun w2 => lenV_run (P := P) hlen w2
  have hsrc' : (Builtin.firstCells inf.size (Nat.min n l) x).run P w = .ok cs.toArray w := SrcL_run (by rw [hs]; exact hsrc)
  have hm : min n l = Nat.min n l := rfl
  cases a with
  | none =>
    refine ⟨_, w, ?_, Same.refl w, hd⟩
    simp [Builtin.copy_, run_und u1, run_size hi, hlen', hsrc', goInt, hm]
  | some p =>
    obtain ⟨hst, hk⟩ := hd
    obtain ⟨w', r, s, e'⟩ := run_stores (P := P) hst hsrc.2.1
    refine ⟨_, w', ?_, s, by rw [e']; exact hk⟩
    simp [Builtin.copy_, run_und u1, run_size hi, hlen', hsrc', goInt, r, hm]
theorem zs_plain (i : TyI) : ∀ v ∈ i.zs, plainV v = true := by
  intro v hv
  obtain ⟨k, _, rfl⟩ := List.mem_map.1 hv
  cases k <;> rfl
theorem zerosL_plain {zs : List Value} (h : ∀ v ∈ zs, plainV v = true) : ∀ n, ∀ v ∈ zerosL zs n, plainV v = true
  | 0, v, hv => by simp [zerosL] at hv
  | n + 1, v, hv => by
    simp only [zerosL, List.mem_append] at hv
    rcases hv with hv | hv
    · exact h v hv
    · exact zerosL_plain h n v hv
theorem clK_run (hE : EnvOk P E) {t e ty : TypeId} {i : TyI} {ls : List Kd} {b : Nat} (h1 : look E.types t = some ⟨.slice e, ls, b⟩) (h2 : look E.types e = some i) (hn : i.ty.isTuple = false)
    {a : Option Addr} {l c : Nat} {w : World} {K : Value → Hp → Prop} (hd : clK w.heap i a l fun h' => K (.tuple #[]) h') :
    ∃ v w', (Builtin.clear_ #[t] ty #[.slice a l c]).run P w = .ok v w' ∧ Same w w' ∧ K v w'.heap := by
  have u1 := und_slice (hE.ty _ _ h1)
  obtain ⟨inf, hi, hs, hb, z, hz, hzc⟩ := zero_of (hE.ty _ _ h2) hn
  have hz' : z.cells = i.zs.toArray := by apply Array.ext'; simpa using hzc
  cases a with
  | none => exact ⟨_, w, by simp [Builtin.clear_, run_und u1], Same.refl w, hd⟩
  | some p =>
    cases l with
    | zero => exact ⟨_, w, by simp [Builtin.clear_, run_und u1], Same.refl w, hd⟩
    | succ l =>
      obtain ⟨hst, hk⟩ := hd
      have hl : (zerosL i.zs (l + 1)).length = (l + 1) * i.leaves.length := by rw [zerosL_length, zs_length]
      obtain ⟨w', r, s, e'⟩ := run_stores (P := P) (vs := zerosL i.zs (l + 1)) (by rw [hl]; exact hst) (zerosL_plain (zs_plain i) _)
      have hzz : Builtin.zeroCells z.cells (l + 1) = (zerosL i.zs (l + 1)).toArray := by
        unfold Builtin.zeroCells
        exact zeros_arr i.zs _ _ (by rw [hz']; simp) _ hz'
      refine ⟨_, w', ?_, s, by rw [e']; exact hk⟩
      simp [Builtin.clear_, run_und u1, run_zero hi hz, hzz, r]
theorem mkK_run (hE : EnvOk P E) {t e : TypeId} {i : TyI} {ls : List Kd} {b : Nat} (h1 : look E.types t = some ⟨.slice e, ls, b⟩) (h2 : look E.types e = some i) (hn : i.ty.isTuple = false)
    {k k' : IntKind} {n m : Int} {w : World} {K : Value → Hp → Prop} (hd : mkK w.heap e i n m fun p h' => K (.slice (some p) n.toNat m.toNat) h') :
    ∃ v w', (Instr.makeSlice t (.int k n) (.int k' m)).run P w = .ok v w' ∧ Same w w' ∧ K v w'.heap := by
  have u1 := und_slice (hE.ty _ _ h1)
  obtain ⟨inf, hi, hs, hb, z, hz, hzc⟩ := zero_of (hE.ty _ _ h2) hn
  have hz' : z.cells = i.zs.toArray := by apply Array.ext'; simpa using hzc
  obtain ⟨⟨g0, g1, g2, g3⟩, hk⟩ := hd
  have hm : m ≤ 281474976710656 := by
    have : (1 : Int) * m ≤ (i.bytes : Int) * m := Int.mul_le_mul_of_nonneg_right (by omega) (by omega)
    omega
  have hbn : ¬ (i.bytes : Int) * n > 281474976710656 := by
    have : (i.bytes : Int) * n ≤ (i.bytes : Int) * m := Int.mul_le_mul_of_nonneg_left g1 (by omega)
    omega
  have wn : IntKind.i64.wrap n = n := by simp [IntKind.wrap, IntKind.bits, IntKind.signed]; omega
  have wm : IntKind.i64.wrap m = m := by simp [IntKind.wrap, IntKind.bits, IntKind.signed]; omega
  have hzz : ∀ y : Array Value, (m.toNat * inf.size ≠ 0 → y = z.cells) → (Array.range (m.toNat * inf.size)).map (fun j => y[j % y.size]!) = (zerosL i.zs m.toNat).toArray := by
    intro y hy
    exact zeros_arr0 i.zs _ _ (by rw [hs, zs_length]) _ fun h => by rw [hy h, hz']
  refine ⟨_, { w with heap := w.heap.push (.cells (zerosL i.zs m.toNat).toArray e (0, 0)) }, ?_, ⟨rfl, rfl, rfl⟩, hk⟩
  have c1 : ¬ m < 0 := by omega
  have c2 : ¬ (281474976710656 : Int) < (inf.bytes : Int) * m := by rw [hb]; omega
  have c3 : ¬ n < 0 := by omega
  have c4 : ¬ n > m := by omega
  have c4' : ¬ m < n := by omega
  by_cases h0 : m.toNat * inf.size = 0
  · have hzz' := hzz #[] (fun h => absurd h0 h)
    rw [h0] at hzz'
    have hzz2 : (zerosL i.zs m.toNat).toArray = #[] := by rw [← hzz']; simp
    simp only [Instr.makeSlice, Sem.run_bind, run_und u1, Result.andThen, Go.asInt, asIntOf, Sem.run_pure, run_info hi, wn, wm]
    simp [c1, c2, c3, c4, c4', run_size hi, h0, newRow, hzz2, Array.range_zero']
  · have hzz' := hzz z.cells (fun _ => rfl)
    simp only [Instr.makeSlice, Sem.run_bind, run_und u1, Result.andThen, Go.asInt, asIntOf, Sem.run_pure, run_info hi, wn, wm]
    simp [c1, c2, c3, c4, c4', run_size hi, h0, run_zero hi hz, newRow, hzz']
theorem nxK_run {w : World} {q : Addr} {t0 : TypeId} {K1 : Int → Int → Hp → Prop} {K0 : Prop} (hd : nxK w.heap q K1 K0) :
    (∃ i c w', (Instr.next (.pointer (some q)) true t0).run P w = .ok (.tuple #[.bool true, .int .i64 i, .int .i32 c]) w' ∧ Same w w' ∧ K1 i c w'.heap) ∨
    ((Instr.next (.pointer (some q)) true t0).run P w = .ok (.tuple #[.bool false]) w ∧ K0) := by
  obtain ⟨b, off, sp⟩ := q
  obtain ⟨h0, s, pos, hb, k1, k0⟩ := hd
  dsimp only at h0 hb k1
  subst h0
  by_cases hp : pos < s.size
  · refine .inl ⟨_, _, { w with heap := setIt w.heap b s (pos + (Utf8.decode s pos).2) }, ?_, ⟨rfl, rfl, rfl⟩, k1 hp⟩
    simp only [Instr.next, getObj, setObj, Sem.run_bind, Sem.run, hb, Result.andThen, hp, if_true]
    rfl
  · refine .inr ⟨?_, k0 hp⟩
    simp [Instr.next, getObj, Sem.run, hb, hp]
theorem b2s_run {w : World} {a : Option Addr} {l c : Nat} {K : ByteArray → Prop} (hd : b2s w.heap a l K) : ∃ s, (Conv.bytesToString (.slice a l c)).run P w = .ok (.string s) w ∧ K s := by
  cases a with
  | none => exact ⟨_, rfl, hd⟩
  | some p =>
    obtain ⟨bs, hl, hr, hk⟩ := hd
    refine ⟨_, ?_, hk⟩
    have h1 := run_loads (P := P) (bs.map fun b => Value.int .u8 b.toNat) p 0 #[] w hr
    rw [List.length_map, hl] at h1
    have h2 : ∀ (l : List UInt8) (s : ByteArray), List.foldl (fun (b : ByteArray) (a : UInt8) => b.push a) s l = ⟨s.data ++ l.toArray⟩ := by
      intro l
      induction l with
      | nil => intro s; simp
      | cons x l ih => intro s; rw [List.foldl_cons, ih]; simp [ByteArray.push]
    simp [Conv.bytesToString, loadCells, h1, h2]
def RunsTo (P : Program) (o : Oper) (a : Act) (w : World) (v : Value) : Prop := (execOp a.eval o).run P w = .ok (.value v) w
def QuietTo (P : Program) (o : Oper) (a : Act) (w : World) (v : Value) : Prop :=
  ∃ f args, (execOp a.eval o).run P w = .ok (.enter f args) w ∧ Calls P f args w (fun e w' => e = .returned v ∧ Same w w' ∧ w'.heap = w.heap)
def ActTo (P : Program) (o : Oper) (a : Act) (w : World) (N : Value → Hp → Prop) : Prop :=
  (∃ v w', (execOp a.eval o).run P w = .ok (.value v) w' ∧ Same w w' ∧ N v w'.heap) ∨
  (∃ w', (execOp a.eval o).run P w = .ok .skip w' ∧ Same w w' ∧ N undef w'.heap) ∨
  (∃ f args, (execOp a.eval o).run P w = .ok (.enter f args) w ∧ Calls P f args w (fun e w' => ∃ v, e = .returned v ∧ Same w w' ∧ N v w'.heap))
theorem ActTo.mono {o : Oper} {a : Act} {w : World} {N N' : Value → Hp → Prop} (hn : ∀ v h, N v h → N' v h) (h : ActTo P o a w N) : ActTo P o a w N' := by
  rcases h with ⟨v, w', r, s, k⟩ | ⟨w', r, s, k⟩ | ⟨f, args, r, c⟩
  · exact .inl ⟨v, w', r, s, hn _ _ k⟩
  · exact .inr (.inl ⟨w', r, s, hn _ _ k⟩)
  · exact .inr (.inr ⟨f, args, r, c.mono fun _ _ ⟨v, e, s, k⟩ => ⟨v, e, s, hn _ _ k⟩⟩)
theorem ActTo.some {o : Oper} {a : Act} {w : World} {N : Value → Hp → Prop} (h : ActTo P o a w N) : ∃ v h', N v h' := by
  rcases h with ⟨v, w', r, s, k⟩ | ⟨w', r, s, k⟩ | ⟨f, args, r, c⟩
  · exact ⟨v, _, k⟩
  · exact ⟨_, _, k⟩
  · obtain ⟨e, w', fr, ⟨v, _, _, k⟩, _⟩ := c []
    exact ⟨v, _, k⟩
theorem ActTo.wp {o : Oper} {a : Act} {w : World} {N : Value → Hp → Prop} (h : ActTo P o a w N) {next : Act → World → Prop} {Q : Exit → Act → World → Prop}
    (hn : ∀ v w', Same w w' → N v w'.heap → next (a.put o.dst v) w') : o.wp P a w next Q := by
  unfold Oper.wp
  rcases h with ⟨v, w', r, s, k⟩ | ⟨w', r, s, k⟩ | ⟨f, args, r, c⟩
  · rw [r]; exact hn v w' s k
  · rw [r]; exact hn _ w' s k
  · rw [r, Oper.upon_enter]
    refine c.mono ?_
    rintro e w' ⟨v, rfl, s, k⟩
    exact hn v w' s k
theorem dAct_to (hE : EnvOk P E) {o : Oper} {fr : Fr} {a : Act} (hev : a.eval = ev fr) {w : World} {K : Value → Hp → Prop} (hd : dAct P E o.op o.type fr w.heap K) : ActTo P o a w K := by
  have value : ∀ v w', (execOp (ev fr) o).run P w = .ok (.value v) w' → Same w w' → K v w'.heap → ActTo P o a w K := by
    intro v w' hr s k
    exact .inl ⟨v, w', by rw [hev]; exact hr, s, k⟩
  obtain ⟨dst, op, type, pos, after, guard⟩ := o
  simp only at hd
  cases op with
  | range t x =>
    simp only [dAct] at hd
    split at hd
    · rename_i ls b s hl hx
      have u1 := und_str (hE.ty _ _ hl)
      refine value _ { w with heap := w.heap.push (.stringIter s 0) } ?_ ⟨rfl, rfl, rfl⟩ hd
      simp [execOp, hx, Instr.range, run_und u1]
    · cases hd
  | next x b =>
    cases b with
    | false => exact hd.elim
    | true =>
      simp only [dAct, cond_true] at hd
      split at hd
      · rename_i q hx
        rcases nxK_run (P := P) (t0 := type) hd with ⟨i, c, w', r, s, k⟩ | ⟨r, k⟩
        · exact value _ w' (by simp [execOp, hx, r]) s k
        · exact value _ w (by simp [execOp, hx, r]) ⟨rfl, rfl, rfl⟩ k
      · cases hd
  | convert s d x =>
    simp only [dAct] at hd
    split at hd
    · rename_i e ls b ls' b' a0 l cp hl1 hl2 hx
      split at hd
      · rename_i ls3 b3 hl3
        have u1 := und_slice (hE.ty _ _ hl1)
        have u2 := und_str (hE.ty _ _ hl2)
        have u3 := und_int (hE.ty _ _ hl3)
        obtain ⟨s, r, k⟩ := b2s_run (P := P) (c := cp) hd
        refine value _ w ?_ ⟨rfl, rfl, rfl⟩ k
        simp [execOp, hx, convert, run_und u1, run_und u2, run_und u3, r]
      · cases hd
    · cases hd
  | store t x v =>
    simp only [dAct] at hd
    split at hd
    · rename_i q i hx hl
      obtain ⟨inf, hi, hs, _⟩ := info_of (hE.ty _ _ hl)
      have run : ∀ w', (storeCells q (ev fr v).cells.toList).run P w = .ok () w' → (ev fr v).cells.size = inf.size → Same w w' → K undef w'.heap → ActTo P ⟨dst, .store t x v, type, pos, after, guard⟩ a w K := by
        intro w' hr hsz s k
        refine .inr (.inl ⟨w', ?_, s, k⟩)
        rw [hev]
        simp [execOp, hx, Instr.storeAt, Instr.sureAddr, storeVar, run_size hi, hsz, hr]
      unfold dStore at hd
      split at hd
      · rename_i cs hv
        cases hb : Nat.beq cs.toList.length i.leaves.length with
        | false => rw [hb] at hd; cases hd
        | true =>
          rw [hb] at hd
          simp only [cond_true] at hd
          obtain ⟨w', r, s, k⟩ := stLs_run (P := P) hd
          have := Nat.eq_of_beq_eq_true hb
          exact run w' (by rw [hv]; exact r) (by rw [hv, hs, ← this]; simp [Value.cells]) s k
      · cases hd
      · rename_i v' hn1 hn2
        cases hb : Nat.beq 1 i.leaves.length with
        | false => rw [hb] at hd; cases hd
        | true =>
          rw [hb] at hd
          simp only [cond_true] at hd
          obtain ⟨⟨g1, g2⟩, g3⟩ := hd
          have hp : plainV (ev fr v) = true := by
            cases e : ev fr v <;> first | rfl | exact absurd e (hn1 _) | exact absurd e (hn2 _)
          have hc : (ev fr v).cells = #[ev fr v] := by
            cases e : ev fr v <;> first | rfl | exact absurd e (hn1 _) | exact absurd e (hn2 _)
          have hr := run_store1 (P := P) g1 g2 hp
          have := Nat.eq_of_beq_eq_true hb
          exact run (w.setCell q (ev fr v)) (by rw [hc]; simp [storeCells, add_zero, hr]) (by rw [hc, hs, ← this]; rfl) ⟨rfl, rfl, rfl⟩ g3
    · cases hd
  | box e v =>
    simp only [dAct, boxK] at hd
    refine value _ { w with heap := w.heap.push (.cells (ev fr v).cells e (0, 0)) } ?_ ⟨rfl, rfl, rfl⟩ hd
    simp [execOp, Instr.box, newVar, newRow]
  | alloc e =>
    simp only [dAct] at hd
    split at hd
    · cases hd
    · rename_i i hnt hl
      have hnt' : i.ty.isTuple = false := by
        obtain ⟨ty, ls, b⟩ := i
        cases ty <;> first | rfl | exact absurd rfl (hnt _ _ _)
      obtain ⟨inf, hi, hs, hb, z, hz, hzc⟩ := zero_of (hE.ty _ _ hl) hnt'
      have hz' : z.cells = i.zs.toArray := by apply Array.ext'; simpa using hzc
      refine value _ { w with heap := w.heap.push (.cells i.zs.toArray e (0, 0)) } ?_ ⟨rfl, rfl, rfl⟩ hd
      simp [execOp, Instr.alloc, newVar, newRow, run_zero hi hz, hz']
    · cases hd
  | makeSlice t l c =>
    simp only [dAct] at hd
    split at hd
    · rename_i e ls b kk n kk' m hl h2 h3
      split at hd
      · cases hd
      · rename_i i hnt hle
        have hnt' : i.ty.isTuple = false := by
          obtain ⟨ty, ls, b⟩ := i
          cases ty <;> first | rfl | exact absurd rfl (hnt _ _ _)
        obtain ⟨v, w', r, s, k⟩ := mkK_run (P := P) (k := kk) (k' := kk') hE hl hle hnt' hd
        refine value v w' ?_ s k
        simp [execOp, h2, h3, r]
      · cases hd
    · cases hd
  | buildSlice t n parts =>
    simp only [dAct] at hd
    split at hd
    · rename_i e ls b hl
      split at hd
      · cases hd
      · rename_i i hnt hle
        have hnt' : i.ty.isTuple = false := by
          obtain ⟨ty, ls, b⟩ := i
          cases ty <;> first | rfl | exact absurd rfl (hnt _ _ _)
        cases hbl : Nat.ble (n * i.leaves.length) 16777216 with
        | false => rw [hbl] at hd; cases hd
        | true =>
          rw [hbl] at hd
          simp only [cond_true] at hd
          split at hd
          · rename_i cells hc
            have u1 := und_slice (hE.ty _ _ hl)
            obtain ⟨inf, hi, hs, hb, z, hz, hzc⟩ := zero_of (hE.ty _ _ hle) hnt'
            have hz' : z.cells = i.zs.toArray := by apply Array.ext'; simpa using hzc
            have hle' := Nat.le_of_ble_eq_true hbl
            have hfill := fill_of (placeM := fun j => some (j * inf.size, inf.size)) (fun j => by rw [hs]) _ _ _ hc
            refine value _ { w with heap := w.heap.push (.cells cells.toArray e (0, 0)) } ?_ ⟨rfl, rfl, rfl⟩ hd
            have hlim : ¬ n * inf.size > 2 ^ 24 := by rw [hs]; omega
            have hpp : (Array.map (fun (x : Nat × Operand) => match x with | (i, x) => (i, ev fr x)) parts).toList = parts.toList.map fun (i, x) => (i, ev fr x) := by simp
            have hzz : ∀ y : Array Value, (n * inf.size ≠ 0 → y = z.cells) → (Array.range (n * inf.size)).map (fun j => y[j % y.size]!) = (zerosL i.zs n).toArray := by
              intro y hy
              exact zeros_arr0 i.zs _ _ (by rw [hs, zs_length]) _ fun h => by rw [hy h, hz']
            by_cases h0 : n * inf.size = 0
            · have hzz' := hzz #[] (fun h => absurd h0 h)
              have hl0 : ¬ (0 : Nat) > 2 ^ 24 := by decide
              rw [h0] at hzz'
              simp only [execOp, Sem.run_bind, Instr.buildSlice, run_und u1, Result.andThen, run_size hi, h0, if_neg hl0, if_true, Sem.run_pure, hzz', hpp, hfill]
              rfl
            · have hzz' := hzz z.cells (fun _ => rfl)
              simp only [execOp, Sem.run_bind, Instr.buildSlice, run_und u1, Result.andThen, run_size hi, if_neg hlim, h0, if_false, Sem.run_pure, run_zero hi hz]
              simp only [hzz', hpp, hfill]
              rfl
          · cases hd
      · cases hd
    · cases hd
  | call c =>
    obtain ⟨callee, ⟨args⟩, ⟨ats⟩⟩ := c
    simp only [dAct] at hd
    split at hd
    · -- append
      split at hd
      · rename_i s x t t'
        cases hsrc : srcTy E t' with
        | false => rw [hsrc] at hd; cases hd
        | true =>
          rw [hsrc] at hd
          simp only [cond_true] at hd
          split at hd
          · rename_i e ls b a0 l cp hl hs
            split at hd
            · cases hd
            · rename_i i hnt hle
              have hnt' : i.ty.isTuple = false := by
                obtain ⟨ty, ls, b⟩ := i
                cases ty <;> first | rfl | exact absurd rfl (hnt _ _ _)
              obtain ⟨v, w', r, s', k⟩ := apK_run (P := P) (ty := type) hE hl hle hsrc hnt' hd
              refine value v w' ?_ s' k
              simp [execOp, resolve, invoke, builtin, hs, r]
            · cases hd
          · cases hd
      · cases hd
    · -- copy
      split at hd
      · rename_i d x t ts
        split at hd
        · rename_i e ls b a0 l cp hl hs
          split at hd
          · cases hd
          · rename_i i hnt hle
            obtain ⟨v, w', r, s', k⟩ := cpK_run (P := P) (ty := type) (ats := ts) (c := cp) hE hl hle hd
            refine value v w' ?_ s' k
            simp [execOp, resolve, invoke, builtin, hs, r]
          · cases hd
        · cases hd
      · cases hd
    · -- clear
      split at hd
      · rename_i d t
        split at hd
        · rename_i e ls b a0 l cp hl hs
          split at hd
          · cases hd
          · rename_i i hnt hle
            have hnt' : i.ty.isTuple = false := by
              obtain ⟨ty, ls, b⟩ := i
              cases ty <;> first | rfl | exact absurd rfl (hnt _ _ _)
            obtain ⟨v, w', r, s', k⟩ := clK_run (P := P) (ty := type) (c := cp) hE hl hle hnt' hd
            refine value v w' ?_ s' k
            simp [execOp, resolve, invoke, builtin, hs, r]
          · cases hd
        · cases hd
      · cases hd
    · -- a Go function
      rename_i f
      split at hd
      · rename_i hl
        obtain ⟨fn, hf, hn1, hb, _⟩ := fn_facts hE hl
        have hb := hb (.inl rfl)
        have hrun : (execOp (ev fr) ⟨dst, .call ⟨.value (.func f), ⟨args⟩, ⟨ats⟩⟩, type, pos, after, guard⟩).run P w = .ok (.enter f (args.map (ev fr)).toArray) w := by
          have hname : ¬ fn.name = "runtime.NumGoroutine" := by simpa using hn1
          have hbody : ¬ fn.body = none := by intro e; rw [e] at hb; cases hb
          simp [execOp, resolve, Deferred.ofValue, ev, invoke, callFunc, hf, hname, hbody]
        refine .inr (.inr ⟨f, _, by rw [hev]; exact hrun, (hd w rfl).mono ?_⟩)
        rintro e w' ⟨v, rfl, s, k⟩
        exact ⟨v, rfl, s, asTy_elim k⟩
      · cases hd
    · cases hd
  | _ => exact hd.elim
end
end Go.Gv

/- Gv, part 5: regions whose order is open. -/
namespace Go.Gv
set_option linter.unusedVariables false
set_option linter.unusedSimpArgs false
section
variable {P : Program} {E : Env}

/-- One operation, by its kind. -/
def stp (P : Program) (E : Env) (md : Bool) (n0 : Nat) (ops : Array Oper) (o : Oper) (a : Act) (h : Hp) (N : Value → Hp → Prop) : Prop :=
  if Region.wanted o (yielded ops a.tmps) then
    match clOf E o.op with
    | .pure => ∃ v, (∀ w, RunsTo P o a w v) ∧ N v h
    | .load => ∃ v, (∀ w : World, cond md (Pre n0 h w.heap) (w.heap = h) → RunsTo P o a w v) ∧ N v h
    | .quiet => ∃ v, (∀ w : World, w.heap = h → QuietTo P o a w v) ∧ N v h
    | .call => ∀ w : World, w.heap = h → ActTo P o a w fun v h' => (md = true → Pre n0 h h') ∧ N v h'
    | .act => ∀ w : World, w.heap = h → ActTo P o a w N
  else N undef h
def aWorld (h : Hp) : World := { heap := h, tape := fun _ _ => 0, drawn := 0, os := default, output := #[] }
theorem stp_mono {md : Bool} {n0 : Nat} {ops : Array Oper} {o : Oper} {a : Act} {h : Hp} {N N' : Value → Hp → Prop} (hn : ∀ v h, N v h → N' v h) (hs : stp P E md n0 ops o a h N) : stp P E md n0 ops o a h N' := by
  unfold stp at *
  split
  · rename_i hw
    rw [if_pos hw] at hs
    cases hc : clOf E o.op with
    | pure => simp only [hc] at hs ⊢; obtain ⟨v, h1, h2⟩ := hs; exact ⟨v, h1, hn _ _ h2⟩
    | load => simp only [hc] at hs ⊢; obtain ⟨v, h1, h2⟩ := hs; exact ⟨v, h1, hn _ _ h2⟩
    | quiet => simp only [hc] at hs ⊢; obtain ⟨v, h1, h2⟩ := hs; exact ⟨v, h1, hn _ _ h2⟩
    | call => simp only [hc] at hs ⊢; exact fun w hw => (hs w hw).mono fun v h' k => ⟨k.1, hn _ _ k.2⟩
    | act => simp only [hc] at hs ⊢; exact fun w hw => (hs w hw).mono hn
  · rename_i hw; rw [if_neg hw] at hs; exact hn _ _ hs
theorem stp_some {md : Bool} {n0 : Nat} {ops : Array Oper} {o : Oper} {a : Act} {h : Hp} {N : Value → Hp → Prop} (hs : stp P E md n0 ops o a h N) : ∃ v h', N v h' := by
  unfold stp at hs
  split at hs
  · cases hc : clOf E o.op with
    | pure => simp only [hc] at hs; obtain ⟨v, h1, h2⟩ := hs; exact ⟨_, _, h2⟩
    | load => simp only [hc] at hs; obtain ⟨v, h1, h2⟩ := hs; exact ⟨_, _, h2⟩
    | quiet => simp only [hc] at hs; obtain ⟨v, h1, h2⟩ := hs; exact ⟨_, _, h2⟩
    | call => simp only [hc] at hs; obtain ⟨v, h', k⟩ := (hs (aWorld h) rfl).some; exact ⟨v, h', k.2⟩
    | act => simp only [hc] at hs; exact (hs (aWorld h) rfl).some
  · exact ⟨_, _, hs⟩
theorem RunsTo.inj {o : Oper} {a : Act} {w : World} {v v' : Value} (h : RunsTo P o a w v) (h' : RunsTo P o a w v') : v = v' := by
  unfold RunsTo at *
  rw [h] at h'
  cases h'
  rfl
theorem Pre.refl (n0 : Nat) (h : Hp) : Pre n0 h h := fun _ _ => rfl
theorem Pre.symm {n0 : Nat} {h h' : Hp} (p : Pre n0 h h') : Pre n0 h' h := fun b hb => (p b hb).symm
theorem Pre.trans {n0 : Nat} {a b c : Hp} (p : Pre n0 a b) (q : Pre n0 b c) : Pre n0 a c := fun i hi => (q i hi).trans (p i hi)
/-- What an operation of the first kind (or one that is passed by) yields hangs on nothing. -/
theorem stp_pure {md : Bool} {n0 : Nat} {ops : Array Oper} {o : Oper} {a : Act} (hc : clOf E o.op = .pure ∨ ¬ Region.wanted o (yielded ops a.tmps) = true) {h : Hp} {N : Value → Hp → Prop} (hs : stp P E md n0 ops o a h N) :
    ∃ v, ∀ h' N', stp P E md n0 ops o a h' N' ↔ N' v h' := by
  by_cases hw : Region.wanted o (yielded ops a.tmps) = true
  · rcases hc with hc | hc
    · simp only [stp, if_pos hw, hc] at hs
      obtain ⟨v, h1, _⟩ := hs
      refine ⟨v, fun h' N' => ?_⟩
      simp only [stp, if_pos hw, hc]
      constructor
      · rintro ⟨v', g1, g2⟩
        have := (h1 (aWorld h')).inj (g1 (aWorld h'))
        subst this
        exact g2
      · intro g; exact ⟨v, h1, g⟩
    · exact absurd hw hc
  · exact ⟨undef, fun h' N' => by simp only [stp, if_neg hw]⟩
/-- A load, in one heap. -/
theorem stp_read {md : Bool} {n0 : Nat} {ops : Array Oper} {o : Oper} {a : Act} (hc : clOf E o.op = .load ∨ clOf E o.op = .quiet ∨ clOf E o.op = .pure) {h : Hp} {N : Value → Hp → Prop} (hs : stp P E md n0 ops o a h N) :
    ∃ v, N v h ∧ ∀ N' : Value → Hp → Prop, N' v h → stp P E md n0 ops o a h N' := by
  by_cases hw : Region.wanted o (yielded ops a.tmps) = true
  · rcases hc with hc | hc | hc <;> simp only [stp, if_pos hw, hc] at hs ⊢ <;> obtain ⟨v, h1, h2⟩ := hs <;> exact ⟨v, h2, fun N' k => ⟨v, h1, k⟩⟩
  · simp only [stp, if_neg hw] at hs ⊢; exact ⟨undef, hs, fun N' k => k⟩
/-- A load of the second mode reads the same in every heap that kept what was there. -/
theorem stp_pre {n0 : Nat} {ops : Array Oper} {o : Oper} {a : Act} (hc : clOf E o.op = .load) {h : Hp} {N : Value → Hp → Prop} (hs : stp P E true n0 ops o a h N) :
    ∃ v, ∀ h' N', Pre n0 h h' → (stp P E true n0 ops o a h' N' ↔ N' v h') := by
  by_cases hw : Region.wanted o (yielded ops a.tmps) = true
  · simp only [stp, if_pos hw, hc, cond_true] at hs
    obtain ⟨v, h1, _⟩ := hs
    refine ⟨v, fun h' N' hp => ?_⟩
    simp only [stp, if_pos hw, hc, cond_true]
    constructor
    · rintro ⟨v', g1, g2⟩
      have := (h1 (aWorld h') hp).inj (g1 (aWorld h') (Pre.refl _ _))
      subst this
      exact g2
    · intro g; exact ⟨v, fun w hw => h1 w (hp.trans hw), g⟩
  · exact ⟨undef, fun h' N' _ => by simp only [stp, if_neg hw]⟩
theorem stp_grow {n0 : Nat} {ops : Array Oper} {o : Oper} {a : Act} (hc : clOf E o.op = .call) {h : Hp} {N : Value → Hp → Prop} (hs : stp P E true n0 ops o a h N) :
    stp P E true n0 ops o a h fun v h' => Pre n0 h h' ∧ N v h' := by
  by_cases hw : Region.wanted o (yielded ops a.tmps) = true
  · simp only [stp, if_pos hw, hc] at hs ⊢
    exact fun w hw => (hs w hw).mono fun v h' k => ⟨k.1, k.1 trivial, k.2⟩
  · simp only [stp, if_neg hw] at hs ⊢; exact ⟨Pre.refl _ _, hs⟩
/-- Two operations that don't hinder one another. -/
theorem stp_swap {md : Bool} {n0 : Nat} {ops : Array Oper} {i j : Oper} {a : Act} (hc : comB md (clOf E i.op) (clOf E j.op) = true) {h : Hp} {N : Value → Value → Hp → Prop}
    (hs : stp P E md n0 ops i a h fun v h' => stp P E md n0 ops j a h' fun u h'' => N v u h'') : stp P E md n0 ops j a h fun u h' => stp P E md n0 ops i a h' fun v h'' => N v u h'' := by
  have pi : clOf E i.op = .pure → stp P E md n0 ops j a h fun u h' => stp P E md n0 ops i a h' fun v h'' => N v u h'' := by
    intro hp
    obtain ⟨v, hv⟩ := stp_pure (.inl hp) hs
    have h1 := (hv _ _).1 hs
    exact stp_mono (fun u h' k => (hv h' _).2 k) h1
  have pj : clOf E j.op = .pure → stp P E md n0 ops j a h fun u h' => stp P E md n0 ops i a h' fun v h'' => N v u h'' := by
    intro hp
    obtain ⟨v0, h0, k0⟩ := stp_some hs
    obtain ⟨u, hu⟩ := stp_pure (.inl hp) k0
    exact (hu h _).2 (stp_mono (fun v h' k => (hu h' _).1 k) hs)
  have rr : (clOf E i.op = .load ∨ clOf E i.op = .quiet ∨ clOf E i.op = .pure) → (clOf E j.op = .load ∨ clOf E j.op = .quiet ∨ clOf E j.op = .pure) → stp P E md n0 ops j a h fun u h' => stp P E md n0 ops i a h' fun v h'' => N v u h'' := by
    intro h1 h2
    obtain ⟨v, hv, gv⟩ := stp_read h1 hs
    obtain ⟨u, hu, gu⟩ := stp_read h2 hv
    exact gu _ (gv _ hu)
  cases hi : clOf E i.op with
  | pure => exact pi hi
  | load =>
    cases hj : clOf E j.op with
    | pure => exact pj hj
    | load => exact rr (.inl hi) (.inl hj)
    | quiet => exact rr (.inl hi) (.inr (.inl hj))
    | call =>
      rw [hi, hj] at hc
      simp only [comB] at hc
      subst hc
      obtain ⟨v, hv⟩ := stp_pre hi hs
      have h1 := (hv h _ (Pre.refl _ _)).1 hs
      exact stp_mono (fun u h' k => (hv h' _ k.1).2 k.2) (stp_grow hj h1)
    | act => rw [hi, hj] at hc; simp [comB] at hc
  | quiet =>
    cases hj : clOf E j.op with
    | pure => exact pj hj
    | load => exact rr (.inr (.inl hi)) (.inl hj)
    | quiet => exact rr (.inr (.inl hi)) (.inr (.inl hj))
    | call => rw [hi, hj] at hc; simp [comB] at hc
    | act => rw [hi, hj] at hc; simp [comB] at hc
  | call =>
    cases hj : clOf E j.op with
    | pure => exact pj hj
    | load =>
      rw [hi, hj] at hc
      simp only [comB] at hc
      subst hc
      have hg := stp_grow hi hs
      obtain ⟨v0, h0, p0, k0⟩ := stp_some hg
      obtain ⟨u, hu⟩ := stp_pre hj k0
      refine (hu h _ p0.symm).2 (stp_mono (fun v h' k => ?_) hg)
      exact (hu h' _ (p0.symm.trans k.1)).1 k.2
    | quiet => rw [hi, hj] at hc; simp [comB] at hc
    | call => rw [hi, hj] at hc; simp [comB] at hc
    | act => rw [hi, hj] at hc; simp [comB] at hc
  | act =>
    cases hj : clOf E j.op with
    | pure => exact pj hj
    | load => rw [hi, hj] at hc; simp [comB] at hc
    | quiet => rw [hi, hj] at hc; simp [comB] at hc
    | call => rw [hi, hj] at hc; simp [comB] at hc
    | act => rw [hi, hj] at hc; simp [comB] at hc
/-- What another operation has put into its temporary makes no difference. -/
theorem stp_put {md : Bool} {n0 : Nat} {ops : Array Oper} {o : Oper} {a : Act} {d : Option Tmp} {u : Value} (hsel : ∀ cs b, o.op ≠ .select cs b) (hd : ∀ t, d = some t → t ∉ o.looksAt ops) {h : Hp} {N : Value → Hp → Prop} :
    stp P E md n0 ops o (a.put d u) h N = stp P E md n0 ops o a h N := by
  have e1 := execOp_put o hsel a d u hd
  have e2 := wanted_put o a d u hd
  unfold stp RunsTo QuietTo ActTo
  rw [e1, e2]

/-! ### a list of operations -/
def wk (P : Program) (E : Env) (md : Bool) (n0 : Nat) (ops : Array Oper) (K : Act → Hp → Prop) : List Nat → Act → Hp → Prop
  | [], a, h => K a h
  | i :: l, a, h => match ops[i]? with
    | some o => stp P E md n0 ops o a h fun v h' => wk P E md n0 ops K l (a.put o.dst v) h'
    | none => wk P E md n0 ops K l a h
theorem wk_swap {md : Bool} {n0 : Nat} {ops : Array Oper} {K : Act → Hp → Prop} {i j : Nat} {oi oj : Oper} (hi : ops[i]? = some oi) (hj : ops[j]? = some oj) (hap : oi.apart ops oj = true)
    (hsi : ∀ cs b, oi.op ≠ .select cs b) (hsj : ∀ cs b, oj.op ≠ .select cs b) (hc : comB md (clOf E oi.op) (clOf E oj.op) = true) {l : List Nat} {a : Act} {h : Hp}
    (hs : wk P E md n0 ops K (i :: j :: l) a h) : wk P E md n0 ops K (j :: i :: l) a h := by
  obtain ⟨h1, h2, h3⟩ := Oper.apart_spec hap
  simp only [wk, hi, hj] at hs ⊢
  have hs' : stp P E md n0 ops oi a h fun v h' => stp P E md n0 ops oj a h' fun u h'' => wk P E md n0 ops K l ((a.put oi.dst v).put oj.dst u) h'' :=
    stp_mono (fun v h' k => by rw [stp_put hsj h1] at k; exact k) hs
  have := stp_swap hc hs'
  refine stp_mono (fun u h' k => ?_) this
  rw [stp_put hsi h3]
  refine stp_mono (fun v h'' k' => ?_) k
  rw [Act.put_comm a v u h2] at k'
  exact k'
theorem stp_comm {md : Bool} {n0 : Nat} {ops : Array Oper} {oi oj : Oper} (hap : oi.apart ops oj = true)
    (hsi : ∀ cs b, oi.op ≠ .select cs b) (hsj : ∀ cs b, oj.op ≠ .select cs b) (hc : comB md (clOf E oi.op) (clOf E oj.op) = true) {N : Act → Hp → Prop} {a : Act} {h : Hp}
    (hs : stp P E md n0 ops oi a h fun v h' => stp P E md n0 ops oj (a.put oi.dst v) h' fun u h'' => N ((a.put oi.dst v).put oj.dst u) h'') :
    stp P E md n0 ops oj a h fun u h' => stp P E md n0 ops oi (a.put oj.dst u) h' fun v h'' => N ((a.put oj.dst u).put oi.dst v) h'' := by
  obtain ⟨h1, h2, h3⟩ := Oper.apart_spec hap
  have hs' : stp P E md n0 ops oi a h fun v h' => stp P E md n0 ops oj a h' fun u h'' => N ((a.put oi.dst v).put oj.dst u) h'' :=
    stp_mono (fun v h' k => by rw [stp_put hsj h1] at k; exact k) hs
  have := stp_swap hc hs'
  refine stp_mono (fun u h' k => ?_) this
  rw [stp_put hsi h3]
  refine stp_mono (fun v h'' k' => ?_) k
  rw [Act.put_comm a v u h2] at k'
  exact k'
/-! ### a region of open order -/
theorem mem_del {todo : List Nat} {i j : Nat} : j ∈ del todo i ↔ j ∈ todo ∧ j ≠ i := by
  unfold del
  rw [List.mem_filter]
  refine and_congr Iff.rfl ?_
  constructor
  · intro h e; subst e; simp at h
  · intro h
    cases hb : Nat.beq j i with
    | true => exact absurd (Nat.eq_of_beq_eq_true hb) h
    | false => rfl
theorem del_nodup {todo : List Nat} {i : Nat} (h : todo.Nodup) : (del todo i).Nodup := h.filter _
theorem del_comm (todo : List Nat) (i j : Nat) : del (del todo i) j = del (del todo j) i := by
  unfold del
  rw [List.filter_filter, List.filter_filter]
  apply List.filter_congr
  intro x _
  rw [Bool.and_comm]
theorem del_none : ∀ {todo : List Nat} {i : Nat}, i ∉ todo → del todo i = todo := by
  intro todo i h
  unfold del
  rw [List.filter_eq_self]
  intro x hx
  cases hb : Nat.beq x i with
  | true => obtain rfl := Nat.eq_of_beq_eq_true hb; exact absurd hx h
  | false => rfl
theorem del_split {l1 l2 : List Nat} {i : Nat} (h : (l1 ++ i :: l2).Nodup) : del (l1 ++ i :: l2) i = l1 ++ l2 := by
  have h1 : i ∉ l1 := fun hm => by
    have := List.nodup_append.1 h
    exact this.2.2 i hm i List.mem_cons_self rfl
  have h2 : i ∉ l2 := (List.nodup_cons.1 (List.nodup_append.1 h).2.1).1
  have e : del (l1 ++ i :: l2) i = del l1 i ++ del (i :: l2) i := by unfold del; rw [List.filter_append]
  have e2 : del (i :: l2) i = del l2 i := by unfold del; rw [List.filter_cons]; simp
  rw [e, e2, del_none h1, del_none h2]
theorem del_length {todo : List Nat} {i : Nat} (h : todo.Nodup) (hi : i ∈ todo) : (del todo i).length + 1 = todo.length := by
  obtain ⟨l1, l2, rfl⟩ := List.append_of_mem hi
  rw [del_split h]
  simp; omega
def anyS (P : Program) (E : Env) (md : Bool) (n0 : Nat) (ops : Array Oper) (bs : List Nat) (K : Act → Hp → Prop) : Nat → List Nat → Act → Hp → Prop
  | 0, _, a, h => K a h
  | n + 1, todo, a, h => ∀ i o, i ∈ todo → rdyB bs todo i = true → ops[i]? = some o → stp P E md n0 ops o a h fun v h' => anyS P E md n0 ops bs K n (del todo i) (a.put o.dst v) h'
theorem rdy_del {bs todo : List Nat} {i j : Nat} (h : rdyB bs todo i = true) : rdyB bs (del todo j) i = true := by
  unfold rdyB at *
  rw [List.all_eq_true] at *
  exact fun x hx => h x (mem_del.1 hx).1
theorem any_front {md : Bool} {n0 : Nat} {ops : Array Oper} {bs : List Nat} {K : Act → Hp → Prop} (hsel : ∀ (j : Nat) (o : Oper) cs b, ops[j]? = some o → o.op ≠ .select cs b) {i : Nat} {oi : Oper} (hoi : ops[i]? = some oi) : ∀ {n : Nat} {todo : List Nat}, todo.length = n + 1 → todo.Nodup → i ∈ todo → rdyB bs todo i = true →
    (∀ j ∈ todo, j ≠ i → (bs.getD j 0).testBit i = true ∨ ∃ oj, ops[j]? = some oj ∧ oi.apart ops oj = true ∧ comB md (clOf E oi.op) (clOf E oj.op) = true) → ∀ {a : Act} {h : Hp},
    (stp P E md n0 ops oi a h fun v h' => anyS P E md n0 ops bs K n (del todo i) (a.put oi.dst v) h') → anyS P E md n0 ops bs K (n + 1) todo a h := by
  intro n
  induction n with
  | zero =>
    intro todo hlen hnd hi hr hf a h hs j oj hj rj hoj
    have : j = i := by
      obtain ⟨x, rfl⟩ := List.length_eq_one_iff.1 hlen
      simp at hi hj
      rw [hi, hj]
    subst this
    rw [hoi] at hoj
    cases hoj
    exact hs
  | succ n ih =>
    intro todo hlen hnd hi hr hf a h hs j oj hj rj hoj
    by_cases hji : j = i
    · subst hji
      rw [hoi] at hoj
      cases hoj
      exact hs
    · have hnot : (bs.getD j 0).testBit i ≠ true := by
        unfold rdyB at rj
        rw [List.all_eq_true] at rj
        have := rj i hi
        intro e
        rw [e] at this
        cases this
      rcases hf j hj hji with hf1 | ⟨oj', e1, e2, e3⟩
      · exact absurd hf1 hnot
      · rw [hoj] at e1
        cases e1
        have h1 : stp P E md n0 ops oi a h fun v h' => stp P E md n0 ops oj (a.put oi.dst v) h' fun u h'' => (fun a h => anyS P E md n0 ops bs K n (del (del todo i) j) a h) ((a.put oi.dst v).put oj.dst u) h'' :=
          stp_mono (fun v h' k => k j oj (mem_del.2 ⟨hj, hji⟩) (rdy_del rj) hoj) hs
        have h2 := stp_comm e2 (fun cs b => hsel i oi cs b hoi) (fun cs b => hsel j oj cs b hoj) e3 h1
        refine stp_mono (fun u h' k => ?_) h2
        refine ih (todo := del todo j) ?_ (del_nodup hnd) (mem_del.2 ⟨hi, fun e => hji e.symm⟩) (rdy_del hr) (fun x hx hxi => hf x (mem_del.1 hx).1 hxi) ?_
        · have := del_length hnd hj; omega
        · rw [del_comm]; exact k
theorem wk_mono_head {md : Bool} {n0 : Nat} {ops : Array Oper} {K : Act → Hp → Prop} {i : Nat} {l l' : List Nat} (hl : ∀ a h, wk P E md n0 ops K l a h → wk P E md n0 ops K l' a h) {a : Act} {h : Hp}
    (hs : wk P E md n0 ops K (i :: l) a h) : wk P E md n0 ops K (i :: l') a h := by
  simp only [wk] at *
  split
  · rename_i o ho
    simp only [ho] at hs
    exact stp_mono (fun v h' k => hl _ _ k) hs
  · rename_i ho
    simp only [ho] at hs
    exact hl _ _ hs
/-- May j come ahead of i? -/
def free (E : Env) (md : Bool) (ops : Array Oper) (i j : Nat) : Prop :=
  ∃ oi oj, ops[i]? = some oi ∧ ops[j]? = some oj ∧ oi.apart ops oj = true ∧ (∀ cs b, oi.op ≠ .select cs b) ∧ (∀ cs b, oj.op ≠ .select cs b) ∧ comB md (clOf E oi.op) (clOf E oj.op) = true
theorem wk_front {md : Bool} {n0 : Nat} {ops : Array Oper} {K : Act → Hp → Prop} {j : Nat} {l2 : List Nat} : ∀ {l1 : List Nat}, (∀ i ∈ l1, free E md ops i j) → ∀ {a : Act} {h : Hp}, wk P E md n0 ops K (l1 ++ j :: l2) a h → wk P E md n0 ops K (j :: (l1 ++ l2)) a h
  | [], _, a, h, hs => hs
  | i :: l1, hf, a, h, hs => by
    have ih := fun {a h} => wk_front (n0 := n0) (K := K) (l2 := l2) (l1 := l1) (fun x hx => hf x (List.mem_cons_of_mem _ hx)) (a := a) (h := h)
    have h1 : wk P E md n0 ops K (i :: j :: (l1 ++ l2)) a h := wk_mono_head (fun a h => ih) hs
    obtain ⟨oi, oj, e1, e2, e3, e4, e5, e6⟩ := hf i List.mem_cons_self
    exact wk_swap e1 e2 e3 e4 e5 e6 h1
end
end Go.Gv

/- Gv, part 6: regions and code of the machine, by 'den'. -/
namespace Go.Gv
set_option linter.unusedVariables false
set_option linter.unusedSimpArgs false
section
variable {P : Program} {E : Env}
theorem dQuiet_to (hE : EnvOk P E) {o : Oper} {fr : Fr} {a : Act} (hev : a.eval = ev fr) (hc : clOf E o.op = .quiet) {h : Hp} {K : Value → Prop} (hd : dQuiet P E o.op o.type fr h K) :
    ∃ v, K v ∧ ∀ w : World, w.heap = h → QuietTo P o a w v := by
  obtain ⟨dst, op, type, pos, after, guard⟩ := o
  simp only at hd hc
  cases op with
  | call c =>
    obtain ⟨callee, ⟨args⟩, ats⟩ := c
    simp only [dQuiet] at hd
    split at hd
    · rename_i f
      obtain ⟨v, h1, h2⟩ := hd
      refine ⟨v, asTy_elim h2, fun w hw => ?_⟩
      have hl : look E.fns f = some .quiet := by
        simp only [clOf] at hc
        split at hc <;> first | assumption | cases hc
      obtain ⟨fn, hf, hn1, hb, _⟩ := fn_facts hE hl
      have hb := hb (.inr rfl)
      refine ⟨f, (args.map (ev fr)).toArray, ?_, (h1 w hw).mono ?_⟩
      · have hname : ¬ fn.name = "runtime.NumGoroutine" := by simpa using hn1
        have hbody : ¬ fn.body = none := by intro e; rw [e] at hb; cases hb
        rw [hev]
        simp [execOp, resolve, Deferred.ofValue, ev, invoke, callFunc, hf, hname, hbody]
      · rintro e w' ⟨v', rfl, s, rfl, k⟩
        exact ⟨rfl, s, by rw [k, hw]⟩
    · cases hd
  | _ => simp [dQuiet] at hd
theorem dOp_stp (hE : EnvOk P E) {md : Bool} {n0 : Nat} {ops : Array Oper} {o : Oper} {fr : Fr} {a : Act} (hev : a.eval = ev fr) {h : Hp} {N : Value → Hp → Prop} (hd : dOp P E md n0 o fr h N)
    (hw : Region.wanted o (yielded ops a.tmps) = true) : stp P E md n0 ops o a h N := by
  unfold dOp at hd
  unfold stp
  rw [if_pos hw]
  cases hc : clOf E o.op with
  | pure =>
    simp only [hc] at hd ⊢
    obtain ⟨v, hv, hr⟩ := dStill_run hE hd
    exact ⟨v, fun w => by unfold RunsTo; rw [hev]; exact hr w fun t x q e _ => by rw [e] at hc; simp [clOf] at hc, hv⟩
  | load =>
    simp only [hc] at hd ⊢
    cases md with
    | false =>
      simp only [cond_false] at hd ⊢
      obtain ⟨v, hv, hr⟩ := dStill_run hE hd
      exact ⟨v, fun w hw' => by unfold RunsTo; rw [hev]; exact hr w fun t x q e _ => by rw [hw'], hv⟩
    | true =>
      simp only [cond_true] at hd ⊢
      split at hd
      · rename_i t x e
        obtain ⟨hb, hd⟩ := hd
        obtain ⟨v, hv, hr⟩ := dStill_run hE hd
        refine ⟨v, fun w hp => ?_, hv⟩
        unfold RunsTo
        rw [hev]
        refine hr w fun t' x' q e' hq => ?_
        rw [e] at e'
        cases e'
        rw [hq] at hb
        exact hp _ hb
      · cases hd
  | quiet =>
    simp only [hc] at hd ⊢
    obtain ⟨v, hv, hr⟩ := dQuiet_to hE hev hc hd
    exact ⟨v, hr, hv⟩
  | call =>
    simp only [hc] at hd ⊢
    cases md with
    | false =>
      intro w hw'
      subst hw'
      simp only [cond_false] at hd
      exact (dAct_to hE hev hd).mono fun v h' k => ⟨fun e => (by cases e), k⟩
    | true =>
      intro w hw'
      subst hw'
      simp only [cond_true] at hd
      exact (dAct_to hE hev hd).mono fun v h' k => ⟨fun _ => k.1, k.2⟩
  | act =>
    simp only [hc] at hd ⊢
    intro w hw'
    subst hw'
    exact dAct_to hE hev hd
/-- The guard of an operation, as the machine asks it. -/
theorem guard_of {all : List Oper} {n : Nat} {fr : Fr} {a : Act} (hr : RelA n fr a) {o : Oper} {j t : Nat} {want b : Bool} (hg : o.guard = some (j, want)) (ht : gTmp all j = some t) (hb : fr t = .bool b) :
    Region.wanted o (yielded all.toArray a.tmps) = (b == want) := by
  have h1 : a.tmps[t]? = some (.bool b) := by
    have := hr.get t
    rw [hb, Array.getD_eq_getD_getElem?] at this
    cases hx : a.tmps[t]? with
    | none => rw [hx] at this; simp [undef] at this
    | some v => rw [hx] at this; simp at this; rw [this]
  have h2 : ((all.toArray[j]?).bind (·.dst)).bind (a.tmps[·]?) = some (.bool b) := by
    unfold gTmp at ht
    split at ht
    · rename_i oj hj
      simp [hj, ht, h1]
    · cases ht
  unfold Region.wanted yielded
  rw [hg]
  simp only [h2]
  cases b <;> cases want <;> rfl
theorem guard_none {all : List Oper} {n : Nat} {fr : Fr} {a : Act} (hr : RelA n fr a) {o : Oper} {j t : Nat} {want : Bool} {vs : Array Value} (hg : o.guard = some (j, want)) (ht : gTmp all j = some t) (hb : fr t = .tuple vs) :
    Region.wanted o (yielded all.toArray a.tmps) = false := by
  have h1 : a.tmps[t]? = none ∨ a.tmps[t]? = some (.tuple vs) := by
    have := hr.get t
    rw [hb, Array.getD_eq_getD_getElem?] at this
    cases hx : a.tmps[t]? with
    | none => exact .inl rfl
    | some v => rw [hx] at this; simp at this; rw [this]; exact .inr rfl
  have h2 : (all.toArray[j]?).bind (·.dst) = some t := by
    unfold gTmp at ht
    split at ht
    · rename_i oj hj
      simp [hj, ht]
    · cases ht
  unfold Region.wanted yielded
  rw [hg]
  simp only [h2, Option.bind_some]
  rcases h1 with h1 | h1 <;> rw [h1] <;> rfl
theorem dOps_wk (hE : EnvOk P E) {md : Bool} {n0 n : Nat} {all : List Oper} : ∀ {l : List Oper} {k : Nat} {fr : Fr} {a : Act} {h : Hp} {K : Fr → Hp → Prop}, (∀ j, l[j]? = all[k + j]?) → l.all (dstB n) = true → RelA n fr a →
    dOps P E md n0 all l fr h K → wk P E md n0 all.toArray (fun a' h' => ∃ fr', RelA n fr' a' ∧ K fr' h') (List.range' k l.length) a h
  | [], k, fr, a, h, K, _, _, hr, hd => ⟨fr, hr, hd⟩
  | o :: rest, k, fr, a, h, K, hl, hb, hr, hd => by
    simp only [List.all_cons, Bool.and_eq_true] at hb
    obtain ⟨hb1, hb2⟩ := hb
    have ho : all.toArray[k]? = some o := by have := hl 0; simp at this; simpa using this.symm
    have hl' : ∀ j, rest[j]? = all[k + 1 + j]? := fun j => by have := hl (j + 1); simpa [Nat.add_assoc, Nat.add_comm 1 j] using this
    simp only [List.length_cons, List.range'_succ, wk, ho]
    have next : ∀ fr0, RelA n fr0 a → ∀ v h', dOps P E md n0 all rest (updO fr0 o.dst v) h' K → wk P E md n0 all.toArray (fun a' h' => ∃ fr', RelA n fr' a' ∧ K fr' h') (List.range' (k + 1) rest.length) (a.put o.dst v) h' :=
      fun fr0 hr0 v h' hd0 => dOps_wk hE hl' hb2 (hr0.put hb1 v) hd0
    have run : ∀ fr0, RelA n fr0 a → Region.wanted o (yielded all.toArray a.tmps) = true → dOp P E md n0 o fr0 h (fun v h' => dOps P E md n0 all rest (updO fr0 o.dst v) h' K) →
        stp P E md n0 all.toArray o a h fun v h' => wk P E md n0 all.toArray (fun a' h' => ∃ fr', RelA n fr' a' ∧ K fr' h') (List.range' (k + 1) rest.length) (a.put o.dst v) h' :=
      fun fr0 hr0 hw hd0 => stp_mono (fun v h' k' => next fr0 hr0 v h' k') (dOp_stp hE hr0.ev hd0 hw)
    have skip : ∀ fr0, RelA n fr0 a → Region.wanted o (yielded all.toArray a.tmps) = false → dOps P E md n0 all rest (updO fr0 o.dst undef) h K →
        stp P E md n0 all.toArray o a h fun v h' => wk P E md n0 all.toArray (fun a' h' => ∃ fr', RelA n fr' a' ∧ K fr' h') (List.range' (k + 1) rest.length) (a.put o.dst v) h' := by
      intro fr0 hr0 hw hd0
      unfold stp
      rw [if_neg (by rw [hw]; decide)]
      exact next fr0 hr0 undef h hd0
    unfold dOps at hd
    split at hd
    · rename_i hg
      exact run fr hr (by simp [Region.wanted, hg]) hd
    · rename_i j want hg
      split at hd
      · cases hd
      · rename_i t ht
        split at hd
        · rename_i b hfb
          have hw := guard_of (all := all) hr hg ht hfb
          have hr' : RelA n (upd fr t (.bool b)) a := by rw [upd_self hfb]; exact hr
          cases b <;> cases want <;> simp only [cond_true, cond_false] at hd
          · exact run _ hr' (by rw [hw]; rfl) hd
          · exact skip _ hr' (by rw [hw]; rfl) hd
          · exact skip _ hr' (by rw [hw]; rfl) hd
          · exact run _ hr' (by rw [hw]; rfl) hd
        · rename_i vs hfb
          exact skip fr hr (guard_none (all := all) hr hg ht hfb) hd
        · cases hd
theorem dOne_stp (hE : EnvOk P E) {n0 n : Nat} {all : List Oper} {i : Nat} {o : Oper} (ho : all[i]? = some o) (hb1 : dstB n o = true) {fr : Fr} {a : Act} {h : Hp} {K : Fr → Hp → Prop} (hr : RelA n fr a)
    (hd : dOps P E true n0 all [o] fr h K) : stp P E true n0 all.toArray o a h fun v h' => ∃ fr', RelA n fr' (a.put o.dst v) ∧ K fr' h' := by
  have run : ∀ fr0, RelA n fr0 a → Region.wanted o (yielded all.toArray a.tmps) = true → dOp P E true n0 o fr0 h (fun v h' => dOps P E true n0 all [] (updO fr0 o.dst v) h' K) →
      stp P E true n0 all.toArray o a h fun v h' => ∃ fr', RelA n fr' (a.put o.dst v) ∧ K fr' h' :=
    fun fr0 hr0 hw hd0 => stp_mono (fun v h' k' => ⟨_, hr0.put hb1 v, k'⟩) (dOp_stp hE hr0.ev hd0 hw)
  have skip : ∀ fr0, RelA n fr0 a → Region.wanted o (yielded all.toArray a.tmps) = false → dOps P E true n0 all [] (updO fr0 o.dst undef) h K →
      stp P E true n0 all.toArray o a h fun v h' => ∃ fr', RelA n fr' (a.put o.dst v) ∧ K fr' h' := by
    intro fr0 hr0 hw hd0
    unfold stp
    rw [if_neg (by rw [hw]; decide)]
    exact ⟨_, hr0.put hb1 undef, hd0⟩
  unfold dOps at hd
  split at hd
  · rename_i hg
    exact run fr hr (by simp [Region.wanted, hg]) hd
  · rename_i j want hg
    split at hd
    · cases hd
    · rename_i t ht
      split at hd
      · rename_i b hfb
        have hw := guard_of (all := all) hr hg ht hfb
        have hr' : RelA n (upd fr t (.bool b)) a := by rw [upd_self hfb]; exact hr
        cases b <;> cases want <;> simp only [cond_true, cond_false] at hd
        · exact run _ hr' (by rw [hw]; rfl) hd
        · exact skip _ hr' (by rw [hw]; rfl) hd
        · exact skip _ hr' (by rw [hw]; rfl) hd
        · exact run _ hr' (by rw [hw]; rfl) hd
      · rename_i vs hfb
        exact skip fr hr (guard_none (all := all) hr hg ht hfb) hd
      · cases hd
theorem conjL_spec {f : Nat → Prop} : ∀ {l : List Nat}, conjL f l → ∀ i ∈ l, f i
  | [i], h, j, hj => by simp at hj; subst hj; exact h
  | i :: k :: l, h, j, hj => by
    rcases List.mem_cons.1 hj with rfl | hj
    · exact h.1
    · exact conjL_spec h.2 j hj
theorem noSel {ops : List Oper} (hsel : Region.noSelect ops.toArray = true) : ∀ (j : Nat) (o : Oper) cs b, ops.toArray[j]? = some o → o.op ≠ .select cs b := by
  intro j o cs b hj e
  have hj' : ops[j]? = some o := by simpa using hj
  have := List.mem_of_getElem? hj'
  simp only [Region.noSelect, Array.all_eq_true', List.mem_toArray] at hsel
  have := hsel o this
  rw [e] at this
  simp at this
theorem dTr_any (hE : EnvOk P E) {n0 n : Nat} {all : List Oper} (hb : all.all (dstB n) = true) (hsel : Region.noSelect all.toArray = true) {bs : List Nat} {K : Fr → Hp → Prop} : ∀ {m : Nat} {todo : List Nat} {fr : Fr} {a : Act} {h : Hp}, todo.length = m → todo.Nodup → RelA n fr a →
    dTr P E n0 all bs m todo fr h K → anyS P E true n0 all.toArray bs (fun a' h' => ∃ fr', RelA n fr' a' ∧ K fr' h') m todo a h := by
  intro m
  induction m with
  | zero => intro todo fr a h hl hn hr hd; exact ⟨fr, hr, hd⟩
  | succ m ih =>
    intro todo fr a h hl hn hr hd
    have at_ : ∀ i ∈ todo, ∀ o, all.toArray[i]? = some o → dAt P E n0 all i fr h (fun fr h => dTr P E n0 all bs m (del todo i) fr h K) →
        stp P E true n0 all.toArray o a h fun v h' => anyS P E true n0 all.toArray bs (fun a' h' => ∃ fr', RelA n fr' a' ∧ K fr' h') m (del todo i) (a.put o.dst v) h' := by
      intro i hi o ho hd
      have ho' : all[i]? = some o := by simpa using ho
      unfold dAt at hd
      rw [ho'] at hd
      refine stp_mono (fun v h' k => ?_) (dOne_stp hE ho' (List.all_eq_true.1 hb o (List.mem_of_getElem? ho')) hr hd)
      obtain ⟨fr', r, k⟩ := k
      refine ih ?_ (del_nodup hn) r k
      have := del_length hn hi; omega
    unfold dTr at hd
    split at hd
    · rename_i i hf
      have hi := List.mem_of_find?_eq_some hf
      have hp := List.find?_some hf
      unfold frontB at hp
      rw [Bool.and_eq_true] at hp
      obtain ⟨hp1, hp2⟩ := hp
      rw [List.all_eq_true] at hp2
      cases ho : all[i]? with
      | none => unfold dAt at hd; rw [ho] at hd; cases hd
      | some o =>
        have ho' : all.toArray[i]? = some o := by simpa using ho
        refine any_front (noSel hsel) ho' hl hn hi hp1 (fun j hj hji => ?_) (at_ i hi o ho' hd)
        have := hp2 j hj
        rw [Bool.or_eq_true, Bool.or_eq_true] at this
        rcases this with (h1 | h1) | h1
        · exact absurd (Nat.eq_of_beq_eq_true h1) hji
        · exact .inl h1
        · rw [ho] at h1
          cases hoj : all[j]? with
          | none => rw [hoj] at h1; cases h1
          | some oj =>
            rw [hoj] at h1
            simp only [Bool.and_eq_true] at h1
            exact .inr ⟨oj, by simpa using hoj, h1.1, h1.2⟩
    · rename_i hf
      intro i o hi ri ho
      exact at_ i hi o ho (conjL_spec hd i (List.mem_filter.2 ⟨hi, ri⟩))
/-! ### from the text's order to every order -/
theorem stp_wpOp {md : Bool} {n0 : Nat} {ops : Array Oper} {i : Nat} {o : Oper} (ho : ops[i]? = some o) {a : Act} {w : World} {N : Value → Hp → Prop} (hs : stp P E md n0 ops o a w.heap N)
    {K : Act → World → Prop} {Q : Exit → Act → World → Prop} (hn : ∀ v w', Same w w' → N v w'.heap → K (a.put o.dst v) w') : wpOp P ops Q i K a w := by
  unfold wpOp
  simp only [ho]
  unfold stp at hs
  by_cases hw : Region.wanted o (yielded ops a.tmps) = true
  · rw [if_pos hw] at hs ⊢
    refine .inl ?_
    have runs : ∀ v, RunsTo P o a w v → N v w.heap → o.wp P a w K Q := by
      intro v hr k
      unfold Oper.wp
      rw [hr]
      exact hn v w (Same.refl w) k
    cases hc : clOf E o.op with
    | pure => simp only [hc] at hs; obtain ⟨v, h1, h2⟩ := hs; exact runs v (h1 w) h2
    | load =>
      simp only [hc] at hs
      obtain ⟨v, h1, h2⟩ := hs
      refine runs v (h1 w ?_) h2
      cases md
      · exact rfl
      · exact Pre.refl _ _
    | quiet =>
      simp only [hc] at hs
      obtain ⟨v, h1, h2⟩ := hs
      obtain ⟨f, args, r, c⟩ := h1 w rfl
      unfold Oper.wp
      rw [r, Oper.upon_enter]
      refine c.mono ?_
      rintro e w' ⟨rfl, s, k⟩
      exact hn v w' s (by rw [k]; exact h2)
    | call => simp only [hc] at hs; exact (hs w rfl).wp fun v w' s k => hn v w' s k.2
    | act => simp only [hc] at hs; exact (hs w rfl).wp fun v w' s k => hn v w' s k
  · rw [if_neg hw] at hs ⊢
    exact hn undef w (Same.refl w) hs
def rem (n : Nat) (listed : Array Bool) : List Nat := (List.range n).filter fun i => !listed.getD i true
def Closed (ops : Array Oper) (listed : Array Bool) : Prop := ∀ i o, ops[i]? = some o → listed.getD i false = true → ∀ e ∈ o.after, Region.binds .any e = true → listed.getD e.on false = true
theorem mem_rem {n i : Nat} {listed : Array Bool} : i ∈ rem n listed ↔ i < n ∧ listed.getD i true = false := by simp [rem]
theorem testBit_or3 (a b c j : Nat) : (a ||| b ||| c).testBit j = (a.testBit j || b.testBit j || c.testBit j) := by simp [Nat.testBit_or]
theorem befOf_spec {acc : List Nat} {j : Nat} : ∀ {l : List Edge}, (befOf acc l).testBit j = true → ∃ e ∈ l, Region.binds .any e = true ∧ (e.on = j ∨ (acc.getD e.on 0).testBit j = true)
  | [], h => by simp [befOf] at h
  | e :: l, h => by
    unfold befOf at h
    cases hb : Region.binds .any e with
    | false =>
      rw [hb] at h
      obtain ⟨e', h1, h2⟩ := befOf_spec (l := l) h
      exact ⟨e', List.mem_cons_of_mem _ h1, h2⟩
    | true =>
      rw [hb] at h
      simp only [cond_true, Nat.testBit_or, Bool.or_eq_true] at h
      rcases h with (h | h) | h
      · refine ⟨e, List.mem_cons_self, hb, .inl ?_⟩
        rw [Nat.testBit_two_pow] at h
        simpa using h
      · exact ⟨e, List.mem_cons_self, hb, .inr h⟩
      · obtain ⟨e', h1, h2⟩ := befOf_spec (l := l) h
        exact ⟨e', List.mem_cons_of_mem _ h1, h2⟩
theorem befs_spec : ∀ (l : List Oper) (acc : List Nat), (∀ i, i < acc.length → (befs acc l)[i]? = acc[i]?) ∧ (∀ i o, l[i]? = some o → (befs acc l)[acc.length + i]? = some (befOf ((befs acc l).take (acc.length + i)) o.after.toList))
  | [], acc => ⟨fun i _ => rfl, fun i o h => by simp at h⟩
  | o :: l, acc => by
    obtain ⟨h1, h2⟩ := befs_spec l (acc ++ [befOf acc o.after.toList])
    simp only [List.length_append, List.length_cons, List.length_nil] at h1 h2
    have e : befs acc (o :: l) = befs (acc ++ [befOf acc o.after.toList]) l := rfl
    rw [e]
    refine ⟨fun i hi => ?_, fun i o' ho => ?_⟩
    · rw [h1 i (by omega), List.getElem?_append_left hi]
    · cases i with
      | zero =>
        simp at ho
        subst ho
        have ht : (befs (acc ++ [befOf acc o.after.toList]) l).take (acc.length + 0) = acc := by
          apply List.ext_getElem?
          intro j
          rw [List.getElem?_take]
          split
          · rename_i hj
            rw [h1 j (by omega), List.getElem?_append_left (by omega)]
          · rename_i hj
            rw [List.getElem?_eq_none (by omega)]
        rw [ht, h1 _ (by omega)]
        simp
      | succ i =>
        have := h2 i o' (by simpa using ho)
        rw [show acc.length + (i + 1) = acc.length + (0 + 1) + i by omega]
        exact this
/-- Whatever stands among those that an operation waits for has come up, where the operation may come up. -/
theorem befs_listed {ops : List Oper} {listed : Array Bool} (hcl : Closed ops.toArray listed) (he : edgesB ops = true) : ∀ (i : Nat) (o : Oper), ops[i]? = some o → (∀ e ∈ o.after, Region.binds .any e = true → listed.getD e.on false = true) →
    ∀ j, ((befs [] ops).getD i 0).testBit j = true → listed.getD j false = true := by
  intro i
  induction i using Nat.strongRecOn with
  | _ i ih =>
    intro o ho hl j hj
    have hs := (befs_spec ops []).2 i o ho
    simp only [List.length_nil, Nat.zero_add] at hs
    rw [List.getD_eq_getElem?_getD, hs] at hj
    simp only [Option.getD_some] at hj
    obtain ⟨e, h1, h2, h3⟩ := befOf_spec hj
    have h1' : e ∈ o.after := by simpa using h1
    have hon := hl e h1' h2
    rcases h3 with rfl | h3
    · exact hon
    · have hlt : e.on < i := by
        simp only [edgesB, List.all_eq_true, List.mem_range] at he
        have hi : i < ops.length := by
          rcases Nat.lt_or_ge i ops.length with h | h
          · exact h
          · rw [List.getElem?_eq_none h] at ho; cases ho
        have := he i hi
        rw [ho] at this
        simp only [List.all_eq_true] at this
        have := this e h1
        rw [h2] at this
        simpa [Nat.blt_eq] using this
      have hget : ((befs [] ops).take i).getD e.on 0 = (befs [] ops).getD e.on 0 := by
        rw [List.getD_eq_getElem?_getD, List.getD_eq_getElem?_getD, List.getElem?_take, if_pos hlt]
      rw [hget] at h3
      cases hoe : ops[e.on]? with
      | none =>
        have hlen : ops.length ≤ e.on := by simpa using hoe
        have hi : i < ops.length := by
          rcases Nat.lt_or_ge i ops.length with h | h
          · exact h
          · rw [List.getElem?_eq_none h] at ho; cases ho
        omega
      | some oe => exact ih e.on hlt oe hoe (hcl e.on oe (by simpa using hoe) hon) j h3
theorem rem_split {n i : Nat} {listed : Array Bool} (hs : listed.size = n) (hi : i ∈ rem n listed) :
    ∃ l1 l2, rem n listed = l1 ++ i :: l2 ∧ rem n (listed.setIfInBounds i true) = l1 ++ l2 ∧ (∀ j ∈ l1, j < i ∧ j < n ∧ listed.getD j true = false) := by
  have hin := (mem_rem.1 hi)
  have hr : List.range n = List.range i ++ i :: List.range' (i + 1) (n - i - 1) := by
    rw [List.range_eq_range', List.range_eq_range', show n = i + (1 + (n - i - 1)) by omega, ← List.range'_append_1, ← List.range'_append_1]
    simp
  refine ⟨(List.range i).filter fun j => !listed.getD j true, (List.range' (i + 1) (n - i - 1)).filter fun j => !listed.getD j true, ?_, ?_, ?_⟩
  · unfold rem
    rw [hr, List.filter_append, List.filter_cons, hin.2]
    simp
  · unfold rem
    rw [hr, List.filter_append, List.filter_cons]
    have h1 : (listed.setIfInBounds i true).getD i true = true := by
      rw [Array.getD_eq_getD_getElem?, Array.getElem?_setIfInBounds]
      simp
      split <;> rfl
    rw [h1]
    have h2 : ∀ j, j ≠ i → (listed.setIfInBounds i true).getD j true = listed.getD j true := by
      intro j hj
      rw [Array.getD_eq_getD_getElem?, Array.getElem?_setIfInBounds, if_neg (fun e => hj e.symm), ← Array.getD_eq_getD_getElem?]
    simp only [Bool.not_true, Bool.false_eq_true, if_false]
    congr 1
    · apply List.filter_congr
      intro j hj
      rw [h2 j (by simp at hj; omega)]
    · apply List.filter_congr
      intro j hj
      rw [h2 j (by simp [List.mem_range'_1] at hj; omega)]
  · intro j hj
    simp only [List.mem_filter, List.mem_range, Bool.not_eq_true'] at hj
    exact ⟨hj.1, by omega, hj.2⟩
theorem wk_any {md : Bool} {n0 : Nat} {ops : List Oper} (hok : comOk E md ops = true) {K : Act → Hp → Prop} {Q : Exit → Act → World → Prop} {w0 : World}
    (hq : ∀ a w, Same w0 w → K a w.heap → Q .normal a w) : ∀ (fuel : Nat) (listed : Array Bool) (a : Act) (w : World), listed.size = ops.length → Closed ops.toArray listed → (rem ops.length listed).length ≤ fuel → Same w0 w →
      wk P E md n0 ops.toArray K (rem ops.length listed) a w.heap → wpAny P .any ops.toArray Q fuel listed a w := by
  have hok' := hok
  simp only [comOk, Bool.and_eq_true, List.all_eq_true, List.mem_range] at hok'
  obtain ⟨⟨hsel, hedge⟩, hpair⟩ := hok'
  have hsel' : ∀ (j : Nat) (o : Oper) cs b, ops[j]? = some o → o.op ≠ .select cs b := by
    intro j o cs b hj e
    have := List.mem_of_getElem? hj
    simp only [Region.noSelect, Array.all_eq_true', List.mem_toArray] at hsel
    have := hsel o this
    rw [e] at this
    simp at this
  have ready_rem : ∀ listed : Array Bool, ∀ i ∈ Region.ready .any ops.toArray listed, i ∈ rem ops.length listed ∧ ∃ o, ops[i]? = some o ∧ ∀ e ∈ o.after, Region.binds .any e = true → listed.getD e.on false = true := by
    intro listed i hi
    simp only [Region.ready, List.size_toArray, List.mem_filter, List.mem_range, Bool.and_eq_true, Bool.not_eq_true'] at hi
    obtain ⟨h1, h2, h3⟩ := hi
    refine ⟨mem_rem.2 ⟨h1, h2⟩, ?_⟩
    have ho : ops.toArray[i]? = some ops[i] := by simp [h1]
    rw [ho] at h3
    simp only [Option.map_some, Option.getD_some, Array.all_eq_true', Bool.or_eq_true, Bool.not_eq_true'] at h3
    refine ⟨ops[i], by simp [h1], fun e he hb => ?_⟩
    rcases h3 e he with h | h
    · rw [h] at hb; cases hb
    · exact h
  have first_ready : ∀ listed : Array Bool, listed.size = ops.length → ∀ i l, rem ops.length listed = i :: l → i ∈ Region.ready .any ops.toArray listed := by
    intro listed hs i l hr
    have hi : i ∈ rem ops.length listed := by rw [hr]; exact List.mem_cons_self
    have hin := mem_rem.1 hi
    have hle : ∀ j, j < i → listed.getD j true = true := by
      intro j hj
      cases hjl : listed.getD j true with
      | true => rfl
      | false =>
        have hjr : j ∈ rem ops.length listed := mem_rem.2 ⟨by omega, hjl⟩
        have hsorted : (rem ops.length listed).Pairwise (· < ·) := List.Pairwise.sublist List.filter_sublist List.pairwise_lt_range
        rw [hr] at hsorted hjr
        rcases List.mem_cons.1 hjr with rfl | hjr
        · omega
        · have := (List.pairwise_cons.1 hsorted).1 j hjr
          omega
    simp only [Region.ready, List.size_toArray, List.mem_filter, List.mem_range, Bool.and_eq_true, Bool.not_eq_true']
    refine ⟨hin.1, hin.2, ?_⟩
    have ho : ops.toArray[i]? = some ops[i] := by simp [hin.1]
    rw [ho]
    simp only [Option.map_some, Option.getD_some, Array.all_eq_true', Bool.or_eq_true, Bool.not_eq_true']
    intro e he
    cases hb : Region.binds .any e with
    | false => exact .inl rfl
    | true =>
      refine .inr ?_
      simp only [edgesB, List.all_eq_true, List.mem_range] at hedge
      have := hedge i hin.1
      rw [show ops[i]? = some ops[i] by simp [hin.1]] at this
      simp only [List.all_eq_true] at this
      have := this e (by simpa using he)
      rw [hb] at this
      have hlt : e.on < i := by simpa [Nat.blt_eq] using this
      have h1 := hle e.on hlt
      rw [Array.getD_eq_getD_getElem?] at h1 ⊢
      have hsz : e.on < listed.size := by rw [hs]; omega
      rw [Array.getElem?_eq_getElem hsz] at h1 ⊢
      exact h1
  intro fuel
  induction fuel with
  | zero =>
    intro listed a w hs hcl hlen hsame hk
    have hnil : rem ops.length listed = [] := List.length_eq_zero_iff.1 (by omega)
    have hr : Region.ready .any ops.toArray listed = [] := by
      cases hx : Region.ready .any ops.toArray listed with
      | nil => rfl
      | cons i l =>
        have := (ready_rem listed i (by rw [hx]; exact List.mem_cons_self)).1
        rw [hnil] at this
        cases this
    rw [hnil] at hk
    exact ⟨hr, hq a w hsame hk⟩
  | succ fuel ih =>
    intro listed a w hs hcl hlen hsame hk
    refine ⟨fun hr => ?_, fun i hi => ?_⟩
    · cases hx : rem ops.length listed with
      | nil => rw [hx] at hk; exact hq a w hsame hk
      | cons i l =>
        have := first_ready listed hs i l hx
        rw [hr] at this
        cases this
    · obtain ⟨him, o, ho, hafter⟩ := ready_rem listed i hi
      obtain ⟨l1, l2, e1, e2, h1⟩ := rem_split hs him
      rw [e1] at hk
      have hi' := (mem_rem.1 him).1
      have hfree : ∀ j ∈ l1, free E md ops.toArray j i := by
        intro j hj
        obtain ⟨hji, hjn, hjl⟩ := h1 j hj
        have hp := hpair i hi' j hji
        have hoj : ops[j]? = some ops[j] := by simp [hjn]
        unfold pairB at hp
        rw [ho, hoj] at hp
        simp only [Bool.or_eq_true, Bool.and_eq_true] at hp
        have hnot : ((befs [] ops).getD i 0).testBit j ≠ true := by
          intro hb
          have := befs_listed hcl hedge i o ho hafter j hb
          have hsz : j < listed.size := by rw [hs]; exact hjn
          rw [Array.getD_eq_getD_getElem?, Array.getElem?_eq_getElem hsz] at this hjl
          simp at this hjl
          rw [this] at hjl
          cases hjl
        rcases hp with hp | ⟨hp1, hp2⟩
        · exact absurd hp hnot
        · exact ⟨ops[j], o, by simp [hjn], by simpa using ho, hp1, fun cs b => hsel' j _ cs b hoj, fun cs b => hsel' i _ cs b ho, hp2⟩
      have hfront := wk_front hfree hk
      have ho' : ops.toArray[i]? = some o := by simpa using ho
      simp only [wk, ho'] at hfront
      refine stp_wpOp ho' hfront fun v w' s k => ?_
      refine ih _ _ _ (by simp [hs]) ?_ ?_ (hsame.trans s) (by rw [e2]; exact k)
      · intro j oj hoj hlj e he hb
        by_cases hij : j = i
        · subst hij
          rw [ho'] at hoj
          cases hoj
          have := hafter e he hb
          rw [Array.getD_eq_getD_getElem?, Array.getElem?_setIfInBounds]
          rw [Array.getD_eq_getD_getElem?] at this
          split
          · rename_i hje
            split <;> simp_all
          · exact this
        · have hlj' : listed.getD j false = true := by
            rw [Array.getD_eq_getD_getElem?, Array.getElem?_setIfInBounds, if_neg (fun e => hij e.symm), ← Array.getD_eq_getD_getElem?] at hlj
            exact hlj
          have := hcl j oj hoj hlj' e he hb
          rw [Array.getD_eq_getD_getElem?, Array.getElem?_setIfInBounds]
          rw [Array.getD_eq_getD_getElem?] at this
          split
          · rename_i hje
            split
            · rfl
            · rename_i hlt; exact absurd (by rw [hs]; exact hi') hlt
          · exact this
      · rw [e2]; rw [e1] at hlen; simp at hlen ⊢; omega
theorem any_wp {md : Bool} {n0 : Nat} {ops : List Oper} (hedge : edgesB ops = true) {K : Act → Hp → Prop} {Q : Exit → Act → World → Prop} {w0 : World}
    (hq : ∀ a w, Same w0 w → K a w.heap → Q .normal a w) : ∀ (fuel : Nat) (listed : Array Bool) (a : Act) (w : World), listed.size = ops.length → Closed ops.toArray listed → (rem ops.length listed).length ≤ fuel → Same w0 w →
      anyS P E md n0 ops.toArray (befs [] ops) K (rem ops.length listed).length (rem ops.length listed) a w.heap → wpAny P .any ops.toArray Q fuel listed a w := by
  have hedge' := hedge
  have ready_rem : ∀ listed : Array Bool, ∀ i ∈ Region.ready .any ops.toArray listed, i ∈ rem ops.length listed ∧ ∃ o, ops[i]? = some o ∧ ∀ e ∈ o.after, Region.binds .any e = true → listed.getD e.on false = true := by
    intro listed i hi
    simp only [Region.ready, List.size_toArray, List.mem_filter, List.mem_range, Bool.and_eq_true, Bool.not_eq_true'] at hi
    obtain ⟨h1, h2, h3⟩ := hi
    refine ⟨mem_rem.2 ⟨h1, h2⟩, ?_⟩
    have ho : ops.toArray[i]? = some ops[i] := by simp [h1]
    rw [ho] at h3
    simp only [Option.map_some, Option.getD_some, Array.all_eq_true', Bool.or_eq_true, Bool.not_eq_true'] at h3
    refine ⟨ops[i], by simp [h1], fun e he hb => ?_⟩
    rcases h3 e he with h | h
    · rw [h] at hb; cases hb
    · exact h
  have first_ready : ∀ listed : Array Bool, listed.size = ops.length → ∀ i l, rem ops.length listed = i :: l → i ∈ Region.ready .any ops.toArray listed := by
    intro listed hs i l hr
    have hi : i ∈ rem ops.length listed := by rw [hr]; exact List.mem_cons_self
    have hin := mem_rem.1 hi
    have hle : ∀ j, j < i → listed.getD j true = true := by
      intro j hj
      cases hjl : listed.getD j true with
      | true => rfl
      | false =>
        have hjr : j ∈ rem ops.length listed := mem_rem.2 ⟨by omega, hjl⟩
        have hsorted : (rem ops.length listed).Pairwise (· < ·) := List.Pairwise.sublist List.filter_sublist List.pairwise_lt_range
        rw [hr] at hsorted hjr
        rcases List.mem_cons.1 hjr with rfl | hjr
        · omega
        · have := (List.pairwise_cons.1 hsorted).1 j hjr
          omega
    simp only [Region.ready, List.size_toArray, List.mem_filter, List.mem_range, Bool.and_eq_true, Bool.not_eq_true']
    refine ⟨hin.1, hin.2, ?_⟩
    have ho : ops.toArray[i]? = some ops[i] := by simp [hin.1]
    rw [ho]
    simp only [Option.map_some, Option.getD_some, Array.all_eq_true', Bool.or_eq_true, Bool.not_eq_true']
    intro e he
    cases hb : Region.binds .any e with
    | false => exact .inl rfl
    | true =>
      refine .inr ?_
      simp only [edgesB, List.all_eq_true, List.mem_range] at hedge
      have := hedge i hin.1
      rw [show ops[i]? = some ops[i] by simp [hin.1]] at this
      simp only [List.all_eq_true] at this
      have := this e (by simpa using he)
      rw [hb] at this
      have hlt : e.on < i := by simpa [Nat.blt_eq] using this
      have h1 := hle e.on hlt
      rw [Array.getD_eq_getD_getElem?] at h1 ⊢
      have hsz : e.on < listed.size := by rw [hs]; omega
      rw [Array.getElem?_eq_getElem hsz] at h1 ⊢
      exact h1
  have hnodup : ∀ listed : Array Bool, (rem ops.length listed).Nodup := fun listed => List.Nodup.sublist List.filter_sublist List.nodup_range
  intro fuel
  induction fuel with
  | zero =>
    intro listed a w hs hcl hlen hsame hk
    have hnil : rem ops.length listed = [] := List.length_eq_zero_iff.1 (by omega)
    have hr : Region.ready .any ops.toArray listed = [] := by
      cases hx : Region.ready .any ops.toArray listed with
      | nil => rfl
      | cons i l =>
        have := (ready_rem listed i (by rw [hx]; exact List.mem_cons_self)).1
        rw [hnil] at this
        cases this
    rw [hnil] at hk
    exact ⟨hr, hq a w hsame hk⟩
  | succ fuel ih =>
    intro listed a w hs hcl hlen hsame hk
    refine ⟨fun hr => ?_, fun i hi => ?_⟩
    · cases hx : rem ops.length listed with
      | nil => rw [hx] at hk; exact hq a w hsame hk
      | cons i l =>
        have := first_ready listed hs i l hx
        rw [hr] at this
        cases this
    · obtain ⟨him, o, ho, hafter⟩ := ready_rem listed i hi
      obtain ⟨l1, l2, e1, e2, h1⟩ := rem_split hs him
      have hi' := (mem_rem.1 him).1
      have hr : rdyB (befs [] ops) (rem ops.length listed) i = true := by
        unfold rdyB
        rw [List.all_eq_true]
        intro j hj
        have hjm := mem_rem.1 hj
        cases hb : ((befs [] ops).getD i 0).testBit j with
        | false => rfl
        | true =>
          have := befs_listed hcl hedge i o ho hafter j hb
          have hsz : j < listed.size := by rw [hs]; exact hjm.1
          have hjl := hjm.2
          rw [Array.getD_eq_getD_getElem?, Array.getElem?_eq_getElem hsz] at this hjl
          simp at this hjl
          rw [this] at hjl
          cases hjl
      have hdel : del (rem ops.length listed) i = rem ops.length (listed.setIfInBounds i true) := by
        have hnd := hnodup listed
        rw [e1] at hnd
        rw [e2, e1, del_split hnd]
      have hl1 : (rem ops.length listed).length = (rem ops.length (listed.setIfInBounds i true)).length + 1 := by rw [e1, e2]; simp; omega
      rw [hl1] at hk
      have ho' : ops.toArray[i]? = some o := by simpa using ho
      have hfront := hk i o him hr ho'
      refine stp_wpOp ho' hfront fun v w' s k => ?_
      refine ih _ _ _ (by simp [hs]) ?_ (by omega) (hsame.trans s) (by rw [← hdel]; rw [← hdel] at k; exact k)
      intro j oj hoj hlj e he hb
      by_cases hij : j = i
      · subst hij
        rw [ho'] at hoj
        cases hoj
        have := hafter e he hb
        rw [Array.getD_eq_getD_getElem?, Array.getElem?_setIfInBounds]
        rw [Array.getD_eq_getD_getElem?] at this
        split
        · rename_i hje
          split <;> simp_all
        · exact this
      · have hlj' : listed.getD j false = true := by
          rw [Array.getD_eq_getD_getElem?, Array.getElem?_setIfInBounds, if_neg (fun e => hij e.symm), ← Array.getD_eq_getD_getElem?] at hlj
          exact hlj
        have := hcl j oj hoj hlj' e he hb
        rw [Array.getD_eq_getD_getElem?, Array.getElem?_setIfInBounds]
        rw [Array.getD_eq_getD_getElem?] at this
        split
        · rename_i hje
          split
          · rfl
          · rename_i hlt; exact absurd (by rw [hs]; exact hi') hlt
        · exact this
/-! ### regions, code, functions -/
theorem region_wp (hE : EnvOk P E) {id n : Nat} {ops : Array Oper} {draw : Bool} (hc : regB E n ops draw = true) {fr : Fr} {a : Act} {w : World} (hr : RelA n fr a) {K : Fr → Hp → Prop}
    (hd : bif openB E draw ops.toList then dTr P E w.heap.size ops.toList (befs [] ops.toList) ops.toList.length (List.range ops.toList.length) fr w.heap K
      else dOps P E (modeB E draw ops.toList) w.heap.size ops.toList ops.toList fr w.heap K) {Q : Exit → Act → World → Prop} (hq : ∀ fr' a' w', RelA n fr' a' → Same w w' → K fr' w'.heap → Q .normal a' w') :
    (Code.region id ops draw).wp P Q a w := by
  obtain ⟨l⟩ := ops
  simp only [regB, Bool.and_eq_true] at hc
  obtain ⟨hb, hc⟩ := hc
  have hb' : l.all (dstB n) = true := hb
  cases draw with
  | false =>
    have hd' : dOps P E (modeB E false l) w.heap.size l l fr w.heap K := hd
    have hk := dOps_wk hE (k := 0) (fun j => by simp) hb' hr hd'
    refine wp_region ?_
    have key : ∀ (il : List Nat) (a : Act) (w2 : World), Same w w2 → wk P E (modeB E false l) w.heap.size l.toArray (fun a' h' => ∃ fr', RelA n fr' a' ∧ K fr' h') il a w2.heap → wpOps P l.toArray Q il a w2 := by
      intro il
      induction il with
      | nil => intro a w2 s ⟨fr', r, k⟩; exact hq fr' a w2 r s k
      | cons i il ih =>
        intro a w2 s k
        rw [wpOps_cons]
        simp only [wk] at k
        cases ho : l.toArray[i]? with
        | none => simp only [ho] at k; unfold wpOp; simp only [ho]; exact ih a w2 s k
        | some o => simp only [ho] at k; exact stp_wpOp ho k fun v w' s' k' => ih _ w' (s.trans s') k'
    rw [List.range_eq_range']
    exact key _ a w (Same.refl w) (by simpa using hk)
  | true =>
    simp only [Bool.not_true, Bool.false_or, Bool.and_eq_true] at hc
    have hsame : Same w { w with drawn := w.drawn + 1 } := ⟨rfl, rfl, rfl⟩
    refine wp_region_any hE.mixed ?_
    have hrem : rem l.length (Array.replicate l.length false) = List.range' 0 l.length := by
      unfold rem
      rw [List.range_eq_range', List.filter_eq_self]
      intro j hj
      rw [Array.getD_eq_getD_getElem?, Array.getElem?_replicate]
      have : j < l.length := by simpa [List.mem_range'_1] using hj
      simp [this]
    have hcl : Closed l.toArray (Array.replicate l.toArray.size false) := by
      intro i o _ hl
      rw [Array.getD_eq_getD_getElem?, Array.getElem?_replicate] at hl
      simp only [List.size_toArray] at hl
      split at hl <;> simp at hl
    cases hop : openB E true l with
    | true =>
      rw [show ({ toList := l } : Array Oper).toList = l from rfl, hop, cond_true] at hd
      have hany := dTr_any hE hb' (by simpa using hc.1) (by simp) List.nodup_range hr hd
      refine any_wp (E := E) (md := true) (n0 := w.heap.size) hc.2 (K := fun a' h' => ∃ fr', RelA n fr' a' ∧ K fr' h') (w0 := w) ?_ _ _ _ _ (by simp) hcl ?_ hsame ?_
      · rintro a' w' s ⟨fr', r, k⟩
        exact hq fr' a' w' r s k
      · simp only [List.size_toArray]; rw [hrem]; simp
      · simp only [List.size_toArray]; rw [hrem, ← List.range_eq_range', List.length_range]; exact hany
    | false =>
    rw [show ({ toList := l } : Array Oper).toList = l from rfl, hop, cond_false] at hd
    have hk := dOps_wk hE (k := 0) (fun j => by simp) hb' hr hd
    have hc2 : comOk E (modeB E true l) l = true := by
      unfold openB at hop
      unfold modeB
      cases h1 : comOk E false l with
      | true => simp [h1]
      | false => simp [h1] at hop ⊢; exact hop
    refine wk_any (md := modeB E true l) (n0 := w.heap.size) hc2 (K := fun a' h' => ∃ fr', RelA n fr' a' ∧ K fr' h') (w0 := w) ?_ _ _ _ _ (by simp) ?_ ?_ hsame ?_
    · rintro a' w' s ⟨fr', r, k⟩
      exact hq fr' a' w' r s k
    · intro i o _ hl
      rw [Array.getD_eq_getD_getElem?, Array.getElem?_replicate] at hl
      simp only [List.size_toArray] at hl
      split at hl <;> simp at hl
    · simp only [List.size_toArray]; rw [hrem]; simp
    · simp only [List.size_toArray]; rw [hrem]; exact hk
def Ex.up : Ex → Exit
  | .normal => .normal
  | .exit id => .exit id
  | .ret => .ret
theorem den_wp (hE : EnvOk P E) {n : Nat} : ∀ {c : Code} {Q : Ex → Fr → Hp → Prop} {fr : Fr} {a : Act} {w : World} {Q' : Exit → Act → World → Prop}, codeB E n c = true → RelA n fr a → den P E c Q fr w.heap →
    (∀ e fr' a' w', RelA n fr' a' → Same w w' → Q e fr' w'.heap → Q' e.up a' w') → c.wp P Q' a w := by
  intro c
  induction c with
  | skip => intro Q fr a w Q' hc hr hd hq; exact wp_skip (hq .normal fr a w hr (Same.refl w) hd)
  | label l => intro Q fr a w Q' hc hr hd hq; exact wp_label (hq .normal fr a w hr (Same.refl w) hd)
  | ret => intro Q fr a w Q' hc hr hd hq; exact wp_ret (hq .ret fr a w hr (Same.refl w) hd)
  | exit id => intro Q fr a w Q' hc hr hd hq; exact wp_exit (hq (.exit id) fr a w hr (Same.refl w) hd)
  | region id ops draw =>
    intro Q fr a w Q' hc hr hd hq
    exact region_wp hE hc hr hd fun fr' a' w' r s k => hq .normal fr' a' w' r s k
  | seq x y ihx ihy =>
    intro Q fr a w Q' hc hr hd hq
    simp only [codeB, Bool.and_eq_true] at hc
    refine wp_seq (ihx hc.1 hr hd fun e fr' a' w' r s k => ?_)
    cases e with
    | normal => exact ihy hc.2 r k fun e2 fr2 a2 w2 r2 s2 k2 => hq e2 fr2 a2 w2 r2 (s.trans s2) k2
    | exit id => exact hq (.exit id) fr' a' w' r s k
    | ret => exact hq .ret fr' a' w' r s k
  | cond c x y ihx ihy =>
    intro Q fr a w Q' hc hr hd hq
    simp only [codeB, Bool.and_eq_true] at hc
    simp only [den] at hd
    split at hd
    · rename_i t ht
      have hev : a.eval c = .bool t := by rw [hr.ev]; exact ht
      refine wp_cond hev ?_
      cases t with
      | true => simp only [cond_true, updC_self ht] at hd; exact ihx hc.1 hr hd hq
      | false => simp only [cond_false, updC_self ht] at hd; exact ihy hc.2 hr hd hq
    · cases hd
  | block id c ih =>
    intro Q fr a w Q' hc hr hd hq
    refine wp_block (ih hc hr hd fun e fr' a' w' r s k => ?_)
    cases e with
    | normal => exact hq .normal fr' a' w' r s k
    | ret => exact hq .ret fr' a' w' r s k
    | exit id' =>
      simp only [Ex.inBlock] at k
      simp only [Ex.up, Exit.inBlock]
      cases hb : Nat.beq id' id with
      | true =>
        simp only [hb, cond_true] at k
        rw [if_pos (Nat.eq_of_beq_eq_true hb)]
        exact hq .normal fr' a' w' r s k
      | false =>
        simp only [hb, cond_false] at k
        rw [if_neg (fun e => by subst e; simp at hb)]
        exact hq (.exit id') fr' a' w' r s k
  | scope c ih =>
    intro Q fr a w Q' hc hr hd hq
    refine wp_scope_straight (ih hc hr hd fun e fr' a' w' r s k => ?_)
    cases e <;> exact hq _ fr' a' w' r s k
  | loop c ih =>
    intro Q fr a w Q' hc hr hd hq
    obtain ⟨m, hd⟩ := hd
    refine wp_loop_rounds m ?_
    have key : ∀ m fr a w2, RelA n fr a → Same w w2 → iter (fun N => den P E c (Ex.then N Q)) m fr w2.heap → Code.rounds P c Q' m a w2 := by
      intro m
      induction m with
      | zero => intro fr a w2 _ _ h; exact h.elim
      | succ m ihm =>
        intro fr a w2 hr s h
        rw [rounds_succ]
        refine ih hc hr h fun e fr' a' w' r s' k => ?_
        cases e with
        | normal => exact ihm fr' a' w' r (s.trans s') k
        | exit id => exact hq (.exit id) fr' a' w' r (s.trans s') k
        | ret => exact hq .ret fr' a' w' r (s.trans s') k
    exact key m fr a w hr (Same.refl w) hd
  | _ => intro Q fr a w Q' hc hr hd hq; exact hd.elim
theorem initFr_rel (args : List Value) (n : Nat) (hn : args.length ≤ n) : RelA n (initFr args) { tmps := args.toArray ++ Array.replicate (n - args.length) undef, defers := [] } := by
  refine ⟨by simp; omega, rfl, fun t => ?_⟩
  unfold initFr
  rw [Array.getD_eq_getD_getElem?]
  by_cases h : t < args.length
  · rw [Array.getElem?_append_left (by simpa using h)]
    simp [h]
  · rw [Array.getElem?_append_right (by simpa using h)]
    have h2 : args[t]? = none := by simp; omega
    rw [h2]
    simp only [List.size_toArray]
    rw [Array.getElem?_replicate]
    split <;> rfl
def resOne (tmps : Array Value) : ResultVar → Sem Value
  | .tmp t => pure (tmps.getD t undef)
  | .cell a t => do loadVar t (← asAddr (tmps.getD a undef))
theorem resK_run (hE : EnvOk P E) {n : Nat} {fr : Fr} {a : Act} (hr : RelA n fr a) {w : World} : ∀ {l : List ResultVar} {K : List Value → Prop}, resK E fr w.heap l K → ∃ vs, K vs ∧ (l.mapM (resOne a.tmps)).run P w = Result.ok vs w
  | [], K, h => ⟨[], h, rfl⟩
  | .tmp t :: l, K, h => by
    obtain ⟨vs, h1, h2⟩ := resK_run hE hr (l := l) h
    refine ⟨_, h1, ?_⟩
    rw [List.mapM_cons]
    simp only [resOne, Sem.run_bind, Sem.run_pure, Result.andThen, h2, hr.get t]
  | .cell x t :: l, K, h => by
    simp only [resK] at h
    split at h
    · rename_i q i e1 e2
      obtain ⟨v, h1, h2⟩ := ldT_run (P := P) hE e2 h
      obtain ⟨vs, h3, h4⟩ := resK_run hE hr (l := l) h1
      refine ⟨_, h3, ?_⟩
      have h5 := h2 w rfl
      simp only [Instr.loadAt, Instr.sureAddr, pure_bind] at h5
      rw [List.mapM_cons]
      simp only [resOne, Sem.run_bind, Sem.run_pure, Result.andThen, h4, hr.get x, e1, asAddr, h5]
    · cases h
/-- A function's call, by 'den' of its body. -/
theorem calls_of_den (hE : EnvOk P E) {f : FuncId} {fn : Func} {c : Code} {rs : List ResultVar} (hf : P.funcs[f]? = some fn) (hb : fn.body = some c) (hc : codeB E fn.ntmps c = true) (hrs : fn.results.toList = rs)
    {args : List Value} (hn : args.length ≤ fn.ntmps) {h : Hp} {R : Value → Hp → Prop}
    (hd : den P E c (fun e fr h' => match e with | .exit _ => False | _ => resK E fr h' rs fun vs => R (mkRes vs) h') (initFr args) h) : HCalls P f args.toArray h R := by
  intro w hw
  subst hw
  refine calls_of_wp hf hb ?_
  have hr := initFr_rel args fn.ntmps hn
  have hsz : fn.ntmps - args.toArray.size = fn.ntmps - args.length := by simp
  rw [hsz]
  refine den_wp hE hc hr hd fun e fr' a' w' r s k => ?_
  have hres : (resK E fr' w'.heap rs fun vs => R (mkRes vs) w'.heap) → ∃ v, (results fn a'.tmps).run P w' = .ok v w' ∧ R v w'.heap := by
    intro k
    obtain ⟨vs, h1, h2⟩ := resK_run hE r k
    refine ⟨_, ?_, h1⟩
    have hres : results fn a'.tmps = (fn.results.mapM (resOne a'.tmps) >>= fun vs => pure (if h : vs.size = 1 then vs[0] else .tuple vs)) := rfl
    rw [hres, Sem.run_bind, Array.mapM_eq_mapM_toList, Sem.run_map, hrs, h2]
    simp only [Result.andThen, Sem.run_pure]
    congr 1
    match vs with
    | [] => rfl
    | [t] => rfl
    | t :: t' :: ts => simp [mkRes]
  cases e with
  | normal => obtain ⟨v, h1, h2⟩ := hres k; exact ⟨r.defers, v, h1, v, rfl, s, h2⟩
  | ret => obtain ⟨v, h1, h2⟩ := hres k; exact ⟨r.defers, v, h1, v, rfl, s, h2⟩
  | exit id => exact k.elim
end
end Go.Gv

/- Gv, part 6: what 'den' says may be weakened; chains of statements. -/
namespace Go.Gv
set_option linter.unusedVariables false
set_option linter.unusedSimpArgs false

theorem letK_mono {n : Int} {K K' : Int → Prop} (hk : ∀ n, K n → K' n) (h : letK n K) : letK n K' := ⟨hk _ h.out⟩
theorem dIntOp_mono {op : BinOp} {k : IntKind} {a b : Int} {K K' : Value → Prop} (hk : ∀ v, K v → K' v) (h : dIntOp op k a b K) : dIntOp op k a b K' := by
  cases op <;> first
    | exact hk _ h
    | exact letK_mono (fun n => hk _) h
    | exact ⟨h.1, letK_mono (fun n => hk _) h.2⟩
    | exact h
theorem dBin_mono {E : Env} {op : BinOp} {t : TypeId} {x y : Value} {K K' : Value → Prop} (hk : ∀ v, K v → K' v) (h : dBin E op t x y K) : dBin E op t x y K' := by
  unfold dBin at *
  split at h
  · rename_i k a k' b
    split at h
    · exact ⟨h.1, letK_mono (fun n => hk _) h.2⟩
    · exact ⟨h.1, letK_mono (fun n => hk _) h.2⟩
    · cases e : kEq k k' with
      | false => rw [e] at h; cases h
      | true => rw [e] at h; exact dIntOp_mono hk h
  · split at h
    · exact ⟨h.1, hk _ h.2⟩
    · exact hk _ h
    · exact hk _ h
    · cases h
  · split at h
    · split at h
      · exact hk _ h
      · exact hk _ h
      · cases h
    · cases h
  · split at h
    · split at h
      · exact hk _ h
      · exact hk _ h
      · cases h
    · cases h
  · cases h
theorem dUn_mono {op : UnOp} {x : Value} {K K' : Value → Prop} (hk : ∀ v, K v → K' v) (h : dUn op x K) : dUn op x K' := by
  unfold dUn at *
  split at h
  · exact letK_mono (fun n => hk _) h
  · exact letK_mono (fun n => hk _) h
  · exact hk _ h
  · cases h
theorem gInt_mono {kk : IntKind} {v : Value} {K K' : Int → Prop} (hk : ∀ n, K n → K' n) (h : gInt kk v K) : gInt kk v K' := by
  obtain ⟨m, e, g⟩ := gInt_elim h
  subst e
  have this : ∀ j : IntKind, kEq j j = true := fun j => by cases j <;> rfl
  simp only [gInt, this, cond_true]
  exact hk _ g
theorem asLeaf_mono {k : Kd} {v : Value} {K K' : Value → Prop} (hk : ∀ v, K v → K' v) (h : asLeaf k v K) : asLeaf k v K' := by
  cases k with
  | int k => exact gInt_mono (fun n => hk _) h
  | bool => obtain ⟨n, e, g⟩ := gBool_elim (show gBool v _ from h); subst e; exact hk _ g
  | str => obtain ⟨n, e, g⟩ := gStr_elim (show gStr v _ from h); subst e; exact hk _ g
  | slice => obtain ⟨a, l, c, e, g⟩ := gSlice_elim (show gSlice v _ from h); subst e; exact hk _ g
  | ptr => obtain ⟨n, e, g⟩ := gPtr_elim (show gPtr v _ from h); subst e; exact hk _ g
theorem asLeaves_mono : ∀ {ks : List Kd} {l : List Value} {K K' : List Value → Prop}, (∀ v, K v → K' v) → asLeaves ks l K → asLeaves ks l K'
  | [], l, K, K', hk, h => by obtain ⟨e, g⟩ := unnil_elim h; subst e; exact hk _ g
  | k :: ks, l, K, K', hk, h => by
    obtain ⟨v, vs, e, g⟩ := uncons_elim h
    subst e
    exact asLeaf_mono (fun v' g' => asLeaves_mono (fun vs' => hk _) g') g
theorem asOne_mono {i : TyI} {v : Value} {K K' : Value → Prop} (hk : ∀ v, K v → K' v) (h : asOne i v K) : asOne i v K' := by
  unfold asOne at *
  split at h
  · obtain ⟨cs, e, g⟩ := gAgg_elim h
    subst e
    rename_i e
    exact asLeaves_mono (fun vs => hk _) g
  · split at h
    · rename_i hn k e
      exact asLeaf_mono hk h
    · cases h
theorem asParts_mono {E : Env} : ∀ {ts : List TypeId} {l : List Value} {K K' : List Value → Prop}, (∀ v, K v → K' v) → asParts E ts l K → asParts E ts l K'
  | [], l, K, K', hk, h => by obtain ⟨e, g⟩ := unnil_elim h; subst e; exact hk _ g
  | t :: ts, l, K, K', hk, h => by
    obtain ⟨v, vs, e, g⟩ := uncons_elim h
    subst e
    unfold asParts uncons
    simp only
    split at g
    · rename_i i e
      exact asOne_mono (fun v' g' => asParts_mono (fun vs' => hk _) g') g
    · cases g
theorem asTy_mono {E : Env} {t : TypeId} {v : Value} {K K' : Value → Prop} (hk : ∀ v, K v → K' v) (h : asTy E t v K) : asTy E t v K' := by
  unfold asTy at *
  split at h
  · rename_i i e
    split at h
    · rename_i ts e'
      obtain ⟨cs, e, g⟩ := gTup_elim h
      subst e
      exact asParts_mono (fun vs => hk _) g
    · rename_i hn
      exact asOne_mono hk h
  · exact hk _ h
theorem idxK_mono {a : Option Addr} {l : Nat} {i : Int} {sz : Nat} {K K' : Addr → Prop} (hk : ∀ q, K q → K' q) (h : idxK a l i sz K) : idxK a l i sz K' := by
  obtain ⟨h0, h⟩ := h
  refine ⟨h0, ?_⟩
  cases a with
  | none => exact h
  | some p => exact hk _ h
theorem idxS_mono {s : ByteArray} {i : Int} {K K' : Int → Prop} (hk : ∀ q, K q → K' q) (h : idxS s i K) : idxS s i K' := by
  obtain ⟨h0, h⟩ := h
  refine ⟨h0, ?_⟩
  split at h
  · rename_i e; exact hk _ h
  · cases h
theorem ldK_mono {h : Hp} {q : Addr} {K K' : Value → Prop} (hk : ∀ v, K v → K' v) (hd : ldK h q K) : ldK h q K' := by
  unfold ldK at *
  split at hd
  · rename_i e; exact hk _ hd
  · cases hd
theorem ldLs_mono {h : Hp} {q : Addr} : ∀ {ks : List Kd} {i : Nat} {K K' : List Value → Prop}, (∀ v, K v → K' v) → ldLs h q i ks K → ldLs h q i ks K'
  | [], i, K, K', hk, hd => hk _ hd
  | k :: ks, i, K, K', hk, hd => ldK_mono (fun v g => asLeaf_mono (fun v' g' => ldLs_mono (fun vs => hk _) g') g) hd
theorem ldT_mono {i : TyI} {h : Hp} {q : Addr} {K K' : Value → Prop} (hk : ∀ v, K v → K' v) (hd : ldT i h q K) : ldT i h q K' := by
  obtain ⟨ty, ls, b⟩ := i
  cases ty with
  | struct fs => exact ldLs_mono (fun vs => hk _) hd
  | tuple ts => exact hd
  | _ =>
    match ls, hd with
    | [k], hd => exact ldK_mono (fun v g => asLeaf_mono hk g) hd
theorem bnd_mono {v : Option Value} {d y : Nat} {K K' : Nat → Prop} (hk : ∀ n, K n → K' n) (h : bnd v d y K) : bnd v d y K' := by
  unfold bnd at *
  split at h
  · exact hk _ h
  · exact ⟨h.1, hk _ h.2⟩
  · cases h
theorem slK_mono {sz : Nat} {a : Option Addr} {l c : Nat} {lo hi mx : Option Value} {K K' : Option Addr → Nat → Nat → Prop} (hk : ∀ a l c, K a l c → K' a l c) (h : slK sz a l c lo hi mx K) : slK sz a l c lo hi mx K' := by
  unfold slK at *
  split at h
  · cases h
  · rename_i hn
    exact bnd_mono (fun m g => bnd_mono (fun h' g' => bnd_mono (fun l g'' => hk _ _ _ g'') g') g) h
theorem slS_mono {s : ByteArray} {lo hi : Option Value} {K K' : ByteArray → Prop} (hk : ∀ s, K s → K' s) (h : slS s lo hi K) : slS s lo hi K' :=
  bnd_mono (fun h' g' => bnd_mono (fun l g'' => hk _ g'') g') h
theorem dMax_mono : ∀ {rest : List Value} {x : Value} {K K' : Value → Prop}, (∀ v, K v → K' v) → dMax x rest K → dMax x rest K'
  | [], x, K, K', hk, h => by unfold dMax at *; exact hk _ h
  | y :: rest, x, K, K', hk, h => by
    cases x with
    | int k a =>
      cases y with
      | int k' b => unfold dMax at *; exact dMax_mono hk h
      | _ => simp [dMax] at h
    | _ => cases y <;> simp [dMax] at h
theorem dMin_mono : ∀ {rest : List Value} {x : Value} {K K' : Value → Prop}, (∀ v, K v → K' v) → dMin x rest K → dMin x rest K'
  | [], x, K, K', hk, h => by unfold dMin at *; exact hk _ h
  | y :: rest, x, K, K', hk, h => by
    cases x with
    | int k a =>
      cases y with
      | int k' b => unfold dMin at *; exact dMin_mono hk h
      | _ => simp [dMin] at h
    | _ => cases y <;> simp [dMin] at h
theorem dLen_mono {E : Env} {t : TypeId} {v : Value} {K K' : Value → Prop} (hk : ∀ v, K v → K' v) (h : dLen E t v K) : dLen E t v K' := by
  unfold dLen at *
  split at h
  · rename_i e; exact hk _ h
  · rename_i e; exact hk _ h
  · cases h
theorem dCall_mono {E : Env} {c : Call} {fr : Fr} {K K' : Value → Prop} (hk : ∀ v, K v → K' v) (h : dCall E c fr K) : dCall E c fr K' := by
  obtain ⟨callee, args, ats⟩ := c
  unfold dCall at *
  simp only at *
  split at h
  · split at h
    · rename_i e1 e2; exact dLen_mono hk h
    · cases h
  · split at h
    · rename_i e; exact dMax_mono hk h
    · cases h
  · split at h
    · rename_i e; exact dMin_mono hk h
    · cases h
  · split at h
    · rename_i e
      split at h
      · rename_i e2; exact ⟨h.1, hk _ h.2⟩
      · cases h
    · rename_i e
      split at h
      · rename_i e2; exact ⟨h.1, hk _ h.2⟩
      · cases h
    · cases h
  · cases h
theorem dStill_mono {E : Env} {op : Op} {fr : Fr} {h : Hp} {K K' : Value → Prop} (hk : ∀ v, K v → K' v) (hd : dStill E op fr h K) : dStill E op fr h K' := by
  cases op with
  | move x => exact hk _ hd
  | assign x => exact hk _ hd
  | pick c a b =>
    simp only [dStill] at *
    split at hd
    · rename_i t e
      cases t <;> exact hk _ hd
    · cases hd
  | load t a =>
    simp only [dStill] at *
    split at hd
    · rename_i e1 e2; exact ldT_mono hk hd
    · cases hd
  | binOp op t x y yt => exact dBin_mono hk hd
  | unOp op t x => exact dUn_mono hk hd
  | convert s d x =>
    simp only [dStill] at *
    split at hd
    · rename_i e1 e2 e3; exact letK_mono (fun n => hk _) hd
    · cases hd
  | indexAddr t x i =>
    simp only [dStill] at *
    split at hd
    · rename_i e1 e2 e3
      split at hd
      · rename_i e4; exact idxK_mono (fun q => hk _) hd
      · cases hd
    · split at hd
      · split at hd
        · exact idxK_mono (fun q => hk _) hd
        · cases hd
      · cases hd
    · cases hd
  | index t x i =>
    simp only [dStill] at *
    split at hd
    · rename_i e1 e2 e3; exact idxS_mono (fun q => hk _) hd
    · cases hd
  | extract x i =>
    simp only [dStill] at *
    split at hd
    · rename_i e1
      split at hd
      · rename_i e2; exact hk _ hd
      · cases hd
    · cases hd
  | fieldAddr s x f =>
    simp only [dStill] at *
    split at hd
    · rename_i e1 e2
      split at hd
      · rename_i e3
        split at hd
        · rename_i i e4
          cases hz : Nat.beq i.leaves.length 0 with
          | true => rw [hz] at hd; cases hd
          | false => rw [hz] at hd; exact hk _ hd
        · cases hd
      · cases hd
    · cases hd
  | field t x f =>
    simp only [dStill] at *
    split at hd
    · rename_i e1 e2
      split at hd
      · rename_i e3
        split at hd
        · rename_i e4; exact hk _ hd
        · cases hd
        · rename_i i hn1 hn2 e4
          split at hd
          · rename_i e5
            exact hk _ hd
          · cases hd
        · cases hd
      · cases hd
    · cases hd
  | build t parts =>
    simp only [dStill] at *
    split at hd
    · rename_i fs ls b e1
      cases hp : (!fs.isEmpty && placesOk E fs) with
      | false => rw [hp] at hd; cases hd
      | true =>
        rw [hp] at hd
        simp only [cond_true] at *
        split at hd
        · rename_i e2; exact hk _ hd
        · cases hd
    · cases hd
  | nilCheck x =>
    simp only [dStill] at *
    split at hd
    · rename_i e1; exact hk _ hd
    · cases hd
  | slice t x lo hi mx =>
    simp only [dStill] at *
    split at hd
    · rename_i e1 e2
      split at hd
      · rename_i e3; exact slK_mono (fun a l c => hk _) hd
      · cases hd
    · rename_i e1 e2
      split at hd
      · exact slS_mono (fun s => hk _) hd
      · cases hd
    · cases hd
  | call c => exact dCall_mono hk hd
  | _ => exact hd
theorem stLs_mono {q : Addr} : ∀ {l : List Value} {i : Nat} {h : Hp} {K K' : Hp → Prop}, (∀ h, K h → K' h) → stLs h q i l K → stLs h q i l K'
  | [], i, h, K, K', hk, hd => hk _ hd
  | v :: vs, i, h, K, K', hk, hd => by
    unfold stLs at *
    cases hp : plainV v with
    | false => rw [hp] at hd; cases hd
    | true => rw [hp] at hd; exact ⟨hd.1, stLs_mono hk hd.2⟩
theorem dStore_mono {i : TyI} {h : Hp} {q : Addr} {v : Value} {K K' : Hp → Prop} (hk : ∀ h, K h → K' h) (hd : dStore i h q v K) : dStore i h q v K' := by
  cases v with
  | agg cs =>
    unfold dStore at *
    cases hb : Nat.beq cs.toList.length i.leaves.length with
    | false => simp only [hb] at hd; cases hd
    | true => simp only [hb] at *; exact stLs_mono hk hd
  | tuple cs => exact hd
  | _ =>
    unfold dStore at *
    cases hb : Nat.beq 1 i.leaves.length with
    | false => simp only [hb] at hd; cases hd
    | true => simp only [hb] at *; exact ⟨hd.1, hk _ hd.2⟩
theorem apK_mono {h : Hp} {e : TypeId} {i : TyI} {a : Option Addr} {l c : Nat} {x : Value} {K K' : Option Addr → Nat → Nat → Hp → Prop} (hk : ∀ a l c h, K a l c h → K' a l c h) (hd : apK h e i a l c x K) : apK h e i a l c x K' := by
  obtain ⟨n, cs, h1, h2, h3, h4⟩ := hd
  refine ⟨n, cs, h1, h2, fun hc => ?_, fun hc => ?_⟩
  · have := h3 hc
    cases a with
    | none => exact hk _ _ _ _ this
    | some p => exact ⟨this.1, hk _ _ _ _ this.2⟩
  · obtain ⟨g1, g2, g3, old, g4, g5⟩ := h4 hc
    exact ⟨g1, g2, g3, old, g4, fun nc hnc => hk _ _ _ _ (g5 nc hnc)⟩
theorem cpK_mono {h : Hp} {sz : Nat} {a : Option Addr} {l : Nat} {x : Value} {K K' : Int → Hp → Prop} (hk : ∀ n h, K n h → K' n h) (hd : cpK h sz a l x K) : cpK h sz a l x K' := by
  obtain ⟨n, cs, h1, h2, h3⟩ := hd
  refine ⟨n, cs, h1, h2, ?_⟩
  cases a with
  | none => exact hk _ _ h3
  | some p => exact ⟨h3.1, hk _ _ h3.2⟩
theorem clK_mono {h : Hp} {i : TyI} {a : Option Addr} {l : Nat} {K K' : Hp → Prop} (hk : ∀ h, K h → K' h) (hd : clK h i a l K) : clK h i a l K' := by
  cases a with
  | none => exact hk _ hd
  | some p =>
    cases l with
    | zero => exact hk _ hd
    | succ l => exact ⟨hd.1, hk _ hd.2⟩
theorem nxK_mono {h : Hp} {q : Addr} {K1 K1' : Int → Int → Hp → Prop} {K0 K0' : Prop} (h1 : ∀ i c h, K1 i c h → K1' i c h) (h0 : K0 → K0') (hd : nxK h q K1 K0) : nxK h q K1' K0' := by
  obtain ⟨a, s, pos, b, c, d⟩ := hd
  exact ⟨a, s, pos, b, fun e => h1 _ _ _ (c e), fun e => h0 (d e)⟩
theorem b2s_mono {h : Hp} {a : Option Addr} {l : Nat} {K K' : ByteArray → Prop} (hk : ∀ s, K s → K' s) (hd : b2s h a l K) : b2s h a l K' := by
  cases a with
  | none => exact hk _ hd
  | some p => obtain ⟨bs, h1, h2, h3⟩ := hd; exact ⟨bs, h1, h2, hk _ h3⟩
theorem dAct_mono {P : Program} {E : Env} {op : Op} {t0 : TypeId} {fr : Fr} {h : Hp} {K K' : Value → Hp → Prop} (hk : ∀ v h, K v h → K' v h) (hd : dAct P E op t0 fr h K) : dAct P E op t0 fr h K' := by
  cases op with
  | range t x =>
    simp only [dAct] at *
    split at hd
    · exact hk _ _ hd
    · cases hd
  | next x b =>
    cases b with
    | false => exact hd
    | true =>
      simp only [dAct, cond_true] at *
      split at hd
      · exact nxK_mono (fun _ _ _ => hk _ _) (hk _ _) hd
      · cases hd
  | convert s d x =>
    simp only [dAct] at *
    split at hd
    · split at hd
      · exact b2s_mono (fun _ => hk _ _) hd
      · cases hd
    · cases hd
  | store t x v =>
    simp only [dAct] at *
    split at hd
    · rename_i e1 e2; exact dStore_mono (fun h => hk _ _) hd
    · cases hd
  | box e v => exact hk _ _ hd
  | alloc e =>
    simp only [dAct] at *
    split at hd
    · cases hd
    · rename_i i hn e1
      exact hk _ _ hd
    · cases hd
  | makeSlice t l c =>
    simp only [dAct] at *
    split at hd
    · rename_i e1 e2 e3
      split at hd
      · cases hd
      · rename_i i hn e4
        exact ⟨hd.1, hk _ _ hd.2⟩
      · cases hd
    · cases hd
  | buildSlice t n parts =>
    simp only [dAct] at *
    split at hd
    · rename_i e1
      split at hd
      · cases hd
      · rename_i i hn e4
        cases hb : Nat.ble (n * i.leaves.length) 16777216 with
        | false => rw [hb] at hd; cases hd
        | true =>
          rw [hb] at hd
          simp only [cond_true] at *
          split at hd
          · exact hk _ _ hd
          · cases hd
      · cases hd
    · cases hd
  | call c =>
    obtain ⟨callee, args, ats⟩ := c
    simp only [dAct] at *
    split at hd
    · split at hd
      · rename_i s x t t' e1 e2
        cases hs : srcTy E t' with
        | false => rw [hs] at hd; cases hd
        | true =>
          rw [hs] at hd
          simp only [cond_true] at *
          split at hd
          · rename_i e3 e4
            split at hd
            · cases hd
            · rename_i i hn e5
              exact apK_mono (fun a l c h => hk _ _) hd
            · cases hd
          · cases hd
      · cases hd
    · split at hd
      · rename_i e1 e2
        split at hd
        · rename_i e3 e4
          split at hd
          · cases hd
          · rename_i i hn e5
            exact cpK_mono (fun n h => hk _ _) hd
          · cases hd
        · cases hd
      · cases hd
    · split at hd
      · rename_i e1 e2
        split at hd
        · rename_i e3 e4
          split at hd
          · cases hd
          · rename_i i hn e5
            exact clK_mono (fun h => hk _ _) hd
          · cases hd
        · cases hd
      · cases hd
    · split at hd
      · rename_i e1; exact HCalls.mono hd fun v h' g => asTy_mono (fun v' => hk _ _) g
      · cases hd
    · cases hd
  | _ => exact hd
theorem dQuiet_mono {P : Program} {E : Env} {op : Op} {t0 : TypeId} {fr : Fr} {h : Hp} {K K' : Value → Prop} (hk : ∀ v, K v → K' v) (hd : dQuiet P E op t0 fr h K) : dQuiet P E op t0 fr h K' := by
  cases op with
  | call c =>
    simp only [dQuiet] at *
    split at hd
    · obtain ⟨v, h1, h2⟩ := hd
      exact ⟨v, h1, asTy_mono hk h2⟩
    · cases hd
  | _ => exact hd
theorem dOp_mono {P : Program} {E : Env} {md : Bool} {n0 : Nat} {o : Oper} {fr : Fr} {h : Hp} {K K' : Value → Hp → Prop} (hk : ∀ v h, K v h → K' v h) (hd : dOp P E md n0 o fr h K) : dOp P E md n0 o fr h K' := by
  unfold dOp at *
  cases hc : clOf E o.op with
  | pure => simp only [hc] at *; exact dStill_mono (fun v => hk v _) hd
  | load =>
    simp only [hc] at *
    cases md with
    | false => exact dStill_mono (fun v => hk v _) hd
    | true =>
      simp only [cond_true] at *
      split at hd
      · exact ⟨hd.1, dStill_mono (fun v => hk v _) hd.2⟩
      · cases hd
  | quiet => simp only [hc] at *; exact dQuiet_mono (fun v => hk v _) hd
  | call =>
    simp only [hc] at *
    cases md with
    | false => simp only [cond_false] at *; exact dAct_mono hk hd
    | true => simp only [cond_true] at *; exact dAct_mono (fun v h' k => ⟨k.1, hk _ _ k.2⟩) hd
  | act => simp only [hc] at *; exact dAct_mono hk hd
theorem dOps_mono {P : Program} {E : Env} {md : Bool} {n0 : Nat} {all : List Oper} : ∀ {l : List Oper} {fr : Fr} {h : Hp} {K K' : Fr → Hp → Prop}, (∀ fr h, K fr h → K' fr h) → dOps P E md n0 all l fr h K → dOps P E md n0 all l fr h K'
  | [], fr, h, K, K', hk, hd => hk _ _ hd
  | o :: rest, fr, h, K, K', hk, hd => by
    unfold dOps at *
    split at hd
    · rename_i e; exact dOp_mono (fun v h' => dOps_mono hk) hd
    · rename_i j want e
      split at hd
      · cases hd
      · rename_i t e2
        split at hd
        · rename_i b e3
          cases b <;> cases want <;> simp only [cond_true, cond_false] at * <;> first
            | exact dOps_mono hk hd
            | exact dOp_mono (fun v h' => dOps_mono hk) hd
        · exact dOps_mono hk hd
        · cases hd
theorem dAt_mono {P : Program} {E : Env} {n0 : Nat} {all : List Oper} {i : Nat} {fr : Fr} {h : Hp} {K K' : Fr → Hp → Prop} (hk : ∀ fr h, K fr h → K' fr h) (hd : dAt P E n0 all i fr h K) : dAt P E n0 all i fr h K' := by
  unfold dAt at *
  split at hd
  · exact dOps_mono hk hd
  · cases hd
theorem conjL_mono {f g : Nat → Prop} (hfg : ∀ i, f i → g i) : ∀ {l : List Nat}, conjL f l → conjL g l
  | [], _ => trivial
  | [i], h => hfg i h
  | i :: j :: l, h => ⟨hfg i h.1, conjL_mono hfg h.2⟩
theorem dTr_mono {P : Program} {E : Env} {n0 : Nat} {all : List Oper} {bs : List Nat} {K K' : Fr → Hp → Prop} (hk : ∀ fr h, K fr h → K' fr h) : ∀ {n : Nat} {todo : List Nat} {fr : Fr} {h : Hp}, dTr P E n0 all bs n todo fr h K → dTr P E n0 all bs n todo fr h K'
  | 0, _, fr, h, hd => hk _ _ hd
  | n + 1, todo, fr, h, hd => by
    unfold dTr at *
    split at hd
    · rename_i e; exact dAt_mono (fun fr h => dTr_mono hk) hd
    · rename_i e; exact conjL_mono (fun i g => dAt_mono (fun fr h => dTr_mono hk) g) hd
theorem den_mono {P : Program} {E : Env} : ∀ {c : Code} {Q Q' : Ex → Fr → Hp → Prop} {fr : Fr} {h : Hp}, (∀ e fr h, Q e fr h → Q' e fr h) → den P E c Q fr h → den P E c Q' fr h := by
  intro c
  induction c with
  | skip => intro Q Q' fr h hq hd; exact hq _ _ _ hd
  | label l => intro Q Q' fr h hq hd; exact hq _ _ _ hd
  | ret => intro Q Q' fr h hq hd; exact hq _ _ _ hd
  | exit id => intro Q Q' fr h hq hd; exact hq _ _ _ hd
  | region id ops draw =>
    intro Q Q' fr h hq hd
    simp only [den] at *
    cases hop : openB E draw ops.toList with
    | true => rw [hop] at hd; simp only [cond_true] at hd ⊢; exact dTr_mono (hq _) hd
    | false => rw [hop] at hd; simp only [cond_false] at hd ⊢; exact dOps_mono (hq _) hd
  | seq x y ihx ihy =>
    intro Q Q' fr h hq hd
    refine ihx (fun e fr' h' g => ?_) hd
    cases e with
    | normal => exact ihy hq g
    | exit id => exact hq _ _ _ g
    | ret => exact hq _ _ _ g
  | cond c x y ihx ihy =>
    intro Q Q' fr h hq hd
    simp only [den] at *
    split at hd
    · rename_i t e
      cases t with
      | true => exact ihx hq hd
      | false => exact ihy hq hd
    · cases hd
  | block id c ih =>
    intro Q Q' fr h hq hd
    refine ih (fun e fr' h' g => ?_) hd
    cases e with
    | normal => exact hq _ _ _ g
    | ret => exact hq _ _ _ g
    | exit id' =>
      simp only [Ex.inBlock] at *
      cases hb : Nat.beq id' id with
      | true => rw [hb] at g; exact hq _ _ _ g
      | false => rw [hb] at g; exact hq _ _ _ g
  | scope c ih => intro Q Q' fr h hq hd; exact ih hq hd
  | loop c ih =>
    intro Q Q' fr h hq hd
    obtain ⟨n, hd⟩ := hd
    refine ⟨n, ?_⟩
    have key : ∀ n fr h, iter (fun N => den P E c (Ex.then N Q)) n fr h → iter (fun N => den P E c (Ex.then N Q')) n fr h := by
      intro n
      induction n with
      | zero => intro fr h g; exact g
      | succ n ihn =>
        intro fr h g
        refine ih (fun e fr' h' g' => ?_) g
        cases e with
        | normal => exact ihn _ _ g'
        | exit id => exact hq _ _ _ g'
        | ret => exact hq _ _ _ g'
    exact key n fr h hd
  | _ => intro Q Q' fr h hq hd; exact hd

theorem then_then (x y : Fr → Hp → Prop) (Q : Ex → Fr → Hp → Prop) : Ex.then x (Ex.then y Q) = Ex.then x Q := by
  funext e
  cases e <;> rfl
theorem den_chain {P : Program} {E : Env} {Q : Ex → Fr → Hp → Prop} {rest : Code} {fr : Fr} {h : Hp} : ∀ {l : List Code}, l ≠ [] → den P E (chainL l) (Ex.then (den P E rest Q) Q) fr h → den P E (chainR l rest) Q fr h
  | [], hl, hd => absurd rfl hl
  | [a], _, hd => hd
  | a :: b :: l, _, hd => by
    show den P E a (Ex.then (den P E (chainR (b :: l) rest) Q) Q) fr h
    refine den_mono (c := a) (fun e fr' h' g => ?_) hd
    cases e with
    | normal => exact den_chain (l := b :: l) (by simp) g
    | exit id => exact g
    | ret => exact g
theorem gPtrS_elim {v : Value} {K : Addr → Prop} (h : gPtrS v K) : ∃ q, v = .pointer (some q) ∧ K q := by
  cases v with
  | pointer a => cases a with
    | some q => exact ⟨q, rfl, h⟩
    | none => cases h
  | _ => cases h
/-- The loop, from a count of rounds on. -/
theorem den_loop {P : Program} {E : Env} {c : Code} {Q : Ex → Fr → Hp → Prop} {fr : Fr} {h : Hp} (n : Nat) (hd : iter (fun N => den P E c (Ex.then N Q)) n fr h) : den P E (.loop c) Q fr h := ⟨n, hd⟩
end Go.Gv

/- Steps by which a printed predicate is led to a code's meaning. -/
namespace Go.Gv
variable {P : Program} {E : Env}
def retQ (E : Env) (rs : List ResultVar) (R : Value → Hp → Prop) : Ex → Fr → Hp → Prop :=
  fun e fr h' => match e with | .exit _ => False | _ => resK E fr h' rs fun vs => R (mkRes vs) h'
def updL (fr : Fr) : List (Nat × Value) → Fr
  | [] => fr
  | p :: l => updL (upd fr p.1 p.2) l
def AllEq (fr : Fr) : List (Nat × Value) → Prop
  | [] => True
  | p :: l => fr p.1 = p.2 ∧ AllEq fr l
theorem updL_self : ∀ {l : List (Nat × Value)} {fr : Fr}, AllEq fr l → updL fr l = fr
  | [], _, _ => rfl
  | p :: l, fr, h => by
    have e : upd fr p.1 p.2 = fr := upd_self h.1
    show updL (upd fr p.1 p.2) l = fr
    rw [e]; exact updL_self h.2
theorem den_enter {c : Code} {Q : Ex → Fr → Hp → Prop} {fr : Fr} {h : Hp} (l : List (Nat × Value)) (hl : AllEq fr l) {t : Prop} (ht : den P E c Q (updL fr l) h = t) (g : t) : den P E c Q fr h := by
  rw [← ht, updL_self hl] at g; exact g
def first : Nat → Code → Code
  | 1, .seq a _ => a
  | n + 2, .seq a b => .seq a (first (n + 1) b)
  | _, c => c
def rest : Nat → Code → Code
  | 1, .seq _ b => b
  | n + 2, .seq _ b => rest (n + 1) b
  | _, _ => .skip
theorem den_first {N : Fr → Hp → Prop} {Q : Ex → Fr → Hp → Prop} : ∀ {n : Nat} {c : Code} (_ : ∀ fr h, N fr h → den P E (rest n c) Q fr h) {fr : Fr} {h : Hp}, den P E (first n c) (Ex.then N Q) fr h → den P E c Q fr h := by
  have key : ∀ (c : Code), (∀ fr h, N fr h → den P E .skip Q fr h) → ∀ {fr : Fr} {h : Hp}, den P E c (Ex.then N Q) fr h → den P E c Q fr h := by
    intro c hn fr h g
    refine den_mono (fun e fr h g => ?_) g
    cases e with
    | normal => exact hn _ _ g
    | exit i => exact g
    | ret => exact g
  have one : ∀ (a b : Code), (∀ fr h, N fr h → den P E b Q fr h) → ∀ {fr : Fr} {h : Hp}, den P E a (Ex.then N Q) fr h → den P E (.seq a b) Q fr h := by
    intro a b hn fr h g
    show den P E a (Ex.then (den P E b Q) Q) fr h
    refine den_mono (fun e fr h g => ?_) g
    cases e with
    | normal => exact hn _ _ g
    | exit i => exact g
    | ret => exact g
  intro n
  induction n with
  | zero =>
    intro c hn fr h g
    have e1 : first 0 c = c := by cases c <;> rfl
    have e2 : rest 0 c = .skip := by cases c <;> rfl
    rw [e1] at g; rw [e2] at hn; exact key c hn g
  | succ n ih =>
    intro c hn fr h g
    cases c with
    | seq a b =>
      cases n with
      | zero => exact one a b hn g
      | succ m =>
        have g' : den P E a (Ex.then (den P E (first (m + 1) b) (Ex.then N Q)) (Ex.then N Q)) fr h := g
        rw [then_then] at g' <;> skip
        all_goals show den P E a (Ex.then (den P E b Q) Q) fr h
        all_goals refine den_mono (fun e fr h g => ?_) g'
        all_goals cases e with
          | normal => exact ih hn g
          | exit i => exact g
          | ret => exact g
    | _ => exact key _ (by cases n <;> exact hn) (by cases n <;> exact g)
theorem den_cut (n : Nat) {c r : Code} {N : Fr → Hp → Prop} {Q : Ex → Fr → Hp → Prop} (hr : rest n c = r) (hn : ∀ fr h, N fr h → den P E r Q fr h) {fr : Fr} {h : Hp} (g : den P E (first n c) (Ex.then N Q) fr h) : den P E c Q fr h := by
  subst hr; exact den_first hn g
theorem den_then {c a r : Code} {N : Fr → Hp → Prop} {Q : Ex → Fr → Hp → Prop} (hc : c = .seq a r) (hn : ∀ fr h, N fr h → den P E r Q fr h) {fr : Fr} {h : Hp} (g : den P E a (Ex.then N Q) fr h) : den P E c Q fr h := by
  subst hc; exact den_first (n := 1) hn g
theorem den_block {c a : Code} {i : Nat} {Q : Ex → Fr → Hp → Prop} (hc : c = .block i a) {fr : Fr} {h : Hp} (g : den P E a (Ex.inBlock i Q) fr h) : den P E c Q fr h := by
  subst hc; exact g
theorem den_scope {c a : Code} {Q : Ex → Fr → Hp → Prop} (hc : c = .scope a) {fr : Fr} {h : Hp} (g : den P E a Q fr h) : den P E c Q fr h := by
  subst hc; exact g
theorem den_condT {c a b : Code} {t : Nat} {Q : Ex → Fr → Hp → Prop} (hc : c = .cond (.tmp t) a b) {fr : Fr} {h : Hp} (e : fr t = .bool true) (g : den P E a Q fr h) : den P E c Q fr h := by
  subst hc
  show (match fr t with | .bool t' => cond t' (den P E a Q (upd fr t (.bool true)) h) (den P E b Q (upd fr t (.bool false)) h) | _ => False)
  rw [e, upd_self e]; exact g
theorem den_condF {c a b : Code} {t : Nat} {Q : Ex → Fr → Hp → Prop} (hc : c = .cond (.tmp t) a b) {fr : Fr} {h : Hp} (e : fr t = .bool false) (g : den P E b Q fr h) : den P E c Q fr h := by
  subst hc
  show (match fr t with | .bool t' => cond t' (den P E a Q (upd fr t (.bool true)) h) (den P E b Q (upd fr t (.bool false)) h) | _ => False)
  rw [e, upd_self e]; exact g
theorem loop_ok {c b : Code} {Q : Ex → Fr → Hp → Prop} (T : Nat → Fr → Hp → Prop) (hc : c = .loop b) (h0 : ∀ fr h, T 0 fr h → False) (hs : ∀ n fr h, T (n + 1) fr h → den P E b (Ex.then (T n) Q) fr h) (n : Nat) (fr : Fr) (h : Hp) (g : T n fr h) : den P E c Q fr h := by
  subst hc
  refine ⟨n, ?_⟩
  induction n generalizing fr h with
  | zero => exact (h0 fr h g).elim
  | succ n ih =>
    show den P E b (Ex.then (iter (fun N => den P E b (Ex.then N Q)) n) Q) fr h
    refine den_mono (fun e fr h g => ?_) (hs n fr h g)
    cases e with
    | normal => exact ih _ _ g
    | exit i => exact g
    | ret => exact g
theorem gInt_intro {k : IntKind} {v : Value} {n : Int} {K : Int → Prop} (e : v = .int k n) (g : K n) : gInt k v K := by
  subst e; cases k <;> exact g
theorem gBool_intro {v : Value} {n : Bool} {K : Bool → Prop} (e : v = .bool n) (g : K n) : gBool v K := by subst e; exact g
theorem gStr_intro {v : Value} {n : ByteArray} {K : ByteArray → Prop} (e : v = .string n) (g : K n) : gStr v K := by subst e; exact g
theorem gPtr_intro {v : Value} {n : Option Addr} {K : Option Addr → Prop} (e : v = .pointer n) (g : K n) : gPtr v K := by subst e; exact g
theorem gPtrS_intro {v : Value} {n : Addr} {K : Addr → Prop} (e : v = .pointer (some n)) (g : K n) : gPtrS v K := by subst e; exact g
theorem gSlice_intro {v : Value} {a : Option Addr} {l c : Nat} {K : Option Addr → Nat → Nat → Prop} (e : v = .slice a l c) (g : K a l c) : gSlice v K := by subst e; exact g
theorem gAgg_intro {v : Value} {l : List Value} {K : List Value → Prop} (e : v = .agg l.toArray) (g : K l) : gAgg v K := by subst e; exact g
theorem gAgg_elim' {v : Value} {K : List Value → Prop} (h : gAgg v K) : ∃ l, v = .agg l.toArray ∧ K l := by
  obtain ⟨cs, e, g⟩ := gAgg_elim h; exact ⟨cs.toList, by rw [e], g⟩
theorem gTup_intro {v : Value} {l : List Value} {K : List Value → Prop} (e : v = .tuple l.toArray) (g : K l) : gTup v K := by subst e; exact g
theorem gTup_elim' {v : Value} {K : List Value → Prop} (h : gTup v K) : ∃ l, v = .tuple l.toArray ∧ K l := by
  obtain ⟨cs, e, g⟩ := gTup_elim h; exact ⟨cs.toList, by rw [e], g⟩
theorem uncons_intro {v : Value} {vs : List Value} {K : Value → List Value → Prop} (g : K v vs) : uncons (v :: vs) K := g
theorem unnil_intro {K : Prop} (g : K) : unnil [] K := g
theorem calls_of_den' (hE : EnvOk P E) {f : FuncId} {fn : Func} {c : Code} {rs : List ResultVar} (hf : P.funcs[f]? = some fn) (hb : fn.body = some c) (hc : codeB E fn.ntmps c = true) (hrs : fn.results.toList = rs)
    {args : List Value} (hn : Nat.ble args.length fn.ntmps = true) {h : Hp} {R : Value → Hp → Prop}
    (hd : den P E c (retQ E rs R) (initFr args) h) : HCalls P f args.toArray h R :=
  calls_of_den hE hf hb hc hrs (Nat.le_of_ble_eq_true hn) hd
end Go.Gv
