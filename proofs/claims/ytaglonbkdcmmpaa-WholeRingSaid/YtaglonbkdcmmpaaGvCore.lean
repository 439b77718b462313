/- Gv: Go code of plain data as predicates on heaps. Part 1: what an operation, a region, a body comes to ('den'), over heaps alone. -/
import Derived.Orders
import Derived.Still
import Derived.Below
import Derived.KernelRfl
import Derived.Tactics
namespace Go.Gv

abbrev Fr := Nat → Value
abbrev Hp := Array Obj

/-! ### frames -/
def upd (fr : Fr) (d : Nat) (v : Value) : Fr := fun t => bif Nat.beq t d then v else fr t
def updO (fr : Fr) : Option Nat → Value → Fr
  | some d, v => upd fr d v
  | none, _ => fr
def ev (fr : Fr) : Operand → Value
  | .tmp t => fr t
  | .const v => v
  | .global g => .pointer (some ⟨g, 0, none⟩)
  | .func f => .func (.func f) #[] #[]
/-- What a branch knows of its condition. -/
def updC (fr : Fr) : Operand → Bool → Fr
  | .tmp t, b => upd fr t (.bool b)
  | _, _ => fr
theorem upd_self {fr : Fr} {d : Nat} {v : Value} (h : fr d = v) : upd fr d v = fr := by
  funext t
  unfold upd
  cases e : Nat.beq t d with
  | false => rfl
  | true => obtain rfl := Nat.eq_of_beq_eq_true e; exact h.symm

theorem updC_self {fr : Fr} {c : Operand} {b : Bool} (h : ev fr c = .bool b) : updC fr c b = fr := by
  cases c with
  | tmp t => exact upd_self h
  | _ => rfl

/-! ### heaps -/
def cellH (h : Hp) (a : Addr) : Option Value :=
  match h[a.block]? with
  | some (.cells c _ _) => if a.spot.isSome then none else c[a.off]?
  | _ => none
def frozenH (h : Hp) (a : Addr) : Bool :=
  match h[a.block]? with
  | some (.cells _ _ (lo, hi)) => lo ≤ a.off && a.off < hi
  | _ => false
def setH (h : Hp) (a : Addr) (v : Value) : Hp := h.modify a.block fun
      | .cells c elem frozen => .cells (if a.spot.isSome then c else c.setIfInBounds a.off v) elem frozen
      | o => o
theorem cell?_eq (w : World) (a : Addr) : w.cell? a = cellH w.heap a := rfl
theorem frozen?_eq (w : World) (a : Addr) : w.frozen? a = frozenH w.heap a := rfl
theorem setCell_heap (w : World) (a : Addr) (v : Value) : (w.setCell a v).heap = setH w.heap a v := rfl
/-- Store a list of cells from p + i on. -/
def stH (h : Hp) (p : Addr) : Nat → List Value → Hp
  | _, [] => h
  | i, v :: vs => stH (setH h (p.add i) v) p (i + 1) vs
/-- The cells from p + i on are there and read so. -/
def RdL (h : Hp) (p : Addr) : Nat → List Value → Prop
  | _, [] => True
  | i, v :: vs => cellH h (p.add i) = some v ∧ RdL h p (i + 1) vs
/-- The cells from p + i on are there and may be written. -/
def StL (h : Hp) (p : Addr) : Nat → Nat → Prop
  | _, 0 => True
  | i, n + 1 => ((∃ v, cellH h (p.add i) = some v) ∧ frozenH h (p.add i) = false) ∧ StL h p (i + 1) n

structure Same (w w' : World) : Prop where
  os : w'.os = w.os
  tape : w'.tape = w.tape
  output : w'.output = w.output
theorem Same.refl (w : World) : Same w w := ⟨rfl, rfl, rfl⟩
theorem Same.trans {a b c : World} (h : Same a b) (k : Same b c) : Same a c := ⟨k.os.trans h.os, k.tape.trans h.tape, k.output.trans h.output⟩

/-- A call of a Go function, by heaps. -/
def HCalls (P : Program) (f : FuncId) (args : Array Value) (h : Hp) (R : Value → Hp → Prop) : Prop :=
  ∀ w : World, w.heap = h → Calls P f args w fun e w' => ∃ v, e = .returned v ∧ Same w w' ∧ R v w'.heap
theorem HCalls.mono {P : Program} {f : FuncId} {args : Array Value} {h : Hp} {R R' : Value → Hp → Prop} (hc : HCalls P f args h R) (hr : ∀ v h', R v h' → R' v h') : HCalls P f args h R' :=
  fun w hw => (hc w hw).mono fun _ _ ⟨v, e, s, r⟩ => ⟨v, e, s, hr _ _ r⟩

/-! ### types -/
inductive Kd where
  | int (k : IntKind) | bool | str | slice | ptr
inductive Ty where
  | int (k : IntKind) | bool | str | slice (e : TypeId) | ptr (e : TypeId) | struct (fs : List (Nat × TypeId)) | tuple (ts : List TypeId)
structure TyI where
  ty : Ty
  leaves : List Kd
  bytes : Nat
inductive Fk where
  | body | quiet | add64 | sub64
def sub64Entry : Array Value → Sem Value := fun args => do
  let (x, y, b) ← Extern.MathBitsCarry.three "Sub64" args
  pure (Extern.MathBitsCarry.pair ((x + Extern.MathBitsCarry.m64 - y - b) % Extern.MathBitsCarry.m64) (if x < y + b then 1 else 0))
structure Env where
  types : List (Nat × TyI)
  fns : List (Nat × Fk)
  arrs : List (Nat × (Nat × TypeId)) := []
def look {α : Type} : List (Nat × α) → Nat → Option α
  | [], _ => none
  | (k, x) :: l, n => bif Nat.beq k n then some x else look l n
theorem look_mem {α : Type} {l : List (Nat × α)} {n : Nat} {x : α} (h : look l n = some x) : (n, x) ∈ l := by
  induction l with
  | nil => simp [look] at h
  | cons p l ih =>
    obtain ⟨k, y⟩ := p
    unfold look at h
    cases e : Nat.beq k n with
    | false => rw [e] at h; exact List.mem_cons_of_mem _ (ih h)
    | true =>
      obtain rfl := Nat.eq_of_beq_eq_true e
      rw [e] at h
      cases h
      exact List.mem_cons_self
def kEq : IntKind → IntKind → Bool
  | .i8, .i8 | .i16, .i16 | .i32, .i32 | .i64, .i64 | .u8, .u8 | .u16, .u16 | .u32, .u32 | .u64, .u64 => true
  | _, _ => false
theorem kEq_eq {j k : IntKind} (h : kEq j k = true) : j = k := by cases j <;> cases k <;> first | rfl | cases h
def Kd.zero : Kd → Value
  | .int k => .int k 0
  | .bool => .bool false
  | .str => .string ByteArray.empty
  | .slice => .slice none 0 0
  | .ptr => .pointer none
def zeroB : Kd → Value → Bool
  | .int k, .int k' n => kEq k k' && n == 0
  | .bool, .bool b => !b
  | .str, .string s => s.size == 0
  | .slice, .slice none 0 0 => true
  | .ptr, .pointer none => true
  | _, _ => false
theorem zeroB_eq {k : Kd} {v : Value} (h : zeroB k v = true) : v = k.zero := by
  cases k <;> cases v <;> simp only [zeroB, Bool.and_eq_true, Bool.false_eq_true] at h
  · obtain ⟨h1, h2⟩ := h
    rw [← kEq_eq h1]
    simp at h2
    simp [Kd.zero, h2]
  · simp at h; simp [Kd.zero, h]
  · rename_i s
    have : s = ByteArray.empty := by
      apply ByteArray.ext
      have h' : s.size = 0 := by simpa using h
      exact Array.eq_empty_of_size_eq_zero h'
    rw [this]; rfl
  · split at h <;> simp_all [Kd.zero]
  · split at h <;> simp_all [Kd.zero]
def zerosB : List Kd → List Value → Bool
  | [], [] => true
  | k :: ks, v :: vs => zeroB k v && zerosB ks vs
  | _, _ => false
theorem zerosB_eq : ∀ {ks : List Kd} {vs : List Value}, zerosB ks vs = true → vs = ks.map Kd.zero
  | [], [], _ => rfl
  | k :: ks, v :: vs, h => by
    simp only [zerosB, Bool.and_eq_true] at h
    rw [zeroB_eq h.1, zerosB_eq h.2]; rfl
  | [], _ :: _, h => by simp [zerosB] at h
  | _ :: _, [], h => by simp [zerosB] at h
def undB : Option TypeDesc → Ty → Bool
  | some (.int k), .int k' => kEq k k'
  | some .bool, .bool => true
  | some .string, .str => true
  | some (.slice e), .slice e' => Nat.beq e e'
  | some (.pointer e), .ptr e' => Nat.beq e e'
  | some (.struct fs), .struct fs' => decide (fs.toList.map (fun f => (f.offset, f.type)) = fs')
  | some (.tuple ts), .tuple ts' => decide (ts.toList = ts')
  | _, _ => false
def tyB (P : Program) (t : TypeId) (i : TyI) : Bool :=
  undB (P.underlying t) i.ty && match P.info? t with
    | some inf => Nat.beq inf.size i.leaves.length && Nat.beq inf.bytes i.bytes && match i.ty with
      | .tuple _ => true
      | _ => match inf.zero with
        | some z => zerosB i.leaves z.cells.toList
        | none => false
    | none => false
def fnB (P : Program) (f : FuncId) (k : Fk) : Bool :=
  match P.funcs[f]? with
  | some fn => match k with
    | .body | .quiet => fn.body.isSome && !(fn.name == "runtime.NumGoroutine")
    | .add64 | .sub64 => fn.body.isNone && !(fn.name == "runtime.NumGoroutine")
  | none => false
def arrB (P : Program) (t : TypeId) (p : Nat × TypeId) : Bool :=
  match P.underlying t with
  | some (.array n e) => Nat.beq n p.1 && Nat.beq e p.2
  | _ => false
def envB (P : Program) (E : Env) : Bool := ((E.types.all fun (t, i) => tyB P t i) && (E.fns.all fun (f, k) => fnB P f k)) && E.arrs.all fun (t, p) => arrB P t p

/-! ### looking into values -/
def gBool (v : Value) (K : Bool → Prop) : Prop := match v with | .bool b => K b | _ => False
def gInt (k : IntKind) (v : Value) (K : Int → Prop) : Prop := match v with | .int k' n => (bif kEq k k' then K n else False) | _ => False
def gStr (v : Value) (K : ByteArray → Prop) : Prop := match v with | .string s => K s | _ => False
def gSlice (v : Value) (K : Option Addr → Nat → Nat → Prop) : Prop := match v with | .slice a l c => K a l c | _ => False
def gPtrS (v : Value) (K : Addr → Prop) : Prop := match v with | .pointer (some q) => K q | _ => False
def gPtr (v : Value) (K : Option Addr → Prop) : Prop := match v with | .pointer a => K a | _ => False
def asLeaf : Kd → Value → (Value → Prop) → Prop
  | .int k, v, K => gInt k v fun n => K (.int k n)
  | .bool, v, K => gBool v fun b => K (.bool b)
  | .str, v, K => gStr v fun s => K (.string s)
  | .slice, v, K => gSlice v fun a l c => K (.slice a l c)
  | .ptr, v, K => gPtr v fun a => K (.pointer a)
def uncons (l : List Value) (K : Value → List Value → Prop) : Prop := match l with | v :: vs => K v vs | [] => False
def unnil (l : List Value) (K : Prop) : Prop := match l with | [] => K | _ => False
def asLeaves : List Kd → List Value → (List Value → Prop) → Prop
  | [], l, K => unnil l (K [])
  | k :: ks, l, K => uncons l fun v vs => asLeaf k v fun v' => asLeaves ks vs fun vs' => K (v' :: vs')
def gAgg (v : Value) (K : List Value → Prop) : Prop := match v with | .agg cs => K cs.toList | _ => False
def gTup (v : Value) (K : List Value → Prop) : Prop := match v with | .tuple cs => K cs.toList | _ => False
def asOne (i : TyI) (v : Value) (K : Value → Prop) : Prop :=
  match i.ty with
  | .struct _ => gAgg v fun l => asLeaves i.leaves l fun vs => K (.agg vs.toArray)
  | _ => match i.leaves with
    | [k] => asLeaf k v K
    | _ => False
def asParts (E : Env) : List TypeId → List Value → (List Value → Prop) → Prop
  | [], l, K => unnil l (K [])
  | t :: ts, l, K => uncons l fun v vs => match look E.types t with
    | some i => asOne i v fun v' => asParts E ts vs fun vs' => K (v' :: vs')
    | none => False
def asTy (E : Env) (t : TypeId) (v : Value) (K : Value → Prop) : Prop :=
  match look E.types t with
  | some i => match i.ty with
    | .tuple ts => gTup v fun l => asParts E ts l fun vs => K (.tuple vs.toArray)
    | _ => asOne i v K
  | none => False

/-! ### operations that leave the heap alone -/
def shlI (k : IntKind) (x y : Int) : Int := k.wrap (x * 2 ^ (min y.toNat k.bits))
def shrI (k : IntKind) (x y : Int) : Int := x.fdiv (2 ^ (min y.toNat k.bits))
def andI (k : IntKind) (x y : Int) : Int := k.wrap (BitVec.ofInt k.bits x &&& BitVec.ofInt k.bits y).toNat
def orI (k : IntKind) (x y : Int) : Int := k.wrap (BitVec.ofInt k.bits x ||| BitVec.ofInt k.bits y).toNat
def xorI (k : IntKind) (x y : Int) : Int := k.wrap (BitVec.ofInt k.bits x ^^^ BitVec.ofInt k.bits y).toNat
def andNotI (k : IntKind) (x y : Int) : Int := k.wrap (BitVec.ofInt k.bits x &&& ~~~(BitVec.ofInt k.bits y)).toNat
/-- A number under a name. -/
structure letK (n : Int) (K : Int → Prop) : Prop where
  out : K n
def dIntOp (op : BinOp) (k : IntKind) (a b : Int) (K : Value → Prop) : Prop :=
  match op with
  | .add => letK (k.wrap (a + b)) fun n => K (.int k n)
  | .sub => letK (k.wrap (a - b)) fun n => K (.int k n)
  | .mul => letK (k.wrap (a * b)) fun n => K (.int k n)
  | .quo => b ≠ 0 ∧ letK (k.wrap (a.tdiv b)) fun n => K (.int k n)
  | .rem => b ≠ 0 ∧ letK (a.tmod b) fun n => K (.int k n)
  | .and => letK (andI k a b) fun n => K (.int k n)
  | .or => letK (orI k a b) fun n => K (.int k n)
  | .xor => letK (xorI k a b) fun n => K (.int k n)
  | .andNot => letK (andNotI k a b) fun n => K (.int k n)
  | .eql => K (.bool (a == b))
  | .neq => K (.bool (a != b))
  | .lss => K (.bool (decide (a < b)))
  | .leq => K (.bool (decide (a ≤ b)))
  | .gtr => K (.bool (decide (a > b)))
  | .geq => K (.bool (decide (a ≥ b)))
  | _ => False
def dBin (E : Env) (op : BinOp) (t : TypeId) (x y : Value) (K : Value → Prop) : Prop :=
  match x, y with
  | .int k a, .int k' b =>
    match op with
    | .shl => 0 ≤ b ∧ letK (shlI k a b) fun n => K (.int k n)
    | .shr => 0 ≤ b ∧ letK (shrI k a b) fun n => K (.int k n)
    | op => bif kEq k k' then dIntOp op k a b K else False
  | .string a, .string b =>
    match op with
    | .add => (((a.size + b.size : Nat) : Int) ≤ 9223372036854775807) ∧ K (.string (a ++ b))
    | .eql => K (.bool (a.toList == b.toList))
    | .neq => K (.bool (!(a.toList == b.toList)))
    | _ => False
  | .bool a, .bool b =>
    match look E.types t with
    | some ⟨.bool, _, _⟩ => (match op with
      | .eql => K (.bool (a == b))
      | .neq => K (.bool (!(a == b)))
      | _ => False)
    | _ => False
  | .slice a _ _, .slice none _ _ =>
    match look E.types t with
    | some ⟨.slice _, _, _⟩ => (match op with
      | .eql => K (.bool a.isNone)
      | .neq => K (.bool (!a.isNone))
      | _ => False)
    | _ => False
  | _, _ => False
def notI (k : IntKind) (n : Int) : Int := xorI k (bif k.signed then -1 else k.max) n
def dUn (op : UnOp) (x : Value) (K : Value → Prop) : Prop :=
  match op, x with
  | .neg, .int k n => letK (k.wrap (0 - n)) fun n => K (.int k n)
  | .xor, .int k n => letK (notI k n) fun n => K (.int k n)
  | .not, .bool b => K (.bool (!b))
  | _, _ => False
def idxK (a : Option Addr) (l : Nat) (i : Int) (sz : Nat) (K : Addr → Prop) : Prop :=
  (0 ≤ i ∧ i < (l : Int)) ∧ match a with
    | some p => K (p.add (i.toNat * sz))
    | none => False
def idxS (s : ByteArray) (i : Int) (K : Int → Prop) : Prop :=
  0 ≤ i ∧ match s[i.toNat]? with
    | some b => K b.toNat
    | none => False
def ldK (h : Hp) (q : Addr) (K : Value → Prop) : Prop := match cellH h q with | some v => K v | none => False
def ldLs (h : Hp) (q : Addr) : Nat → List Kd → (List Value → Prop) → Prop
  | _, [], K => K []
  | i, k :: ks, K => ldK h (q.add i) fun v => asLeaf k v fun v' => ldLs h q (i + 1) ks fun vs => K (v' :: vs)
def ldT (i : TyI) (h : Hp) (q : Addr) (K : Value → Prop) : Prop :=
  match i.ty with
  | .struct _ => ldLs h q 0 i.leaves fun vs => K (.agg vs.toArray)
  | .tuple _ => False
  | _ => match i.leaves with
    | [k] => ldK h q fun v => asLeaf k v K
    | _ => False
def bnd (v : Option Value) (dflt y : Nat) (K : Nat → Prop) : Prop :=
  match v with
  | none => K dflt
  | some (.int _ i) => (0 ≤ i ∧ i ≤ (y : Int)) ∧ K i.toNat
  | _ => False
def subA (a : Option Addr) (m l sz : Nat) : Option Addr := if m = l then a else a.map (·.add (l * sz))
def slK (sz : Nat) (a : Option Addr) (len cap : Nat) (lo hi mx : Option Value) (K : Option Addr → Nat → Nat → Prop) : Prop :=
  match hi, mx with
  | none, some _ => False
  | _, _ => bnd mx cap cap fun m => bnd hi len m fun h => bnd lo 0 h fun l => K (subA a m l sz) (h - l) (m - l)
def slS (s : ByteArray) (lo hi : Option Value) (K : ByteArray → Prop) : Prop :=
  bnd hi s.size s.size fun h => bnd lo 0 h fun l => K (s.extract l h)
def setL (cells : List Value) (off : Nat) (vs : List Value) : List Value := cells.take off ++ (vs ++ cells.drop (off + vs.length))
def fillL (place : Nat → Option (Nat × Nat)) (cells : List Value) : List (Nat × Value) → Option (List Value)
  | [] => some cells
  | (i, v) :: rest =>
    match place i with
    | none => none
    | some (off, size) => bif Nat.beq v.cells.toList.length size && Nat.ble (off + v.cells.toList.length) cells.length then fillL place (setL cells off v.cells.toList) rest else none
def fieldPl (E : Env) (fs : List (Nat × TypeId)) (f : Nat) : Option (Nat × Nat) :=
  match fs[f]? with
  | some (off, t) => match look E.types t with
    | some i => some (off, i.leaves.length)
    | none => none
  | none => none
def placesOk (E : Env) : List (Nat × TypeId) → Bool
  | [] => true
  | (_, t) :: l => match look E.types t with
    | some _ => placesOk E l
    | none => false
def dMax : Value → List Value → (Value → Prop) → Prop
  | x, [], K => K x
  | .int k x, .int _ y :: rest, K => dMax (.int k (if y > x then y else x)) rest K
  | _, _, _ => False
def dMin : Value → List Value → (Value → Prop) → Prop
  | x, [], K => K x
  | .int k x, .int _ y :: rest, K => dMin (.int k (if y < x then y else x)) rest K
  | _, _, _ => False
def dLen (E : Env) (t : TypeId) (v : Value) (K : Value → Prop) : Prop :=
  match look E.types t, v with
  | some ⟨.slice _, _, _⟩, .slice _ n _ => K (.int .i64 (n : Int))
  | some ⟨.str, _, _⟩, .string s => K (.int .i64 (s.size : Int))
  | _, _ => False
def addK (x y z : Int) (K : Int → Int → Prop) : Prop := (0 ≤ x ∧ 0 ≤ y ∧ 0 ≤ z ∧ z ≤ 1) ∧ K ((x + y + z) % 18446744073709551616) ((x + y + z) / 18446744073709551616)
def subK (x y z : Int) (K : Int → Int → Prop) : Prop := (0 ≤ x ∧ 0 ≤ y ∧ 0 ≤ z ∧ z ≤ 1 ∧ y < 18446744073709551616) ∧ K ((x - y - z) % 18446744073709551616) (if x < y + z then 1 else 0)
def dCall (E : Env) (c : Call) (fr : Fr) (K : Value → Prop) : Prop :=
  match c.callee with
  | .builtin .len => (match c.args.toList, c.argTypes.toList with
    | x :: _, t :: _ => dLen E t (ev fr x) K
    | _, _ => False)
  | .builtin .max => (match c.args.toList.map (ev fr) with
    | x :: rest => dMax x rest K
    | [] => False)
  | .builtin .min => (match c.args.toList.map (ev fr) with
    | x :: rest => dMin x rest K
    | [] => False)
  | .value (.func f) => (match look E.fns f with
    | some .add64 => (match c.args.toList.map (ev fr) with
      | [.int .u64 x, .int .u64 y, .int .u64 z] => addK x y z fun s c => K (.tuple #[.int .u64 s, .int .u64 c])
      | _ => False)
    | some .sub64 => (match c.args.toList.map (ev fr) with
      | [.int .u64 x, .int .u64 y, .int .u64 z] => subK x y z fun s c => K (.tuple #[.int .u64 s, .int .u64 c])
      | _ => False)
    | _ => False)
  | _ => False
def dStill (E : Env) (op : Op) (fr : Fr) (h : Hp) (K : Value → Prop) : Prop :=
  match op with
  | .move x => K (ev fr x)
  | .assign x => K (ev fr x)
  | .pick c a b => (match ev fr c with
    | .bool t => cond t (K (ev fr a)) (K (ev fr b))
    | _ => False)
  | .load t a => (match ev fr a, look E.types t with
    | .pointer (some q), some i => ldT i h q K
    | _, _ => False)
  | .binOp op t x y _ => dBin E op t (ev fr x) (ev fr y) K
  | .unOp op _ x => dUn op (ev fr x) K
  | .convert s d x => (match look E.types s, look E.types d, ev fr x with
    | some ⟨.int _, _, _⟩, some ⟨.int k, _, _⟩, .int _ n => letK (k.wrap n) fun n => K (.int k n)
    | _, _, _ => False)
  | .indexAddr t x i => (match look E.types t, ev fr x, ev fr i with
    | some ⟨.slice e, _, _⟩, .slice a l _, .int _ n => (match look E.types e with
      | some ie => idxK a l n ie.leaves.length fun q => K (.pointer (some q))
      | none => False)
    | none, .pointer (some q), .int _ n => (match look E.arrs t with
      | some (m, e) => (match look E.types e with
        | some ie => idxK (some q) m n ie.leaves.length fun q => K (.pointer (some q))
        | none => False)
      | none => False)
    | _, _, _ => False)
  | .index t x i => (match look E.types t, ev fr x, ev fr i with
    | some ⟨.str, _, _⟩, .string s, .int _ n => idxS s n fun b => K (.int .u8 b)
    | _, _, _ => False)
  | .extract x i => (match ev fr x with
    | .tuple vs => (match vs.toList[i]? with
      | some v => K v
      | none => False)
    | _ => False)
  | .fieldAddr s x f => (match ev fr x, look E.types s with
    | .pointer (some q), some ⟨.struct fs, _, _⟩ => (match fs[f]? with
      | some (off, t) => (match look E.types t with
        | some i => bif Nat.beq i.leaves.length 0 then False else K (.pointer (some (q.add off)))
        | none => False)
      | none => False)
    | _, _ => False)
  | .field t x f => (match ev fr x, look E.types t with
    | .agg cs, some ⟨.struct fs, _, _⟩ => (match fs[f]? with
      | some (off, t') => (match look E.types t' with
        | some ⟨.struct _, ls, _⟩ => K (.agg ((cs.toList.drop off).take ls.length).toArray)
        | some ⟨.tuple _, _, _⟩ => False
        | some _ => (match cs.toList[off]? with
          | some v => K v
          | none => False)
        | none => False)
      | none => False)
    | _, _ => False)
  | .build t parts => (match look E.types t with
    | some ⟨.struct fs, ls, _⟩ => bif placesOk E fs then (match fillL (fieldPl E fs) (ls.map Kd.zero) (parts.toList.map fun (i, x) => (i, ev fr x)) with
      | some cells => K (.agg cells.toArray)
      | none => False) else False
    | _ => False)
  | .nilCheck x => (match ev fr x with
    | .pointer (some q) => K (.pointer (some q))
    | _ => False)
  | .slice t x lo hi mx => (match look E.types t, ev fr x with
    | some ⟨.slice e, _, _⟩, .slice a l c => (match look E.types e with
      | some ie => slK ie.leaves.length a l c (lo.map (ev fr)) (hi.map (ev fr)) (mx.map (ev fr)) fun a l c => K (.slice a l c)
      | none => False)
    | some ⟨.str, _, _⟩, .string s => (match mx with
      | none => slS s (lo.map (ev fr)) (hi.map (ev fr)) fun s => K (.string s)
      | some _ => False)
    | _, _ => False)
  | .call c => dCall E c fr K
  | _ => False

/-! ### operations that make or write memory, and calls -/
def zerosL (zs : List Value) : Nat → List Value
  | 0 => []
  | n + 1 => zs ++ zerosL zs n
def TyI.zs (i : TyI) : List Value := i.leaves.map Kd.zero
def boxK (h : Hp) (e : TypeId) (cells : List Value) (K : Addr → Hp → Prop) : Prop := K ⟨h.size, 0, none⟩ (h.push (.cells cells.toArray e (0, 0)))
def mkK (h : Hp) (e : TypeId) (i : TyI) (n m : Int) (K : Addr → Hp → Prop) : Prop :=
  (0 ≤ n ∧ n ≤ m ∧ 1 ≤ i.bytes ∧ (i.bytes : Int) * m ≤ 281474976710656) ∧
    K ⟨h.size, 0, none⟩ (h.push (.cells (zerosL i.zs m.toNat).toArray e (0, 0)))
def plainV : Value → Bool
  | .agg _ | .tuple _ => false
  | _ => true
def stK (h : Hp) (q : Addr) (v : Value) (K : Hp → Prop) : Prop :=
  ((∃ o, cellH h q = some o) ∧ frozenH h q = false) ∧ K (setH h q v)
def stLs (h : Hp) (q : Addr) : Nat → List Value → (Hp → Prop) → Prop
  | _, [], K => K h
  | i, v :: vs, K => bif plainV v then stK h (q.add i) v fun h' => stLs h' q (i + 1) vs K else False
def dStore (i : TyI) (h : Hp) (q : Addr) (v : Value) (K : Hp → Prop) : Prop :=
  match v with
  | .agg cs => bif Nat.beq cs.toList.length i.leaves.length then stLs h q 0 cs.toList K else False
  | .tuple _ => False
  | v => bif Nat.beq 1 i.leaves.length then stK h q v K else False
/-- What append and copy read: n elements of the source, in cells. -/
def SrcL (h : Hp) (sz : Nat) (x : Value) (n : Nat) (cs : List Value) : Prop :=
  cs.length = n * sz ∧ (∀ v ∈ cs, plainV v = true) ∧ match x with
    | .slice (some b) _ _ => RdL h b 0 cs
    | .slice none _ _ => cs = []
    | .string s => cs = (s.extract 0 n).data.toList.map fun b => .int .u8 b.toNat
    | _ => False
def lenV : Value → Option Nat
  | .slice _ n _ => some n
  | .string s => some s.size
  | _ => none
def apK (h : Hp) (e : TypeId) (i : TyI) (a : Option Addr) (l c : Nat) (x : Value) (K : Option Addr → Nat → Nat → Hp → Prop) : Prop :=
  ∃ n cs, lenV x = some n ∧ SrcL h i.leaves.length x n cs ∧
    (l + n ≤ c → match a with
      | some p => StL h (p.add (l * i.leaves.length)) 0 cs.length ∧ K a (l + n) c (stH h (p.add (l * i.leaves.length)) 0 cs)
      | none => K a (l + n) c h) ∧
    (¬ l + n ≤ c → Builtin.nextslicecap (l + n) c * i.bytes ≤ 281474976710656 ∧ 1 ≤ i.bytes ∧ l + n ≤ 9223372036854775807 ∧
      ∃ old, SrcL h i.leaves.length (.slice a l c) l old ∧
        ∀ nc, l + n ≤ nc → K (some ⟨h.size, 0, none⟩) (l + n) nc (h.push (.cells (old ++ (cs ++ zerosL i.zs (nc - (l + n)))).toArray e (0, 0))))
def cpK (h : Hp) (sz : Nat) (a : Option Addr) (l : Nat) (x : Value) (K : Int → Hp → Prop) : Prop :=
  ∃ n cs, lenV x = some n ∧ SrcL h sz x (Nat.min n l) cs ∧ match a with
    | some p => StL h p 0 cs.length ∧ K (Nat.min n l : Int) (stH h p 0 cs)
    | none => K (Nat.min n l : Int) h
def clK (h : Hp) (i : TyI) (a : Option Addr) (l : Nat) (K : Hp → Prop) : Prop :=
  match a, l with
  | none, _ => K h
  | some _, 0 => K h
  | some p, l + 1 => StL h p 0 ((l + 1) * i.leaves.length) ∧ K (stH h p 0 (zerosL i.zs (l + 1)))
/-- May a value of this type be appended? -/
def srcTy (E : Env) (t : TypeId) : Bool :=
  match look E.types t with
  | some ⟨.slice _, _, _⟩ => true
  | some ⟨.str, _, _⟩ => true
  | _ => false
def dAct (P : Program) (E : Env) (op : Op) (t0 : TypeId) (fr : Fr) (h : Hp) (K : Value → Hp → Prop) : Prop :=
  match op with
  | .store t x v => (match ev fr x, look E.types t with
    | .pointer (some q), some i => dStore i h q (ev fr v) (fun h' => K undef h')
    | _, _ => False)
  | .box e v => boxK h e (ev fr v).cells.toList fun p h' => K (.pointer (some p)) h'
  | .alloc e => (match look E.types e with
    | some ⟨.tuple _, _, _⟩ => False
    | some i => boxK h e i.zs fun p h' => K (.pointer (some p)) h'
    | none => False)
  | .makeSlice t l c => (match look E.types t, ev fr l, ev fr c with
    | some ⟨.slice e, _, _⟩, .int _ n, .int _ m => (match look E.types e with
      | some ⟨.tuple _, _, _⟩ => False
      | some i => mkK h e i n m fun p h' => K (.slice (some p) n.toNat m.toNat) h'
      | none => False)
    | _, _, _ => False)
  | .buildSlice t n parts => (match look E.types t with
    | some ⟨.slice e, _, _⟩ => (match look E.types e with
      | some ⟨.tuple _, _, _⟩ => False
      | some i => bif Nat.ble (n * i.leaves.length) 16777216 then (match fillL (fun j => some (j * i.leaves.length, i.leaves.length)) (zerosL i.zs n) (parts.toList.map fun (j, x) => (j, ev fr x)) with
        | some cells => boxK h e cells fun p h' => K (.slice (some p) n n) h'
        | none => False) else False
      | none => False)
    | _ => False)
  | .call c => (match c.callee with
    | .builtin .append => (match c.args.toList, c.argTypes.toList with
      | [s, x], [t, t'] => bif srcTy E t' then (match look E.types t, ev fr s with
        | some ⟨.slice e, _, _⟩, .slice a l cp => (match look E.types e with
          | some ⟨.tuple _, _, _⟩ => False
          | some i => apK h e i a l cp (ev fr x) fun a l c h' => K (.slice a l c) h'
          | none => False)
        | _, _ => False) else False
      | _, _ => False)
    | .builtin .copy => (match c.args.toList, c.argTypes.toList with
      | [d, x], t :: _ => (match look E.types t, ev fr d with
        | some ⟨.slice e, _, _⟩, .slice a l _ => (match look E.types e with
          | some ⟨.tuple _, _, _⟩ => False
          | some i => cpK h i.leaves.length a l (ev fr x) fun n h' => K (.int .i64 n) h'
          | none => False)
        | _, _ => False)
      | _, _ => False)
    | .builtin .clear => (match c.args.toList, c.argTypes.toList with
      | [d], [t] => (match look E.types t, ev fr d with
        | some ⟨.slice e, _, _⟩, .slice a l _ => (match look E.types e with
          | some ⟨.tuple _, _, _⟩ => False
          | some i => clK h i a l fun h' => K (.tuple #[]) h'
          | none => False)
        | _, _ => False)
      | _, _ => False)
    | .value (.func f) => (match look E.fns f with
      | some .body => HCalls P f (c.args.toList.map (ev fr)).toArray h fun v h' => asTy E t0 v fun v' => K v' h'
      | _ => False)
    | _ => False)
  | _ => False
/-- A call that leaves the heap as it was. -/
def HQ (P : Program) (f : FuncId) (args : Array Value) (h : Hp) (K : Value → Prop) : Prop := ∃ v, HCalls P f args h (fun v' h' => v' = v ∧ h' = h) ∧ K v
def dQuiet (P : Program) (E : Env) (op : Op) (t0 : TypeId) (fr : Fr) (h : Hp) (K : Value → Prop) : Prop :=
  match op with
  | .call c => (match c.callee with
    | .value (.func f) => HQ P f (c.args.toList.map (ev fr)).toArray h fun v => asTy E t0 v K
    | _ => False)
  | _ => False
/-- What kind of operation it is, as far as its place in an order goes. -/
inductive Cl where
  | pure | load | quiet | call | act
def clOf (E : Env) : Op → Cl
  | .load .. => .load
  | .move _ | .assign _ | .pick .. | .binOp .. | .unOp .. | .indexAddr .. | .index .. | .extract .. | .fieldAddr .. | .field .. | .build .. | .nilCheck _ | .slice .. | .convert .. => .pure
  | .call c => (match c.callee with
    | .builtin .len | .builtin .max | .builtin .min => .pure
    | .value (.func f) => (match look E.fns f with
      | some .add64 | some .sub64 => .pure
      | some .quiet => .quiet
      | _ => .call)
    | _ => .act)
  | .alloc _ | .box .. | .makeSlice .. | .buildSlice .. => .call
  | _ => .act
def Pre (n0 : Nat) (h h' : Hp) : Prop := ∀ b, b < n0 → h'[b]? = h[b]?
/-- In a region of the second mode a load reads what was there ahead of the region, and a call leaves that as it is. -/
def blkK (n0 : Nat) (x : Value) : Prop := match x with | .pointer (some q) => q.block < n0 | _ => False
def dOp (P : Program) (E : Env) (md : Bool) (n0 : Nat) (o : Oper) (fr : Fr) (h : Hp) (K : Value → Hp → Prop) : Prop :=
  match clOf E o.op with
  | .pure => dStill E o.op fr h (fun v => K v h)
  | .load => cond md (match o.op with
    | .load _ a => blkK n0 (ev fr a) ∧ dStill E o.op fr h (fun v => K v h)
    | _ => False) (dStill E o.op fr h (fun v => K v h))
  | .quiet => dQuiet P E o.op o.type fr h (fun v => K v h)
  | .call => cond md (dAct P E o.op o.type fr h fun v h' => Pre n0 h h' ∧ K v h') (dAct P E o.op o.type fr h K)
  | .act => dAct P E o.op o.type fr h K

/-! ### regions -/
def gTmp (all : List Oper) (j : Nat) : Option Nat := match all[j]? with | some o => o.dst | none => none
def dOps (P : Program) (E : Env) (md : Bool) (n0 : Nat) (all : List Oper) : List Oper → Fr → Hp → (Fr → Hp → Prop) → Prop
  | [], fr, h, K => K fr h
  | o :: rest, fr, h, K =>
    match o.guard with
    | none => dOp P E md n0 o fr h fun v h' => dOps P E md n0 all rest (updO fr o.dst v) h' K
    | some (j, want) =>
      match gTmp all j with
      | none => False
      | some t =>
        match fr t with
        | .bool b => cond b
            (cond want (dOp P E md n0 o (upd fr t (.bool true)) h fun v h' => dOps P E md n0 all rest (updO (upd fr t (.bool true)) o.dst v) h' K)
              (dOps P E md n0 all rest (updO (upd fr t (.bool true)) o.dst undef) h K))
            (cond want (dOps P E md n0 all rest (updO (upd fr t (.bool false)) o.dst undef) h K)
              (dOp P E md n0 o (upd fr t (.bool false)) h fun v h' => dOps P E md n0 all rest (updO (upd fr t (.bool false)) o.dst v) h' K))
        | .tuple _ => dOps P E md n0 all rest (updO fr o.dst undef) h K
        | _ => False
/-- May two operations that no edge holds be taken in either order? (a: ahead in the text.) -/
def comB (md : Bool) : Cl → Cl → Bool
  | .pure, _ | _, .pure => true
  | .load, .load | .quiet, .quiet => true
  | .load, .quiet | .quiet, .load => true
  | .load, .call | .call, .load => md
  | _, _ => false
def befOf (acc : List Nat) : List Edge → Nat
  | [] => 0
  | e :: l => bif Region.binds .any e then (2 ^ e.on ||| acc.getD e.on 0) ||| befOf acc l else befOf acc l
def befs (acc : List Nat) : List Oper → List Nat
  | [] => acc
  | o :: l => befs (acc ++ [befOf acc o.after.toList]) l
def edgesB (ops : List Oper) : Bool := (List.range ops.length).all fun i => match ops[i]? with
  | some o => o.after.toList.all fun e => !Region.binds .any e || Nat.blt e.on i
  | none => true
def pairB (E : Env) (md : Bool) (ops : List Oper) (bs : List Nat) (i j : Nat) : Bool :=
  match ops[i]?, ops[j]? with
  | some oi, some oj => (bs.getD i 0).testBit j || (oj.apart ops.toArray oi && comB md (clOf E oj.op) (clOf E oi.op))
  | _, _ => true
def comOk (E : Env) (md : Bool) (ops : List Oper) : Bool :=
  Region.noSelect ops.toArray && edgesB ops && (List.range ops.length).all fun i => (List.range i).all fun j => pairB E md ops (befs [] ops) i j
/-- The mode of a region: the second one where the first does not do. -/
def modeB (E : Env) (draw : Bool) (ops : List Oper) : Bool := draw && !comOk E false ops
/-! A region whose order is open in either mode: a tree of choices. An operation that hinders none of those that are left is taken at once; else all that may come next are asked for. -/
def openB (E : Env) (draw : Bool) (ops : List Oper) : Bool := draw && !comOk E false ops && !comOk E true ops
def rdyB (bs : List Nat) (todo : List Nat) (i : Nat) : Bool := todo.all fun j => !(bs.getD i 0).testBit j
def frontB (E : Env) (all : List Oper) (bs : List Nat) (todo : List Nat) (i : Nat) : Bool :=
  rdyB bs todo i && todo.all fun j => Nat.beq j i || (bs.getD j 0).testBit i || (match all[i]?, all[j]? with
    | some oi, some oj => oi.apart all.toArray oj && comB true (clOf E oi.op) (clOf E oj.op)
    | _, _ => false)
def del (todo : List Nat) (i : Nat) : List Nat := todo.filter fun j => !Nat.beq j i
def conjL (f : Nat → Prop) : List Nat → Prop
  | [] => True
  | [i] => f i
  | i :: j :: l => f i ∧ conjL f (j :: l)
def dAt (P : Program) (E : Env) (n0 : Nat) (all : List Oper) (i : Nat) (fr : Fr) (h : Hp) (K : Fr → Hp → Prop) : Prop :=
  match all[i]? with
  | some o => dOps P E true n0 all [o] fr h K
  | none => False
def dTr (P : Program) (E : Env) (n0 : Nat) (all : List Oper) (bs : List Nat) : Nat → List Nat → Fr → Hp → (Fr → Hp → Prop) → Prop
  | 0, _, fr, h, K => K fr h
  | n + 1, todo, fr, h, K => match todo.find? (frontB E all bs todo) with
    | some i => dAt P E n0 all i fr h fun fr h => dTr P E n0 all bs n (del todo i) fr h K
    | none => conjL (fun i => dAt P E n0 all i fr h fun fr h => dTr P E n0 all bs n (del todo i) fr h K) (todo.filter (rdyB bs todo))

/-! ### code -/
inductive Ex where
  | normal | exit (id : Nat) | ret
def Ex.then (next : Fr → Hp → Prop) (Q : Ex → Fr → Hp → Prop) : Ex → Fr → Hp → Prop
  | .normal => next
  | .exit id => Q (.exit id)
  | .ret => Q .ret
def Ex.inBlock (id : Nat) (Q : Ex → Fr → Hp → Prop) : Ex → Fr → Hp → Prop
  | .exit id' => bif Nat.beq id' id then Q .normal else Q (.exit id')
  | .normal => Q .normal
  | .ret => Q .ret
def iter (B : (Fr → Hp → Prop) → Fr → Hp → Prop) : Nat → Fr → Hp → Prop
  | 0 => fun _ _ => False
  | n + 1 => B (iter B n)
def den (P : Program) (E : Env) : Code → (Ex → Fr → Hp → Prop) → Fr → Hp → Prop
  | .skip, Q, fr, h => Q .normal fr h
  | .region _ ops draw, Q, fr, h => bif openB E draw ops.toList then dTr P E h.size ops.toList (befs [] ops.toList) ops.toList.length (List.range ops.toList.length) fr h (Q .normal)
      else dOps P E (modeB E draw ops.toList) h.size ops.toList ops.toList fr h (Q .normal)
  | .seq a b, Q, fr, h => den P E a (Ex.then (den P E b Q) Q) fr h
  | .cond c a b, Q, fr, h => match ev fr c with
    | .bool t => cond t (den P E a Q (updC fr c true) h) (den P E b Q (updC fr c false) h)
    | _ => False
  | .block id c, Q, fr, h => den P E c (Ex.inBlock id Q) fr h
  | .loop c, Q, fr, h => ∃ n, iter (fun N => den P E c (Ex.then N Q)) n fr h
  | .exit id, Q, fr, h => Q (.exit id) fr h
  | .ret, Q, fr, h => Q .ret fr h
  | .rangeFunc .., _, _, _ => False
  | .scope c, Q, fr, h => den P E c Q fr h
  | .label _, Q, fr, h => Q .normal fr h
  | .goto _, _, _, _ => False
  | .refuse _, _, _, _ => False
def initFr (args : List Value) : Fr := fun t => match args[t]? with | some v => v | none => undef
/-- What a function hands back. -/
def resK (E : Env) (fr : Fr) (h : Hp) : List ResultVar → (List Value → Prop) → Prop
  | [], K => K []
  | .tmp t :: l, K => resK E fr h l fun vs => K (fr t :: vs)
  | .cell a t :: l, K => match fr a, look E.types t with
    | .pointer (some q), some i => ldT i h q fun v => resK E fr h l fun vs => K (v :: vs)
    | _, _ => False
def mkRes : List Value → Value
  | [v] => v
  | vs => .tuple vs.toArray

/-! ### places in a body -/
def bodyOf (f : Func) : Code := match f.body with | some c => c | none => .skip
/-- false: the first part; true: the second. -/
def cAt : Code → List Bool → Code
  | c, [] => c
  | .seq a _, false :: p => cAt a p
  | .seq _ b, true :: p => cAt b p
  | .cond _ a _, false :: p => cAt a p
  | .cond _ _ b, true :: p => cAt b p
  | .block _ c, _ :: p => cAt c p
  | .loop c, _ :: p => cAt c p
  | .scope c, _ :: p => cAt c p
  | _, _ :: _ => .skip
def chainR : List Code → Code → Code
  | [], r => r
  | a :: l, r => .seq a (chainR l r)
def chainL : List Code → Code
  | [] => .skip
  | [a] => a
  | a :: l => .seq a (chainL l)

/-! ### what is asked of the text alone -/
def dstB (n : Nat) (o : Oper) : Bool := match o.dst with | some d => Nat.blt d n | none => true
def regB (_E : Env) (n : Nat) (ops : Array Oper) (draw : Bool) : Bool :=
  ops.toList.all (dstB n) && (!draw || (Region.noSelect ops.toList.toArray && edgesB ops.toList))
def codeB (E : Env) (n : Nat) : Code → Bool
  | .region _ ops draw => regB E n ops draw
  | .seq a b => codeB E n a && codeB E n b
  | .cond _ a b => codeB E n a && codeB E n b
  | .block _ c => codeB E n c
  | .loop c => codeB E n c
  | .scope c => codeB E n c
  | .skip | .exit _ | .ret | .label _ => true
  | _ => false
end Go.Gv
