import Derived.Orders
import Derived.Still
import Derived.Below
import Derived.KernelRfl
import Derived.Tactics
import Derived.Laws.Externs
import Derived.Laws.Append
import Derived.Laws.Slices
import Derived.Laws.Entries
import Derived.WalkSpells
import Derived.LoopN
import Derived.Scope
import Derived.Laws.Cells
namespace Go.Gv
abbrev U:=Option Addr
abbrev Fr:=Nat→Value
abbrev V:=Array Obj
def lV(X:Fr)(bH:Nat)(v:Value):Fr:=fun t=>bif Nat.beq t bH then v else X t
def nL(X:Fr):Option Nat→Value→Fr
 | some bH,v=>lV X bH v
 | none,_=>X
def cO(X:Fr):Operand→Value
 | .tmp t=>X t
 | .const v=>v
 | .global g=>.pointer (some ⟨g,0,none⟩)
 | .func a9=>.func (.func a9) #[] #[]
def zG(X:Fr):Operand→Bool→Fr
 | .tmp t,N=>lV X t (.bool N)
 | _,_=>X
theorem w3{X:Fr}{bH:Nat}{v:Value}(Z:X bH=v):lV X bH v=X:=by
 funext t
 unfold lV
 cases J:Nat.beq t bH with
 | false=>rfl
 | true=>obtain rfl:=Nat.eq_of_beq_eq_true J;exact Z.symm
theorem Bi{X:Fr}{L:Operand}{N:Bool}(Z:cO X L=.bool N):zG X L N=X:=by
 cases L with
 | tmp t=>exact w3 Z
 | _=>rfl
def fQ(Z:V)(a:Addr):Option Value:=
 match Z[a.block]? with
 | some (.cells L _ _)=>if a.spot.isSome then none else L[a.off]?
 | _=>none
def mB(Z:V)(a:Addr):Bool:=
 match Z[a.block]? with
 | some (.cells _ _ (c5,bE))=>c5≤a.off && a.off < bE
 | _=>false
def fY(Z:V)(a:Addr)(v:Value):V:=Z.modify a.block fun
   | .cells L b frozen=>.cells (if a.spot.isSome then L else L.setIfInBounds a.off v) b frozen
   | q=>q
theorem zH(aA:World)(a:Addr):aA.cell? a=fQ aA.heap a:=rfl
def iD(Z:V)(z:Addr):Nat→List Value→V
 | _,[]=>Z
 | Q,v :: bW=>iD (fY Z (z.add Q) v) z (Q+1) bW
def jX(Z:V)(z:Addr):Nat→List Value→Prop
 | _,[]=>True
 | Q,v :: bW=>fQ Z (z.add Q)=some v∧jX Z z (Q+1) bW
def o1(Z:V)(z:Addr):Nat→Nat→Prop
 | _,0=>True
 | Q,n+1=>((∃ v,fQ Z (z.add Q)=some v)∧mB Z (z.add Q)=false)∧o1 Z z (Q+1) n
structure fR(aA cV:World):Prop where
 os:cV.os=aA.os
 tape:cV.tape=aA.tape
 output:cV.output=aA.output
theorem fR.refl(aA:World):fR aA aA:=⟨rfl,rfl,rfl⟩
theorem fR.trans{a N L:World}(Z:fR a N)(M:fR N L):fR a L:=⟨M.os.trans Z.os,M.tape.trans Z.tape,M.output.trans Z.output⟩
def o2(P:Program)(a9:FuncId)(args:Array Value)(Z:V)(Y:Value→V→Prop):Prop:=
 ∀ aA:World,aA.heap=Z→Calls P a9 args aA fun J cV=>∃ v,J=.returned v∧fR aA cV∧Y v cV.heap
theorem o2.mono{P:Program}{a9:FuncId}{args:Array Value}{Z:V}{Y a:Value→V→Prop}(b:o2 P a9 args Z Y)(c:∀ v A,Y v A→a v A):o2 P a9 args Z a:=
 fun aA a=>(b aA a).mono fun _ _ ⟨v,J,O,s⟩=>⟨v,J,O,c _ _ s⟩
inductive hO where
 | int (M:IntKind) | bool | str | slice | ptr
inductive qU where
 | int (M:IntKind) | bool | str | slice (J:TypeId) | ptr (J:TypeId) | struct (eO:List (Nat × TypeId)) | tuple (jL:List TypeId)
structure dO where
 dW:qU
 leaves:List hO
 bytes:Nat
inductive rS where
 | body | quiet | qV | qW
def zI:Array Value→Sem Value:=fun args=>do
 let (I,aN,N) ← Extern.MathBitsCarry.three "Sub64" args
 pure (Extern.MathBitsCarry.pair ((I+Extern.MathBitsCarry.m64 - aN - N) % Extern.MathBitsCarry.m64) (if I < aN+N then 1 else 0))
structure Env where
 types:List (Nat × dO)
 pW:List (Nat × rS)
 zJ:List (Nat × (Nat × TypeId)):=[]
def look{dC:Type}:List (Nat × dC)→Nat→Option dC
 | [],_=>none
 | (M,I) :: l,n=>bif Nat.beq M n then some I else look l n
theorem w4{dC:Type}{l:List (Nat × dC)}{n:Nat}{I:dC}(Z:look l n=some I):(n,I) ∈ l:=by
 induction l with
 | nil=>simp [look] at Z
 | cons z l a=>
  obtain⟨M,aN⟩:=z
  unfold look at Z
  cases J:Nat.beq M n with
  | false=>rw [J] at Z;exact List.mem_cons_of_mem _ (a Z)
  | true=>
   obtain rfl:=Nat.eq_of_beq_eq_true J
   rw [J] at Z
   cases Z
   exact List.mem_cons_self
def qX:IntKind→IntKind→Bool
 | .i8,.i8 | .i16,.i16 | .i32,.i32 | .i64,.i64 | .u8,.u8 | .u16,.u16 | .u32,.u32 | .u64,.u64=>true
 | _,_=>false
theorem w5{C M:IntKind}(Z:qX C M=true):C=M:=by cases C <;> cases M <;> first | rfl | cases Z
def hO.zero:hO→Value
 | .int M=>.int M 0
 | .bool=>.bool false
 | .str=>.string ByteArray.empty
 | .slice=>.slice none 0 0
 | .ptr=>.pointer none
def zK:hO→Value→Bool
 | .int M,.int eA n=>qX M eA && n == 0
 | .bool,.bool N=>!N
 | .str,.string O=>O.size == 0
 | .slice,.slice none 0 0=>true
 | .ptr,.pointer none=>true
 | _,_=>false
theorem El{M:hO}{v:Value}(Z:zK M v=true):v=M.zero:=by
 cases M <;> cases v <;> simp only [zK,Bool.and_eq_true,Bool.false_eq_true] at Z
 ·obtain⟨a0,a⟩:=Z
  rw [← w5 a0]
  simp at a
  simp [hO.zero,a]
 ·simp at Z;simp [hO.zero,Z]
 ·rename_i O
  have:O=ByteArray.empty:=by
   apply ByteArray.ext
   have A:O.size=0:=by simpa using Z
   exact Array.eq_empty_of_size_eq_zero A
  rw [this];rfl
 ·split at Z <;> simp_all [hO.zero]
 ·split at Z <;> simp_all [hO.zero]
def uJ:List hO→List Value→Bool
 | [],[]=>true
 | M :: a,v :: bW=>zK M v && uJ a bW
 | _,_=>false
theorem Bj:∀ {a:List hO} {bW:List Value},uJ a bW=true→bW=a.map hO.zero
 | [],[],_=>rfl
 | M :: a,v :: bW,Z=>by
  simp only [uJ,Bool.and_eq_true] at Z
  rw [El Z.1,Bj Z.2];rfl
 | [],_ :: _,Z=>by simp [uJ] at Z
 | _ :: _,[],Z=>by simp [uJ] at Z
def pX:Option TypeDesc→qU→Bool
 | some (.int M),.int eA=>qX M eA
 | some .bool,.bool=>true
 | some .string,.str=>true
 | some (.slice J),.slice a=>Nat.beq J a
 | some (.pointer J),.ptr a=>Nat.beq J a
 | some (.struct eO),.struct a=>decide (eO.toList.map (fun a9=>(a9.offset,a9.type))=a)
 | some (.tuple jL),.tuple a=>decide (jL.toList=a)
 | _,_=>false
def k7(P:Program)(t:TypeId)(Q:dO):Bool:=
 pX (P.underlying t) Q.dW && match P.info? t with
  | some a=>Nat.beq a.size Q.leaves.length && Nat.beq a.bytes Q.bytes && match Q.dW with
   | .tuple _=>true
   | _=>match a.zero with
    | some b3=>uJ Q.leaves b3.cells.toList
    | none=>false
  | none=>false
def zL(P:Program)(a9:FuncId)(M:rS):Bool:=
 match P.funcs[a9]? with
 | some fn=>match M with
  | .body | .quiet=>fn.body.isSome && !(fn.name == "runtime.NumGoroutine")
  | .qV | .qW=>fn.body.isNone && !(fn.name == "runtime.NumGoroutine")
 | none=>false
def Bk(P:Program)(t:TypeId)(z:Nat × TypeId):Bool:=
 match P.underlying t with
 | some (.array n J)=>Nat.beq n z.1 && Nat.beq J z.2
 | _=>false
def Bl(P:Program)(E:Env):Bool:=((E.types.all fun (t,Q)=>k7 P t Q) && (E.pW.all fun (a9,M)=>zL P a9 M)) && E.zJ.all fun (t,z)=>Bk P t z
def b9(v:Value)(p:Bool→Prop):Prop:=match v with | .bool N=>p N | _=>False
def aV(M:IntKind)(v:Value)(p:Int→Prop):Prop:=match v with | .int eA n=>(bif qX M eA then p n else False) | _=>False
def w6(v:Value)(p:ByteArray→Prop):Prop:=match v with | .string O=>p O | _=>False
def aG(v:Value)(p:U→Nat→Nat→Prop):Prop:=match v with | .slice a l L=>p a l L | _=>False
def cJ(v:Value)(p:Addr→Prop):Prop:=match v with | .pointer (some o)=>p o | _=>False
def w7(v:Value)(p:U→Prop):Prop:=match v with | .pointer a=>p a | _=>False
def s0:hO→Value→(Value→Prop)→Prop
 | .int M,v,p=>aV M v fun n=>p (.int M n)
 | .bool,v,p=>b9 v fun N=>p (.bool N)
 | .str,v,p=>w6 v fun O=>p (.string O)
 | .slice,v,p=>aG v fun a l L=>p (.slice a l L)
 | .ptr,v,p=>w7 v fun a=>p (.pointer a)
def bR(l:List Value)(p:Value→List Value→Prop):Prop:=match l with | v :: bW=>p v bW | []=>False
def bC(l:List Value)(p:Prop):Prop:=match l with | []=>p | _=>False
def vR:List hO→List Value→(List Value→Prop)→Prop
 | [],l,p=>bC l (p [])
 | M :: a,l,p=>bR l fun v bW=>s0 M v fun b=>vR a bW fun a=>p (b :: a)
def bU(v:Value)(p:List Value→Prop):Prop:=match v with | .agg cQ=>p cQ.toList | _=>False
def c0(v:Value)(p:List Value→Prop):Prop:=match v with | .tuple cQ=>p cQ.toList | _=>False
def s3(Q:dO)(v:Value)(p:Value→Prop):Prop:=
 match Q.dW with
 | .struct _=>bU v fun l=>vR Q.leaves l fun bW=>p (.agg bW.toArray)
 | _=>match Q.leaves with
  | [M]=>s0 M v p
  | _=>False
def uK(E:Env):List TypeId→List Value→(List Value→Prop)→Prop
 | [],l,p=>bC l (p [])
 | t :: jL,l,p=>bR l fun v bW=>match look E.types t with
  | some Q=>s3 Q v fun a=>uK E jL bW fun b=>p (a :: b)
  | none=>False
def s4(E:Env)(t:TypeId)(v:Value)(p:Value→Prop):Prop:=
 match look E.types t with
 | some Q=>match Q.dW with
  | .tuple jL=>c0 v fun l=>uK E jL l fun bW=>p (.tuple bW.toArray)
  | _=>s3 Q v p
 | none=>p v
def jM(M:IntKind)(I aN:Int):Int:=M.wrap (I*2 ^ (min aN.toNat M.bits))
def gL(M:IntKind)(I aN:Int):Int:=I.fdiv (2 ^ (min aN.toNat M.bits))
def iG(M:IntKind)(I aN:Int):Int:=M.wrap (BitVec.ofInt M.bits I &&& BitVec.ofInt M.bits aN).toNat
def uL(M:IntKind)(I aN:Int):Int:=M.wrap (BitVec.ofInt M.bits I ||| BitVec.ofInt M.bits aN).toNat
def Bm(M:IntKind)(I aN:Int):Int:=M.wrap (BitVec.ofInt M.bits I ^^^ BitVec.ofInt M.bits aN).toNat
def Em(M:IntKind)(I aN:Int):Int:=M.wrap (BitVec.ofInt M.bits I &&& ~~~(BitVec.ofInt M.bits aN)).toNat
structure a2(n:Int)(p:Int→Prop):Prop where
 out:p n
def w8(op:BinOp)(M:IntKind)(a N:Int)(p:Value→Prop):Prop:=
 match op with
 | .add=>a2 (M.wrap (a+N)) fun n=>p (.int M n)
 | .sub=>a2 (M.wrap (a - N)) fun n=>p (.int M n)
 | .mul=>a2 (M.wrap (a*N)) fun n=>p (.int M n)
 | .quo=>N ≠ 0∧a2 (M.wrap (a.tdiv N)) fun n=>p (.int M n)
 | .rem=>N ≠ 0∧a2 (a.tmod N) fun n=>p (.int M n)
 | .and=>a2 (iG M a N) fun n=>p (.int M n)
 | .or=>a2 (uL M a N) fun n=>p (.int M n)
 | .xor=>a2 (Bm M a N) fun n=>p (.int M n)
 | .andNot=>a2 (Em M a N) fun n=>p (.int M n)
 | .eql=>p (.bool (a == N))
 | .neq=>p (.bool (a != N))
 | .lss=>p (.bool (decide (a < N)))
 | .leq=>p (.bool (decide (a≤N)))
 | .gtr=>p (.bool (decide (a > N)))
 | .geq=>p (.bool (decide (a≥N)))
 | _=>False
def uM(E:Env)(op:BinOp)(t:TypeId)(I aN:Value)(p:Value→Prop):Prop:=
 match I,aN with
 | .int M a,.int eA N=>
  match op with
  | .shl=>0≤N∧a2 (jM M a N) fun n=>p (.int M n)
  | .shr=>0≤N∧a2 (gL M a N) fun n=>p (.int M n)
  | op=>bif qX M eA then w8 op M a N p else False
 | .string a,.string N=>
  match op with
  | .add=>(((a.size+N.size:Nat):Int)≤9223372036854775807)∧p (.string (a ++ N))
  | .eql=>p (.bool (a.toList == N.toList))
  | .neq=>p (.bool (!(a.toList == N.toList)))
  | _=>False
 | .bool a,.bool N=>
  match look E.types t with
  | some ⟨.bool,_,_⟩=>(match op with
   | .eql=>p (.bool (a == N))
   | .neq=>p (.bool (!(a == N)))
   | _=>False)
  | _=>False
 | .slice a _ _,.slice none _ _=>
  match look E.types t with
  | some ⟨.slice _,_,_⟩=>(match op with
   | .eql=>p (.bool a.isNone)
   | .neq=>p (.bool (!a.isNone))
   | _=>False)
  | _=>False
 | _,_=>False
def uN(M:IntKind)(n:Int):Int:=Bm M (bif M.signed then -1 else M.max) n
def uO(op:UnOp)(I:Value)(p:Value→Prop):Prop:=
 match op,I with
 | .neg,.int M n=>a2 (M.wrap (0 - n)) fun n=>p (.int M n)
 | .xor,.int M n=>a2 (uN M n) fun n=>p (.int M n)
 | .not,.bool N=>p (.bool (!N))
 | _,_=>False
def cL(a:U)(l:Nat)(Q:Int)(eZ:Nat)(p:Addr→Prop):Prop:=
 (0≤Q∧Q < (l:Int))∧match a with
  | some z=>p (z.add (Q.toNat*eZ))
  | none=>False
def vS(O:ByteArray)(Q:Int)(p:Int→Prop):Prop:=
 0≤Q∧match O[Q.toNat]? with
  | some N=>p N.toNat
  | none=>False
def e7(Z:V)(o:Addr)(p:Value→Prop):Prop:=match fQ Z o with | some v=>p v | none=>False
def uP(Z:V)(o:Addr):Nat→List hO→(List Value→Prop)→Prop
 | _,[],p=>p []
 | Q,M :: a,p=>e7 Z (o.add Q) fun v=>s0 M v fun b=>uP Z o (Q+1) a fun bW=>p (b :: bW)
def uQ(Q:dO)(Z:V)(o:Addr)(p:Value→Prop):Prop:=
 match Q.dW with
 | .struct _=>uP Z o 0 Q.leaves fun bW=>p (.agg bW.toArray)
 | .tuple _=>False
 | _=>match Q.leaves with
  | [M]=>e7 Z o fun v=>s0 M v p
  | _=>False
def pY(v:Option Value)(a aN:Nat)(p:Nat→Prop):Prop:=
 match v with
 | none=>p a
 | some (.int _ Q)=>(0≤Q∧Q≤(aN:Int))∧p Q.toNat
 | _=>False
def iP(a:U)(m l eZ:Nat):U:=if m=l then a else a.map (·.add (l*eZ))
def h7(eZ:Nat)(a:U)(len cap:Nat)(c5 bE b:Option Value)(p:U→Nat→Nat→Prop):Prop:=
 match bE,b with
 | none,some _=>False
 | _,_=>pY b cap cap fun m=>pY bE len m fun Z=>pY c5 0 Z fun l=>p (iP a m l eZ) (Z - l) (m - l)
def vT(O:ByteArray)(c5 bE:Option Value)(p:ByteArray→Prop):Prop:=
 pY bE O.size O.size fun Z=>pY c5 0 Z fun l=>p (O.extract l Z)
def zM(a:List Value)(off:Nat)(bW:List Value):List Value:=a.take off ++ (bW ++ a.drop (off+bW.length))
def uR(a:Nat→Option (Nat × Nat))(b:List Value):List (Nat × Value)→Option (List Value)
 | []=>some b
 | (Q,v) :: rest=>
  match a Q with
  | none=>none
  | some (off,size)=>bif Nat.beq v.cells.toList.length size && Nat.ble (off+v.cells.toList.length) b.length then uR a (zM b off v.cells.toList) rest else none
def zN(E:Env)(eO:List (Nat × TypeId))(a9:Nat):Option (Nat × Nat):=
 match eO[a9]? with
 | some (off,t)=>match look E.types t with
  | some Q=>some (off,Q.leaves.length)
  | none=>none
 | none=>none
def uS(E:Env):List (Nat × TypeId)→Bool
 | []=>true
 | (_,t) :: l=>match look E.types t with
  | some _=>uS E l
  | none=>false
def nM:Value→List Value→(Value→Prop)→Prop
 | I,[],p=>p I
 | .int M I,.int _ aN :: rest,p=>nM (.int M (if aN > I then aN else I)) rest p
 | _,_,_=>False
def nN:Value→List Value→(Value→Prop)→Prop
 | I,[],p=>p I
 | .int M I,.int _ aN :: rest,p=>nN (.int M (if aN < I then aN else I)) rest p
 | _,_,_=>False
def vU(E:Env)(t:TypeId)(v:Value)(p:Value→Prop):Prop:=
 match look E.types t,v with
 | some ⟨.slice _,_,_⟩,.slice _ n _=>p (.int .i64 (n:Int))
 | some ⟨.str,_,_⟩,.string O=>p (.int .i64 (O.size:Int))
 | _,_=>False
def o3(I aN b3:Int)(p:Int→Int→Prop):Prop:=(0≤I∧0≤aN∧0≤b3∧b3≤1)∧p ((I+aN+b3) % 18446744073709551616) ((I+aN+b3) / 18446744073709551616)
def rT(I aN b3:Int)(p:Int→Int→Prop):Prop:=(0≤I∧0≤aN∧0≤b3∧b3≤1∧aN < 18446744073709551616)∧p ((I - aN - b3) % 18446744073709551616) (if I < aN+b3 then 1 else 0)
def uT(E:Env)(L:Call)(X:Fr)(p:Value→Prop):Prop:=
 match L.callee with
 | .builtin .len=>(match L.args.toList,L.argTypes.toList with
  | I :: _,t :: _=>vU E t (cO X I) p
  | _,_=>False)
 | .builtin .max=>(match L.args.toList.map (cO X) with
  | I :: rest=>nM I rest p
  | []=>False)
 | .builtin .min=>(match L.args.toList.map (cO X) with
  | I :: rest=>nN I rest p
  | []=>False)
 | .value (.func a9)=>(match look E.pW a9 with
  | some .qV=>(match L.args.toList.map (cO X) with
   | [.int .u64 I,.int .u64 aN,.int .u64 b3]=>o3 I aN b3 fun O L=>p (.tuple #[.int .u64 O,.int .u64 L])
   | _=>False)
  | some .qW=>(match L.args.toList.map (cO X) with
   | [.int .u64 I,.int .u64 aN,.int .u64 b3]=>rT I aN b3 fun O L=>p (.tuple #[.int .u64 O,.int .u64 L])
   | _=>False)
  | _=>False)
 | _=>False
def hZ(E:Env)(op:Op)(X:Fr)(Z:V)(p:Value→Prop):Prop:=
 match op with
 | .move I=>p (cO X I)
 | .assign I=>p (cO X I)
 | .pick L a N=>(match cO X L with
  | .bool t=>cond t (p (cO X a)) (p (cO X N))
  | _=>False)
 | .load t a=>(match cO X a,look E.types t with
  | .pointer (some o),some Q=>uQ Q Z o p
  | _,_=>False)
 | .binOp op t I aN _=>uM E op t (cO X I) (cO X aN) p
 | .unOp op _ I=>uO op (cO X I) p
 | .convert O bH I=>(match look E.types O,look E.types bH,cO X I with
  | some ⟨.int _,_,_⟩,some ⟨.int M,_,_⟩,.int _ n=>a2 (M.wrap n) fun n=>p (.int M n)
  | _,_,_=>False)
 | .indexAddr t I Q=>(match look E.types t,cO X I,cO X Q with
  | some ⟨.slice J,_,_⟩,.slice a l _,.int _ n=>(match look E.types J with
   | some b=>cL a l n b.leaves.length fun o=>p (.pointer (some o))
   | none=>False)
  | none,.pointer (some o),.int _ n=>(match look E.zJ t with
   | some (m,J)=>(match look E.types J with
    | some b=>cL (some o) m n b.leaves.length fun o=>p (.pointer (some o))
    | none=>False)
   | none=>False)
  | _,_,_=>False)
 | .index t I Q=>(match look E.types t,cO X I,cO X Q with
  | some ⟨.str,_,_⟩,.string O,.int _ n=>vS O n fun N=>p (.int .u8 N)
  | _,_,_=>False)
 | .extract I Q=>(match cO X I with
  | .tuple bW=>(match bW.toList[Q]? with
   | some v=>p v
   | none=>False)
  | _=>False)
 | .fieldAddr O I a9=>(match cO X I,look E.types O with
  | .pointer (some o),some ⟨.struct eO,_,_⟩=>(match eO[a9]? with
   | some (off,t)=>(match look E.types t with
    | some Q=>bif Nat.beq Q.leaves.length 0 then False else p (.pointer (some (o.add off)))
    | none=>False)
   | none=>False)
  | _,_=>False)
 | .field t I a9=>(match cO X I,look E.types t with
  | .agg cQ,some ⟨.struct eO,_,_⟩=>(match eO[a9]? with
   | some (off,c)=>(match look E.types c with
    | some ⟨.struct _,fS,_⟩=>p (.agg ((cQ.toList.drop off).take fS.length).toArray)
    | some ⟨.tuple _,_,_⟩=>False
    | some _=>(match cQ.toList[off]? with
     | some v=>p v
     | none=>False)
    | none=>False)
   | none=>False)
  | _,_=>False)
 | .build t c=>(match look E.types t with
  | some ⟨.struct eO,fS,_⟩=>bif uS E eO then(match uR (zN E eO) (fS.map hO.zero) (c.toList.map fun (Q,I)=>(Q,cO X I)) with
   | some c=>p (.agg c.toArray)
   | none=>False) else False
  | _=>False)
 | .nilCheck I=>(match cO X I with
  | .pointer (some o)=>p (.pointer (some o))
  | _=>False)
 | .slice t I c5 bE c=>(match look E.types t,cO X I with
  | some ⟨.slice J,_,_⟩,.slice a l L=>(match look E.types J with
   | some b=>h7 b.leaves.length a l L (c5.map (cO X)) (bE.map (cO X)) (c.map (cO X)) fun a l L=>p (.slice a l L)
   | none=>False)
  | some ⟨.str,_,_⟩,.string O=>(match c with
   | none=>vT O (c5.map (cO X)) (bE.map (cO X)) fun O=>p (.string O)
   | some _=>False)
  | _,_=>False)
 | .call L=>uT E L X p
 | _=>False
def hT(aK:List Value):Nat→List Value
 | 0=>[]
 | n+1=>aK ++ hT aK n
def dO.aK(Q:dO):List Value:=Q.leaves.map hO.zero
def b4(Z:V)(J:TypeId)(a:List Value)(p:Addr→V→Prop):Prop:=p ⟨Z.size,0,none⟩ (Z.push (.cells a.toArray J (0,0)))
def h8(Z:V)(J:TypeId)(Q:dO)(n m:Int)(p:Addr→V→Prop):Prop:=
 (0≤n∧n≤m∧1≤Q.bytes∧(Q.bytes:Int)*m≤281474976710656)∧
  p ⟨Z.size,0,none⟩ (Z.push (.cells (hT Q.aK m.toNat).toArray J (0,0)))
def nO:Value→Bool
 | .agg _ | .tuple _=>false
 | _=>true
def aW(Z:V)(o:Addr)(v:Value)(p:V→Prop):Prop:=
 ((∃ q,fQ Z o=some q)∧mB Z o=false)∧p (fY Z o v)
def s5(Z:V)(o:Addr):Nat→List Value→(V→Prop)→Prop
 | _,[],p=>p Z
 | Q,v :: bW,p=>bif nO v then aW Z (o.add Q) v fun A=>s5 A o (Q+1) bW p else False
def uU(Q:dO)(Z:V)(o:Addr)(v:Value)(p:V→Prop):Prop:=
 match v with
 | .agg cQ=>bif Nat.beq cQ.toList.length Q.leaves.length then s5 Z o 0 cQ.toList p else False
 | .tuple _=>False
 | v=>bif Nat.beq 1 Q.leaves.length then aW Z o v p else False
def vV(Z:V)(eZ:Nat)(I:Value)(n:Nat)(cQ:List Value):Prop:=
 cQ.length=n*eZ∧(∀ v ∈ cQ,nO v=true)∧match I with
  | .slice (some N) _ _=>jX Z N 0 cQ
  | .slice none _ _=>cQ=[]
  | .string O=>cQ=(O.extract 0 n).data.toList.map fun N=>.int .u8 N.toNat
  | _=>False
def w9:Value→Option Nat
 | .slice _ n _=>some n
 | .string O=>some O.size
 | _=>none
def gW(Z:V)(J:TypeId)(Q:dO)(a:U)(l L:Nat)(I:Value)(p:U→Nat→Nat→V→Prop):Prop:=
 ∃ n cQ,w9 I=some n∧vV Z Q.leaves.length I n cQ∧
  (l+n≤L→match a with
   | some z=>o1 Z (z.add (l*Q.leaves.length)) 0 cQ.length∧p a (l+n) L (iD Z (z.add (l*Q.leaves.length)) 0 cQ)
   | none=>p a (l+n) L Z)∧
  (¬ l+n≤L→Builtin.nextslicecap (l+n) L*Q.bytes≤281474976710656∧1≤Q.bytes∧l+n≤9223372036854775807∧
   ∃ qY,vV Z Q.leaves.length (.slice a l L) l qY∧
    ∀ b,l+n≤b→p (some ⟨Z.size,0,none⟩) (l+n) b (Z.push (.cells (qY ++ (cQ ++ hT Q.aK (b - (l+n)))).toArray J (0,0))))
def mW(Z:V)(eZ:Nat)(a:U)(l:Nat)(I:Value)(p:Int→V→Prop):Prop:=
 ∃ n cQ,w9 I=some n∧vV Z eZ I (Nat.min n l) cQ∧match a with
  | some z=>o1 Z z 0 cQ.length∧p (Nat.min n l:Int) (iD Z z 0 cQ)
  | none=>p (Nat.min n l:Int) Z
def xA(Z:V)(Q:dO)(a:U)(l:Nat)(p:V→Prop):Prop:=
 match a,l with
 | none,_=>p Z
 | some _,0=>p Z
 | some z,l+1=>o1 Z z 0 ((l+1)*Q.leaves.length)∧p (iD Z z 0 (hT Q.aK (l+1)))
def uV(E:Env)(t:TypeId):Bool:=
 match look E.types t with
 | some ⟨.slice _,_,_⟩=>true
 | some ⟨.str,_,_⟩=>true
 | _=>false
def En(Z:V)(O:ByteArray)(p:Addr→V→Prop):Prop:=p ⟨Z.size,0,none⟩ (Z.push (.stringIter O 0))
def Bn(Z:V)(N:Nat)(O:ByteArray)(a:Nat):V:=Z.setIfInBounds N (.stringIter O a)
def xB(Z:V)(o:Addr)(a:Int→Int→V→Prop)(b:Prop):Prop:=
 o.off=0∧∃ O c,Z[o.block]?=some (.stringIter O c)∧(c < O.size→a (c:Int) ((Utf8.decode O c).1:Int) (Bn Z o.block O (c+(Utf8.decode O c).2)))∧(¬ c < O.size→b)
def xC(Z:V)(a:U)(l:Nat)(p:ByteArray→Prop):Prop:=
 match a with
 | none=>p ByteArray.empty
 | some z=>∃ b:List UInt8,b.length=l∧jX Z z 0 (b.map fun N=>.int .u8 N.toNat)∧p ⟨b.toArray⟩
def jA(P:Program)(E:Env)(op:Op)(kV:TypeId)(X:Fr)(Z:V)(p:Value→V→Prop):Prop:=
 match op with
 | .range t I=>(match look E.types t,cO X I with
  | some ⟨.str,_,_⟩,.string O=>En Z O fun z A=>p (.pointer (some z)) A
  | _,_=>False)
 | .next b N=>cond N (match cO X b with
  | .pointer (some o)=>xB Z o (fun Q L A=>p (.tuple #[.bool true,.int .i64 Q,.int .i32 L]) A) (p (.tuple #[.bool false]) Z)
  | _=>False) False
 | .convert O bH I=>(match look E.types O,look E.types bH,cO X I with
  | some ⟨.slice J,_,_⟩,some ⟨.str,_,_⟩,.slice a l _=>(match look E.types J with
   | some ⟨.int .u8,_,_⟩=>xC Z a l fun t=>p (.string t) Z
   | _=>False)
  | _,_,_=>False)
 | .store t I v=>(match cO X I,look E.types t with
  | .pointer (some o),some Q=>uU Q Z o (cO X v) (fun A=>p undef A)
  | _,_=>False)
 | .box J v=>b4 Z J (cO X v).cells.toList fun z A=>p (.pointer (some z)) A
 | .alloc J=>(match look E.types J with
  | some ⟨.tuple _,_,_⟩=>False
  | some Q=>b4 Z J Q.aK fun z A=>p (.pointer (some z)) A
  | none=>False)
 | .makeSlice t l L=>(match look E.types t,cO X l,cO X L with
  | some ⟨.slice J,_,_⟩,.int _ n,.int _ m=>(match look E.types J with
   | some ⟨.tuple _,_,_⟩=>False
   | some Q=>h8 Z J Q n m fun z A=>p (.slice (some z) n.toNat m.toNat) A
   | none=>False)
  | _,_,_=>False)
 | .buildSlice t n c=>(match look E.types t with
  | some ⟨.slice J,_,_⟩=>(match look E.types J with
   | some ⟨.tuple _,_,_⟩=>False
   | some Q=>bif Nat.ble (n*Q.leaves.length) 16777216 then(match uR (fun C=>some (C*Q.leaves.length,Q.leaves.length)) (hT Q.aK n) (c.toList.map fun (C,I)=>(C,cO X I)) with
    | some d=>b4 Z J d fun z A=>p (.slice (some z) n n) A
    | none=>False) else False
   | none=>False)
  | _=>False)
 | .call L=>(match L.callee with
  | .builtin .append=>(match L.args.toList,L.argTypes.toList with
   | [O,I],[t,e]=>bif uV E e then(match look E.types t,cO X O with
    | some ⟨.slice J,_,_⟩,.slice a l f=>(match look E.types J with
     | some ⟨.tuple _,_,_⟩=>False
     | some Q=>gW Z J Q a l f (cO X I) fun a l L A=>p (.slice a l L) A
     | none=>False)
    | _,_=>False) else False
   | _,_=>False)
  | .builtin .copy=>(match L.args.toList,L.argTypes.toList with
   | [bH,I],t :: _=>(match look E.types t,cO X bH with
    | some ⟨.slice J,_,_⟩,.slice a l _=>(match look E.types J with
     | some ⟨.tuple _,_,_⟩=>False
     | some Q=>mW Z Q.leaves.length a l (cO X I) fun n A=>p (.int .i64 n) A
     | none=>False)
    | _,_=>False)
   | _,_=>False)
  | .builtin .clear=>(match L.args.toList,L.argTypes.toList with
   | [bH],[t]=>(match look E.types t,cO X bH with
    | some ⟨.slice J,_,_⟩,.slice a l _=>(match look E.types J with
     | some ⟨.tuple _,_,_⟩=>False
     | some Q=>xA Z Q a l fun A=>p (.tuple #[]) A
     | none=>False)
    | _,_=>False)
   | _,_=>False)
  | .value (.func a9)=>(match look E.pW a9 with
   | some .body=>o2 P a9 (L.args.toList.map (cO X)).toArray Z fun v A=>s4 E kV v fun g=>p g A
   | _=>False)
  | _=>False)
 | _=>False
def xD(P:Program)(a9:FuncId)(args:Array Value)(Z:V)(p:Value→Prop):Prop:=∃ v,o2 P a9 args Z (fun a A=>a=v∧A=Z)∧p v
def s6(P:Program)(E:Env)(op:Op)(kV:TypeId)(X:Fr)(Z:V)(p:Value→Prop):Prop:=
 match op with
 | .call L=>(match L.callee with
  | .value (.func a9)=>xD P a9 (L.args.toList.map (cO X)).toArray Z fun v=>s4 E kV v p
  | _=>False)
 | _=>False
inductive zO where
 | pure | load | quiet | call | act
def gE(E:Env):Op→zO
 | .load ..=>.load
 | .move _ | .assign _ | .pick .. | .binOp .. | .unOp .. | .indexAddr .. | .index .. | .extract .. | .fieldAddr .. | .field .. | .build .. | .nilCheck _ | .slice ..=>.pure
 | .convert O _ _=>(match look E.types O with
  | some ⟨.slice _,_,_⟩=>.act
  | _=>.pure)
 | .call L=>(match L.callee with
  | .builtin .len | .builtin .max | .builtin .min=>.pure
  | .value (.func a9)=>(match look E.pW a9 with
   | some .qV | some .qW=>.pure
   | some .quiet=>.quiet
   | _=>.call)
  | _=>.act)
 | .alloc _ | .box .. | .makeSlice .. | .buildSlice ..=>.call
 | _=>.act
def cG(cS:Nat)(Z A:V):Prop:=∀ N,N < cS→A[N]?=Z[N]?
def Eo(cS:Nat)(I:Value):Prop:=match I with | .pointer (some o)=>o.block < cS | _=>False
def pZ(P:Program)(E:Env)(dA:Bool)(cS:Nat)(q:Oper)(X:Fr)(Z:V)(p:Value→V→Prop):Prop:=
 match gE E q.op with
 | .pure=>hZ E q.op X Z (fun v=>p v Z)
 | .load=>cond dA (match q.op with
  | .load _ a=>Eo cS (cO X a)∧hZ E q.op X Z (fun v=>p v Z)
  | _=>False) (hZ E q.op X Z (fun v=>p v Z))
 | .quiet=>s6 P E q.op q.type X Z (fun v=>p v Z)
 | .call=>cond dA (jA P E q.op q.type X Z fun v A=>cG cS Z A∧p v A) (jA P E q.op q.type X Z p)
 | .act=>jA P E q.op q.type X Z p
def vW(all:List Oper)(C:Nat):Option Nat:=match all[C]? with | some q=>q.dst | none=>none
def jN(P:Program)(E:Env)(dA:Bool)(cS:Nat)(all:List Oper):List Oper→Fr→V→(Fr→V→Prop)→Prop
 | [],X,Z,p=>p X Z
 | q :: rest,X,Z,p=>
  match q.guard with
  | none=>pZ P E dA cS q X Z fun v A=>jN P E dA cS all rest (nL X q.dst v) A p
  | some (C,a)=>
   match vW all C with
   | none=>False
   | some t=>
    match X t with
    | .bool N=>cond N
      (cond a (pZ P E dA cS q (lV X t (.bool true)) Z fun v A=>jN P E dA cS all rest (nL (lV X t (.bool true)) q.dst v) A p)
       (jN P E dA cS all rest (nL (lV X t (.bool true)) q.dst undef) Z p))
      (cond a (jN P E dA cS all rest (nL (lV X t (.bool false)) q.dst undef) Z p)
       (pZ P E dA cS q (lV X t (.bool false)) Z fun v A=>jN P E dA cS all rest (nL (lV X t (.bool false)) q.dst v) A p))
    | .tuple _=>jN P E dA cS all rest (nL X q.dst undef) Z p
    | _=>False
def kG(dA:Bool):zO→zO→Bool
 | .pure,_ | _,.pure=>true
 | .load,.load | .quiet,.quiet=>true
 | .load,.quiet | .quiet,.load=>true
 | .load,.call | .call,.load=>dA
 | _,_=>false
def p0(a:List Nat):List Edge→Nat
 | []=>0
 | J :: l=>bif Region.binds .any J then(2 ^ J.on ||| a.getD J.on 0) ||| p0 a l else p0 a l
def k8(a:List Nat):List Oper→List Nat
 | []=>a
 | q :: l=>k8 (a ++ [p0 a q.after.toList]) l
def s7(a:List Oper):Bool:=(List.range a.length).all fun Q=>match a[Q]? with
 | some q=>q.after.toList.all fun J=>!Region.binds .any J || Nat.blt J.on Q
 | none=>true
def Bo(E:Env)(dA:Bool)(a:List Oper)(b:List Nat)(Q C:Nat):Bool:=
 match a[Q]?,a[C]? with
 | some c,some d=>(b.getD Q 0).testBit C || (d.apart a.toArray c && kG dA (gE E d.op) (gE E c.op))
 | _,_=>true
def s8(E:Env)(dA:Bool)(a:List Oper):Bool:=
 Region.noSelect a.toArray && s7 a && (List.range a.length).all fun Q=>(List.range Q).all fun C=>Bo E dA a (k8 [] a) Q C
def s9(E:Env)(a:Bool)(b:List Oper):Bool:=a && !s8 E false b
def vX(E:Env)(a:Bool)(b:List Oper):Bool:=a && !s8 E false b && !s8 E true b
def p1(a:List Nat)(eX:List Nat)(Q:Nat):Bool:=eX.all fun C=>!(a.getD Q 0).testBit C
def Bp(E:Env)(all:List Oper)(a:List Nat)(eX:List Nat)(Q:Nat):Bool:=
 p1 a eX Q && eX.all fun C=>Nat.beq C Q || (a.getD C 0).testBit Q || (match all[Q]?,all[C]? with
  | some a,some b=>a.apart all.toArray b && kG true (gE E a.op) (gE E b.op)
  | _,_=>false)
def del(eX:List Nat)(Q:Nat):List Nat:=eX.filter fun C=>!Nat.beq C Q
def vY(a9:Nat→Prop):List Nat→Prop
 | []=>True
 | [Q]=>a9 Q
 | Q :: C :: l=>a9 Q∧vY a9 (C :: l)
def rU(P:Program)(E:Env)(cS:Nat)(all:List Oper)(Q:Nat)(X:Fr)(Z:V)(p:Fr→V→Prop):Prop:=
 match all[Q]? with
 | some q=>jN P E true cS all [q] X Z p
 | none=>False
def p2(P:Program)(E:Env)(cS:Nat)(all:List Oper)(a:List Nat):Nat→List Nat→Fr→V→(Fr→V→Prop)→Prop
 | 0,_,X,Z,p=>p X Z
 | n+1,eX,X,Z,p=>match eX.find? (Bp E all a eX) with
  | some Q=>rU P E cS all Q X Z fun X Z=>p2 P E cS all a n (del eX Q) X Z p
  | none=>vY (fun Q=>rU P E cS all Q X Z fun X Z=>p2 P E cS all a n (del eX Q) X Z p) (eX.filter (p1 a eX))
inductive aH where
 | normal | exit (id:Nat) | ret
def aH.then(next:Fr→V→Prop)(b7:aH→Fr→V→Prop):aH→Fr→V→Prop
 | .normal=>next
 | .exit id=>b7 (.exit id)
 | .ret=>b7 .ret
def aH.inBlock(id:Nat)(b7:aH→Fr→V→Prop):aH→Fr→V→Prop
 | .exit a=>bif Nat.beq a id then b7 .normal else b7 (.exit a)
 | .normal=>b7 .normal
 | .ret=>b7 .ret
def iter(aX:(Fr→V→Prop)→Fr→V→Prop):Nat→Fr→V→Prop
 | 0=>fun _ _=>False
 | n+1=>aX (iter aX n)
def den(P:Program)(E:Env):Code→(aH→Fr→V→Prop)→Fr→V→Prop
 | .skip,b7,X,Z=>b7 .normal X Z
 | .region _ b c,b7,X,Z=>bif vX E c b.toList then p2 P E Z.size b.toList (k8 [] b.toList) b.toList.length (List.range b.toList.length) X Z (b7 .normal)
   else jN P E (s9 E c b.toList) Z.size b.toList b.toList X Z (b7 .normal)
 | .seq a N,b7,X,Z=>den P E a (aH.then (den P E N b7) b7) X Z
 | .cond L a N,b7,X,Z=>match cO X L with
  | .bool t=>cond t (den P E a b7 (zG X L true) Z) (den P E N b7 (zG X L false) Z)
  | _=>False
 | .block id L,b7,X,Z=>den P E L (aH.inBlock id b7) X Z
 | .loop L,b7,X,Z=>∃ n,iter (fun bN=>den P E L (aH.then bN b7)) n X Z
 | .exit id,b7,X,Z=>b7 (.exit id) X Z
 | .ret,b7,X,Z=>b7 .ret X Z
 | .rangeFunc ..,_,_,_=>False
 | .scope L,b7,X,Z=>den P E L b7 X Z
 | .label _,b7,X,Z=>b7 .normal X Z
 | .goto _,_,_,_=>False
 | .refuse _,_,_,_=>False
def xE(args:List Value):Fr:=fun t=>match args[t]? with | some v=>v | none=>undef
def tA(E:Env)(X:Fr)(Z:V):List ResultVar→(List Value→Prop)→Prop
 | [],p=>p []
 | .tmp t :: l,p=>tA E X Z l fun bW=>p (X t :: bW)
 | .cell a t :: l,p=>match X a,look E.types t with
  | .pointer (some o),some Q=>uQ Q Z o fun v=>tA E X Z l fun bW=>p (v :: bW)
  | _,_=>False
def xF:List Value→Value
 | [v]=>v
 | bW=>.tuple bW.toArray
def c6(a9:Func):Code:=match a9.body with | some L=>L | none=>.skip
def aS:Code→List Bool→Code
 | L,[]=>L
 | .seq a _,false :: z=>aS a z
 | .seq _ N,true :: z=>aS N z
 | .cond _ a _,false :: z=>aS a z
 | .cond _ _ N,true :: z=>aS N z
 | .block _ L,_ :: z=>aS L z
 | .loop L,_ :: z=>aS L z
 | .scope L,_ :: z=>aS L z
 | _,_ :: _=>.skip
def tB(n:Nat)(q:Oper):Bool:=match q.dst with | some bH=>Nat.blt bH n | none=>true
def zP(a:Env)(n:Nat)(a:Array Oper)(b:Bool):Bool:=
 a.toList.all (tB n) && (!b || (Region.noSelect a.toList.toArray && s7 a.toList))
def n7(E:Env)(n:Nat):Code→Bool
 | .region _ b c=>zP E n b c
 | .seq a N=>n7 E n a && n7 E n N
 | .cond _ a N=>n7 E n a && n7 E n N
 | .block _ L=>n7 E n L
 | .loop L=>n7 E n L
 | .scope L=>n7 E n L
 | .skip | .exit _ | .ret | .label _=>true
 | _=>false
set_option linter.unusedSimpArgs false
def vZ(P:Program)(a9:FuncId):rS→Prop
 | .body | .quiet=>True
 | .qV=>∃ fn,P.funcs[a9]?=some fn∧Extern.findNext fn=none∧Extern.find fn=some add64Entry
 | .qW=>∃ fn,P.funcs[a9]?=some fn∧Extern.findNext fn=none∧Extern.find fn=some zI
structure iH(P:Program)(E:Env):Prop where
 dW:∀ t Q,look E.types t=some Q→k7 P t Q=true
 fn:∀ a9 M,look E.pW a9=some M→zL P a9 M=true
 ext:∀ a9 M,look E.pW a9=some M→vZ P a9 M
 mixed:P.follows .mixedOrders=true
 arr:∀ t z,look E.zJ t=some z→P.underlying t=some (.array z.1 z.2)
def rS.Ep:rS→Bool
 | .body | .quiet=>false
 | _=>true
theorem Er{P:Program}{l:List (Nat × rS)}{s:List (Nat × rS)}(J:l.filter (fun z=>z.2.Ep)=s)(Z:∀ z ∈ s,vZ P z.1 z.2):∀ z ∈ l,vZ P z.1 z.2:=by
 intro z a
 obtain⟨a9,M⟩:=z
 cases M with
 | body=>trivial
 | quiet=>trivial
 | qV=>exact Z (a9,.qV) (by rw [← J];exact List.mem_filter.2 ⟨a,rfl⟩)
 | qW=>exact Z (a9,.qW) (by rw [← J];exact List.mem_filter.2 ⟨a,rfl⟩)
theorem iH.mk'{P:Program}{E:Env}(Z:Bl P E=true)(b:∀ z ∈ E.pW,vZ P z.1 z.2)(c:P.follows .mixedOrders=true):iH P E:=by
 simp only [Bl,Bool.and_eq_true,List.all_eq_true] at Z
 refine⟨fun t Q bE=>Z.1.1 (t,Q) (w4 bE),fun a9 M a=>Z.1.2 (a9,M) (w4 a),fun a9 M a=>b (a9,M) (w4 a),c,fun t z d=>?_⟩
 have:=Z.2 (t,z) (w4 d)
 unfold Bk at this
 split at this
 ·rename_i n J e
  simp only [Bool.and_eq_true] at this
  rw [e,Nat.eq_of_beq_eq_true this.1,Nat.eq_of_beq_eq_true this.2]
 ·cases this
section a
variable {P:Program} {t J:TypeId} {fS:List hO} {N:Nat}
theorem uW{Q:dO}(Z:k7 P t Q=true):pX (P.underlying t) Q.dW=true:=by
 simp only [k7,Bool.and_eq_true] at Z;exact Z.1
theorem zQ{M:IntKind}(Z:k7 P t ⟨.int M,fS,N⟩=true):P.underlying t=some (.int M):=by
 have A:=uW Z
 simp only at A
 unfold pX at A
 split at A <;> simp_all
 exact w5 A
theorem Es(Z:k7 P t ⟨.bool,fS,N⟩=true):P.underlying t=some .bool:=by
 have A:=uW Z
 simp only at A
 unfold pX at A
 split at A <;> simp_all
theorem uX(Z:k7 P t ⟨.str,fS,N⟩=true):P.underlying t=some .string:=by
 have A:=uW Z
 simp only at A
 unfold pX at A
 split at A <;> simp_all
theorem o4(Z:k7 P t ⟨.slice J,fS,N⟩=true):P.underlying t=some (.slice J):=by
 have A:=uW Z
 simp only at A
 unfold pX at A
 split at A <;> simp_all
theorem xG{eO:List (Nat × TypeId)}(Z:k7 P t ⟨.struct eO,fS,N⟩=true):∃ a,P.underlying t=some (.struct a)∧a.toList.map (fun a9=>(a9.offset,a9.type))=eO:=by
 have A:=uW Z
 simp only at A
 unfold pX at A
 split at A <;> simp_all
def qU.isTuple:qU→Bool
 | .tuple _=>true
 | _=>false
def qU.uY:qU→Bool
 | .struct _=>true
 | _=>false
theorem p3{Q:dO}(Z:k7 P t Q=true):∃ a,P.info? t=some a∧a.size=Q.leaves.length∧a.bytes=Q.bytes:=by
 simp only [k7,Bool.and_eq_true] at Z
 obtain⟨_,Z⟩:=Z
 split at Z
 ·rename_i a bE
  simp only [Bool.and_eq_true] at Z
  exact⟨a,bE,Nat.eq_of_beq_eq_true Z.1.1,Nat.eq_of_beq_eq_true Z.1.2⟩
 ·simp at Z
theorem uZ{Q:dO}(Z:k7 P t Q=true)(c:Q.dW.isTuple=false):
  ∃ a,P.info? t=some a∧a.size=Q.leaves.length∧a.bytes=Q.bytes∧∃ b3,a.zero=some b3∧b3.cells.toList=Q.aK:=by
 simp only [k7,Bool.and_eq_true] at Z
 obtain⟨_,Z⟩:=Z
 split at Z
 ·rename_i a bE
  simp only [Bool.and_eq_true] at Z
  obtain⟨⟨a0,d⟩,b⟩:=Z
  split at b
  ·rename_i J;rw [J] at c;simp [qU.isTuple] at c
  ·split at b
   ·rename_i b3 e
    exact⟨a,bE,Nat.eq_of_beq_eq_true a0,Nat.eq_of_beq_eq_true d,b3,e,Bj b⟩
   ·simp at b
 ·simp at Z
theorem Et{Q:dO}(Z:k7 P t Q=true)(aY:Q.dW.uY=false):∃ bH,P.underlying t=some bH∧(∀ eO,bH ≠ .struct eO)∧(∀ n J,bH ≠ .array n J):=by
 have A:=uW Z
 cases b:P.underlying t with
 | none=>rw [b] at A;cases Q.dW <;> simp [pX] at A
 | some bH=>
  rw [b] at A
  refine⟨bH,rfl,?_,?_⟩
  ·rintro eO rfl
   cases a:Q.dW <;> rw [a] at A aY <;> simp [pX,qU.uY] at A aY
  ·rintro n J rfl
   cases a:Q.dW <;> rw [a] at A aY <;> simp [pX,qU.uY] at A aY
end a
section a
variable {P:Program} {t:TypeId}
theorem gP{bH:TypeDesc}(Z:P.underlying t=some bH)(aA:World):(underlying t).run P aA=.ok bH aA:=run_underlying Z aA
theorem k9{a:TypeInfo}(Z:P.info? t=some a)(aA:World):(sizeOf t).run P aA=.ok a.size aA:=by simp [sizeOf,typeInfo,Z]
theorem zR{a:TypeInfo}(Z:P.info? t=some a)(aA:World):(typeInfo t).run P aA=.ok a aA:=by simp [typeInfo,Z]
theorem u0{a:TypeInfo}{b3:Value}(Z:P.info? t=some a)(b:a.zero=some b3)(aA:World):(zeroValue t).run P aA=.ok b3 aA:=by simp [zeroValue,typeInfo,Z,b]
theorem Bq{Q:dO}(Z:k7 P t Q=true)(aY:Q.dW.uY=false)(aA:World):(isAgg t).run P aA=.ok false aA:=by
 obtain⟨bH,aJ,a0,a⟩:=Et Z aY
 unfold isAgg
 rw [Sem.run_bind,gP aJ]
 cases bH <;> first | rfl | exact absurd rfl (a0 _) | exact absurd rfl (a _ _)
theorem Br{eO:List (Nat × TypeId)}{fS:List hO}{N:Nat}(Z:k7 P t ⟨.struct eO,fS,N⟩=true)(aA:World):(isAgg t).run P aA=.ok true aA:=by
 obtain⟨a,aJ,_⟩:=xG Z
 unfold isAgg
 rw [Sem.run_bind,gP aJ]
 rfl
theorem xH:∀ (bW:List Value) (o:Addr) (Q:Nat) (a:Array Value) (aA:World),jX aA.heap o Q bW→(loadCellsFrom o Q bW.length a).run P aA=.ok (a ++ bW.toArray) aA
 | [],o,Q,a,aA,_=>by simp [loadCellsFrom]
 | v :: bW,o,Q,a,aA,Z=>by
  have aB:aA.cell? (o.add Q)=some v:=Z.1
  have b:=xH bW o (Q+1) (a.push v) aA Z.2
  simp only [List.length_cons,loadCellsFrom,Sem.run_bind,run_load,aB,Result.andThen,b]
  simp
theorem Eu{v:Value}(Z:nO v=true):v.oneCell'=true:=by cases v <;> first | rfl | cases Z
theorem zS{o:Addr}{v:Value}{aA:World}(a0:∃ q,fQ aA.heap o=some q)(a:mB aA.heap o=false)(b:nO v=true):(store o v).run P aA=.ok () (aA.setCell o v):=by
 obtain⟨q,c⟩:=a0
 have d:aA.cell? o=some q:=c
 have e:aA.frozen? o=false:=a
 rw [run_store P aA o v _ (Eu b),d]
 simp [e]
end a
theorem dY{v:Value}{p:Bool→Prop}(Z:b9 v p):∃ N,v=.bool N∧p N:=by
 cases v <;> first | exact⟨_,rfl,Z⟩ | cases Z
theorem bS{M:IntKind}{v:Value}{p:Int→Prop}(Z:aV M v p):∃ n,v=.int M n∧p n:=by
 cases v with
 | int eA n=>
  unfold aV at Z
  cases J:qX M eA with
  | false=>simp [J] at Z
  | true=>simp [J] at Z;obtain rfl:=w5 J;exact⟨n,rfl,Z⟩
 | _=>cases Z
theorem Bs{v:Value}{p:ByteArray→Prop}(Z:w6 v p):∃ O,v=.string O∧p O:=by
 cases v <;> first | exact⟨_,rfl,Z⟩ | cases Z
theorem bQ{v:Value}{p:U→Nat→Nat→Prop}(Z:aG v p):∃ a l L,v=.slice a l L∧p a l L:=by
 cases v <;> first | exact⟨_,_,_,rfl,Z⟩ | cases Z
theorem Bt{v:Value}{p:U→Prop}(Z:w7 v p):∃ a,v=.pointer a∧p a:=by
 cases v <;> first | exact⟨_,rfl,Z⟩ | cases Z
theorem xI{M:hO}{v:Value}{p:Value→Prop}(Z:s0 M v p):p v∧nO v=true:=by
 cases M with
 | int M=>obtain⟨n,J,g⟩:=bS (show aV M v _ from Z);subst J;exact⟨g,rfl⟩
 | bool=>obtain⟨n,J,g⟩:=dY (show b9 v _ from Z);subst J;exact⟨g,rfl⟩
 | str=>obtain⟨n,J,g⟩:=Bs (show w6 v _ from Z);subst J;exact⟨g,rfl⟩
 | slice=>obtain⟨a,l,L,J,g⟩:=bQ (show aG v _ from Z);subst J;exact⟨g,rfl⟩
 | ptr=>obtain⟨n,J,g⟩:=Bt (show w7 v _ from Z);subst J;exact⟨g,rfl⟩
theorem cH{l:List Value}{p:Value→List Value→Prop}(Z:bR l p):∃ v bW,l=v :: bW∧p v bW:=by
 cases l <;> first | exact⟨_,_,rfl,Z⟩ | cases Z
theorem eD{l:List Value}{p:Prop}(Z:bC l p):l=[]∧p:=by
 cases l <;> first | exact⟨rfl,Z⟩ | cases Z
theorem Bu:∀ {a:List hO} {l:List Value} {p:List Value→Prop},vR a l p→p l
 | [],l,p,Z=>by obtain⟨J,g⟩:=eD Z;subst J;exact g
 | M :: a,l,p,Z=>by
  obtain⟨v,bW,J,g⟩:=cH Z
  subst J
  exact Bu (p:=fun b=>p (v :: b)) (xI g).1
theorem zT{v:Value}{p:List Value→Prop}(Z:bU v p):∃ cQ,v=.agg cQ∧p cQ.toList:=by
 cases v <;> first | exact⟨_,rfl,Z⟩ | cases Z
theorem Bv{v:Value}{p:List Value→Prop}(Z:c0 v p):∃ cQ,v=.tuple cQ∧p cQ.toList:=by
 cases v <;> first | exact⟨_,rfl,Z⟩ | cases Z
theorem Bw{Q:dO}{v:Value}{p:Value→Prop}(Z:s3 Q v p):p v:=by
 unfold s3 at Z
 split at Z
 ·obtain⟨cQ,J,g⟩:=zT Z
  subst J
  have:=Bu g
  simpa using this
 ·split at Z
  ·exact(xI Z).1
  ·cases Z
theorem Bx{E:Env}:∀ {jL:List TypeId} {l:List Value} {p:List Value→Prop},uK E jL l p→p l
 | [],l,p,Z=>by obtain⟨J,g⟩:=eD Z;subst J;exact g
 | t :: jL,l,p,Z=>by
  obtain⟨v,bW,J,g⟩:=cH Z
  subst J
  split at g
  ·exact Bx (p:=fun a=>p (v :: a)) (Bw g)
  ·cases g
theorem By{E:Env}{t:TypeId}{v:Value}{p:Value→Prop}(Z:s4 E t v p):p v:=by
 unfold s4 at Z
 split at Z
 ·split at Z
  ·obtain⟨cQ,J,g⟩:=Bv Z
   subst J
   have:=Bx g
   simpa using this
  ·exact Bw Z
 ·exact Z
section a
variable {P:Program} {E:Env}
theorem Ev{op:BinOp}{M:IntKind}{a N:Int}{p:Value→Prop}{t:TypeId}(Z:w8 op M a N p)(a0:op ≠ .shl)(b:op ≠ .shr):
  ∃ v,p v∧∀ aA,(binOp op t (.int M a) (.int M N)).run P aA=.ok v aA:=by
 cases op with
 | shl=>exact absurd rfl a0
 | shr=>exact absurd rfl b
 | add=>exact⟨_,Z.out,fun aA=>by simp [binOp,Op.intArith]⟩
 | sub=>exact⟨_,Z.out,fun aA=>by simp [binOp,Op.intArith]⟩
 | mul=>exact⟨_,Z.out,fun aA=>by simp [binOp,Op.intArith]⟩
 | quo=>exact⟨_,Z.2.out,fun aA=>by simp [binOp,Op.intDiv,Z.1]⟩
 | rem=>exact⟨_,Z.2.out,fun aA=>by simp [binOp,Op.intDiv,Z.1]⟩
 | and=>exact⟨_,Z.out,fun aA=>by rw [binOp_and];rfl⟩
 | or=>exact⟨_,Z.out,fun aA=>by rw [binOp_or];rfl⟩
 | xor=>exact⟨_,Z.out,fun aA=>by rw [binOp_xor];rfl⟩
 | andNot=>exact⟨_,Z.out,fun aA=>by rw [binOp_andNot];rfl⟩
 | eql=>exact⟨_,Z,fun aA=>by rw [binOp_eql];rfl⟩
 | neq=>exact⟨_,Z,fun aA=>by rw [binOp_neq];rfl⟩
 | lss=>exact⟨_,Z,fun aA=>by rw [binOp_lss];rfl⟩
 | leq=>exact⟨_,Z,fun aA=>by rw [binOp_leq];rfl⟩
 | gtr=>exact⟨_,Z,fun aA=>by rw [binOp_gtr];rfl⟩
 | geq=>exact⟨_,Z,fun aA=>by rw [binOp_geq];rfl⟩
theorem Bz{t:TypeId}(Z:P.underlying t=some .bool)(a N:Bool)(aA:World):(Op.equal t (.bool a) (.bool N)).run P aA=.ok (a == N) aA:=by
 have b:Op.maxDepth=9999+1:=rfl
 rw [Op.equal,b,Op.equalIn,Sem.run_bind,gP Z]
 rfl
theorem BA{t J:TypeId}(Z:P.underlying t=some (.slice J))(a:U)(l L b cW:Nat)(aA:World):(Op.equal t (.slice a l L) (.slice none b cW)).run P aA=.ok a.isNone aA:=by
 have c:Op.maxDepth=9999+1:=rfl
 rw [Op.equal,c,Op.equalIn,Sem.run_bind,gP Z]
 cases a <;> rfl
theorem Ew(c2:iH P E){op:BinOp}{t:TypeId}{aL bA:Operand}{I aN:Value}{p:Value→Prop}(Z:uM E op t I aN p):
  ∃ v,p v∧∀ aA,(do eqGuard op t aL bA I aN;binOp op t I aN:Sem Value).run P aA=.ok v aA:=by
 unfold uM at Z
 split at Z
 ·rename_i M a eA N
  have b:eqGuard op t aL bA (.int M a) (.int eA N)=pure ():=eqGuard_at_int ..
  split at Z
  ·exact⟨_,Z.2.out,fun aA=>by
    rw [b]
    have:¬ N < 0:=by omega
    simp [binOp,Op.shift,jM,this]⟩
  ·exact⟨_,Z.2.out,fun aA=>by
    rw [b]
    have:¬ N < 0:=by omega
    simp [binOp,Op.shift,gL,this]⟩
  ·rename_i a0 e
   cases J:qX M eA with
   | false=>simp [J] at Z
   | true=>
    simp only [J,cond_true] at Z
    obtain rfl:=w5 J
    obtain⟨v,aU,f⟩:=Ev (P:=P) (t:=t) Z a0 e
    exact⟨v,aU,fun aA=>by rw [b];simp [f aA]⟩
 ·rename_i a N
  have b:eqGuard op t aL bA (.string a) (.string N)=pure ():=eqGuard_at_string ..
  split at Z
  ·refine⟨_,Z.2,fun aA=>?_⟩
   rw [b]
   have a0:¬ ((a.size+N.size:Nat):Int) > IntKind.i64.max:=by rw [IntKind.max_i64];omega
   simp only [binOp,Op.stringOp,pure_bind]
   rw [if_neg a0]
   rfl
  ·exact⟨_,Z,fun aA=>by rw [b];simp [binOp,Op.stringOp]⟩
  ·exact⟨_,Z,fun aA=>by rw [b];simp [binOp,Op.stringOp]⟩
  ·cases Z
 ·rename_i a N
  have b:eqGuard op t aL bA (.bool a) (.bool N)=pure ():=eqGuard_at_bool ..
  split at Z
  ·rename_i fS hP d
   have c:=Es (c2.dW _ _ d)
   split at Z
   ·exact⟨_,Z,fun aA=>by rw [b];simp [binOp,Bz c]⟩
   ·exact⟨_,Z,fun aA=>by rw [b];simp [binOp,Bz c]⟩
   ·cases Z
  ·cases Z
 ·rename_i a l L g cW
  have b:eqGuard op t aL bA (.slice a l L) (.slice none g cW)=pure ():=eqGuard_at_slice ..
  split at Z
  ·rename_i J fS hP d
   have c:=o4 (c2.dW _ _ d)
   split at Z
   ·exact⟨_,Z,fun aA=>by rw [b];simp [binOp,BA c]⟩
   ·exact⟨_,Z,fun aA=>by rw [b];simp [binOp,BA c]⟩
   ·cases Z
  ·cases Z
 ·cases Z
theorem Ex{op:UnOp}{I:Value}{p:Value→Prop}(Z:uO op I p):∃ v,p v∧∀ aA,(Op.unary op I).run P aA=.ok v aA:=by
 unfold uO at Z
 split at Z
 ·exact⟨_,Z.out,fun aA=>by simp [Op.unary,Op.intArith]⟩
 ·rename_i M n
  refine⟨_,Z.out,fun aA=>?_⟩
  have J:(if M.signed=true then(-1:Int) else M.max)=bif M.signed then -1 else M.max:=by cases M.signed <;> rfl
  simp only [Op.unary,J]
  rfl
 ·exact⟨_,Z,fun aA=>by simp [Op.unary]⟩
 ·cases Z
theorem BB{Z:V}{o:Addr}:∀ {a:List hO} {Q:Nat} {p:List Value→Prop},uP Z o Q a p→∃ bW,p bW∧jX Z o Q bW∧bW.length=a.length
 | [],Q,p,aJ=>⟨[],aJ,trivial,rfl⟩
 | M :: a,Q,p,aJ=>by
  unfold uP e7 at aJ
  split at aJ
  ·rename_i v aU
   obtain⟨bW,a0,b,c⟩:=BB (p:=fun bW=>p (v :: bW)) (xI aJ).1
   exact⟨v :: bW,a0,⟨aU,b⟩,by simp [c]⟩
  ·cases aJ
theorem tC{Z A:V}{o:Addr}(J:A[o.block]?=Z[o.block]?):fQ A o=fQ Z o:=by unfold fQ;rw [J]
theorem tD(o:Addr)(Q:Nat):(o.add Q).block=o.block:=by unfold Addr.add;split <;> rfl
theorem BC{Z A:V}{o:Addr}(J:A[o.block]?=Z[o.block]?):∀ {bW:List Value} {Q:Nat},jX Z o Q bW→jX A o Q bW
 | [],_,_=>trivial
 | v :: bW,Q,a=>⟨(tC (Z:=Z) (A:=A) (o:=o.add Q) (by rw [tD];exact J)).trans a.1,BC J a.2⟩
theorem BD(c2:iH P E){t:TypeId}{Q:dO}(d:look E.types t=some Q){Z:V}{o:Addr}{p:Value→Prop}(aJ:uQ Q Z o p):
  ∃ v,p v∧∀ aA:World,aA.heap[o.block]?=Z[o.block]?→(Instr.loadAt t (.pointer (some o))).run P aA=.ok v aA:=by
 have a:=c2.dW _ _ d
 obtain⟨dW,fS,N⟩:=Q
 unfold uQ at aJ
 split at aJ
 ·rename_i eO J
  simp only at J aJ
  subst J
  obtain⟨bW,a0,b,e⟩:=BB aJ
  refine⟨_,a0,fun aA c=>?_⟩
  obtain⟨h,bE,aY,_⟩:=p3 a
  have f:=xH (P:=P) bW o 0 #[] aA (BC c b)
  simp only at aY
  simp only [Instr.loadAt,Instr.sureAddr,pure_bind,loadVar,Sem.run_bind,Br a,Result.andThen,if_true,k9 bE,loadCells,aY,← e,f]
  simp
 ·cases aJ
 ·rename_i a0 b
  simp only at aJ a0 b
  split at aJ
  ·rename_i M
   unfold e7 at aJ
   split at aJ
   ·rename_i v aU
    refine⟨v,(xI aJ).1,fun aA c=>?_⟩
    have aY:(dO.mk dW [M] N).dW.uY=false:=by
     cases dW <;> first | rfl | exact absurd rfl (a0 _)
    have g:aA.cell? o=some v:=by rw [zH,tC c];exact aU
    simp [Instr.loadAt,Instr.sureAddr,loadVar,Bq a aY,g]
   ·cases aJ
  ·cases aJ
theorem Ey{t J:TypeId}{b:TypeInfo}(c:P.underlying t=some (.slice J))(bE:P.info? J=some b){a:U}{l L:Nat}{M:IntKind}{n:Int}{p:Addr→Prop}
  (aJ:cL a l n b.size p):∃ o,p o∧∀ aA,(Instr.indexAt t (.slice a l L) (.int M n)).run P aA=.ok (.pointer (some o)) aA:=by
 obtain⟨⟨aB,a0⟩,aJ⟩:=aJ
 split at aJ
 ·rename_i z
  refine⟨_,aJ,fun aA=>?_⟩
  simp only [Instr.indexAt,asIntOf,pure_bind,Sem.run_bind,gP c,Result.andThen]
  simp [aB,a0,k9 bE]
 ·cases aJ
theorem Ez{t J:TypeId}{a:TypeInfo}{m:Nat}(b:P.underlying t=some (.array m J))(bE:P.info? J=some a){z:Addr}{M:IntKind}{n:Int}{p:Addr→Prop}
  (aJ:cL (some z) m n a.size p):∃ o,p o∧∀ aA,(Instr.indexAt t (.pointer (some z)) (.int M n)).run P aA=.ok (.pointer (some o)) aA:=by
 obtain⟨⟨aB,a0⟩,aJ⟩:=aJ
 refine⟨_,aJ,fun aA=>?_⟩
 simp only [Instr.indexAt,asIntOf,pure_bind,Sem.run_bind,gP b,Result.andThen,Instr.sureAddr]
 simp [aB,a0,k9 bE,gP b]
theorem v0{P:Program}{v:Option Value}{c aN:Nat}{p:Nat→Prop}(Z:pY v c aN p):
  ∃ m,p m∧(v=none→m=c)∧∀ I,v=some I→∀ b (aA:World),(Instr.sliceBound I aN b).run P aA=.ok m aA:=by
 unfold pY at Z
 split at Z
 ·exact⟨_,Z,⟨fun _=>rfl,fun I a=>(by cases a)⟩⟩
 ·rename_i M Q
  refine⟨Q.toNat,Z.2,⟨fun a=>(by cases a),fun I a b aA=>?_⟩⟩
  obtain rfl:=Option.some.inj a
  exact run_sliceBound aA M Q aN b Z.1.1 Z.1.2
 ·cases Z
theorem EA{t J:TypeId}{f:TypeInfo}(h:P.underlying t=some (.slice J))(bE:P.info? J=some f){a:U}{l L:Nat}{c5 hI b:Option Value}{p:Value→Prop}
  (aJ:h7 f.size a l L c5 hI b fun a l L=>p (.slice a l L)):∃ v,p v∧∀ aA,(Instr.sliceAt t (.slice a l L) c5 hI b).run P aA=.ok v aA:=by
 unfold h7 at aJ
 split at aJ
 ·cases aJ
 ·rename_i i
  obtain⟨m,aJ,j,g⟩:=v0 (P:=P) aJ
  obtain⟨n,aJ,aB,c⟩:=v0 (P:=P) aJ
  obtain⟨D,aJ,d,e⟩:=v0 (P:=P) aJ
  refine⟨_,aJ,fun aA=>?_⟩
  have aP:(Instr.sliceBounds true l L c5 hI b).run P aA=.ok (D,n,m) aA:=by
   unfold Instr.sliceBounds
   cases b with
   | none=>
    obtain rfl:=j rfl
    cases hI with
    | none=>
     obtain rfl:=aB rfl
     cases c5 with
     | none=>obtain rfl:=d rfl;rfl
     | some I=>simp [e I rfl]
    | some aN=>
     cases c5 with
     | none=>obtain rfl:=d rfl;simp [c aN rfl]
     | some I=>simp [e I rfl,c aN rfl]
   | some b3=>
    cases hI with
    | none=>exact absurd rfl (i b3 rfl)
    | some aN=>
     cases c5 with
     | none=>obtain rfl:=d rfl;simp [c aN rfl,g b3 rfl]
     | some I=>simp [e I rfl,c aN rfl,g b3 rfl]
  simp only [Instr.sliceAt,Sem.run_bind,gP h,Result.andThen,Instr.slice,aP,k9 bE,iP]
  rfl
theorem EB{t:TypeId}(d:P.underlying t=some .string){O:ByteArray}{c5 hI:Option Value}{p:Value→Prop}
  (aJ:vT O c5 hI fun O=>p (.string O)):∃ v,p v∧∀ aA,(Instr.sliceAt t (.string O) c5 hI none).run P aA=.ok v aA:=by
 unfold vT at aJ
 obtain⟨e,aJ,aB,a⟩:=v0 (P:=P) aJ
 obtain⟨f,aJ,b,c⟩:=v0 (P:=P) aJ
 refine⟨_,aJ,fun aA=>?_⟩
 have aP:(Instr.sliceBounds false O.size O.size c5 hI none).run P aA=.ok (f,e,O.size) aA:=by
  unfold Instr.sliceBounds
  cases hI with
  | none=>
   obtain rfl:=aB rfl
   cases c5 with
   | none=>obtain rfl:=b rfl;rfl
   | some I=>simp [c I rfl]
  | some aN=>
   cases c5 with
   | none=>obtain rfl:=b rfl;simp [a aN rfl]
   | some I=>simp [c I rfl,a aN rfl]
 simp only [Instr.sliceAt,Sem.run_bind,gP d,Result.andThen,Instr.slice,Option.isSome_none,Bool.false_eq_true,if_false,aP]
 rfl
theorem BE:∀ (l:List Value) (off M:Nat) (a:Array Value),off+M+l.length≤a.size→
  (l.zipIdx M).foldl (fun cQ z=>cQ.setIfInBounds (off+z.2) z.1) a=(a.toList.take (off+M) ++ (l ++ a.toList.drop (off+M+l.length))).toArray
 | [],off,M,a,Z=>by simp
 | v :: l,off,M,a,Z=>by
  have b:off+M < a.size:=by simp at Z;omega
  have c:=BE l off (M+1) (a.setIfInBounds (off+M) v) (by simp at Z ⊢;omega)
  simp only [List.zipIdx_cons,List.foldl_cons,c]
  congr 1
  have d:(a.setIfInBounds (off+M) v).toList=a.toList.set (off+M) v:=by simp
  rw [d]
  have e:off+(M+1)=off+M+1:=by omega
  have f:off+(M+1)+l.length=off+M+(l.length+1):=by omega
  have dE:off+M < a.toList.length:=by simpa using b
  rw [f,e,List.length_cons,List.take_succ_eq_append_getElem (by simpa using b)]
  rw [List.getElem_set_self,List.take_set_of_le (Nat.le_refl _),List.drop_set_of_lt (by omega)]
  simp
theorem zU{zV c:Nat→Option (Nat × Nat)}(d:∀ Q,zV Q=c Q):∀ (e:List (Nat × Value)) (a out:List Value),uR c a e=some out→
  Instr.fill zV a.toArray e=some out.toArray
 | [],a,out,Z=>by simp only [uR,Option.some.injEq] at Z;subst Z;rfl
 | (Q,v) :: rest,a,out,Z=>by
  unfold uR at Z
  unfold Instr.fill
  rw [d Q]
  split at Z
  ·cases Z
  ·rename_i off size J
   rw [J]
   simp only
   cases b:Nat.beq v.cells.toList.length size with
   | false=>rw [b] at Z;cases Z
   | true=>
    cases bX:Nat.ble (off+v.cells.toList.length) a.length with
    | false=>rw [b,bX] at Z;cases Z
    | true=>
     rw [b,bX] at Z
     simp only [Bool.and_self,cond_true] at Z
     have i:v.cells.size=size:=by simpa using Nat.eq_of_beq_eq_true b
     have f:off+v.cells.size≤a.length:=by simpa using Nat.le_of_ble_eq_true bX
     have dJ:=BE v.cells.toList off 0 a.toArray (by simpa using f)
     have g:=zU d rest _ out Z
     have j:(v.cells.zipIdx.foldl (fun cQ (z:Value × Nat)=>cQ.setIfInBounds (off+z.2) z.1) a.toArray)=(zM a off v.cells.toList).toArray:=by
      rw [← Array.foldl_toList,Array.toList_zipIdx,dJ]
      simp [zM]
     have h:¬ (v.cells.size ≠ size || off+v.cells.size > a.toArray.size)=true:=by simp;omega
     rw [if_neg h]
     rw [← g]
     congr 1
theorem EC{a:List Field}(Z:∀ a9 ∈ a,∃ b,P.info? a9.type=some b)(aA:World):
  (a.mapM fun (a9:Field)=>(do pure (a9.offset,← sizeOf a9.type):Sem (Nat × Nat))).run P aA=.ok (a.map fun a9=>(a9.offset,P.cellsOf a9.type)) aA:=by
 induction a with
 | nil=>rfl
 | cons a9 l c=>
  obtain⟨b,bE⟩:=Z a9 (by simp)
  have d:=c fun g e=>Z g (by simp [e])
  rw [List.mapM_cons]
  simp only [Sem.run_bind,k9 bE,Result.andThen,Sem.run_pure,d,List.map_cons,Program.cellsOf,bE]
  rfl
theorem BF:∀ {eO:List (Nat × TypeId)},uS E eO=true→∀ z ∈ eO,∃ Q,look E.types z.2=some Q
 | [],_,z,a=>by cases a
 | (off,t) :: l,Z,z,a=>by
  unfold uS at Z
  split at Z
  ·rename_i Q bE
   rcases List.mem_cons.1 a with rfl | a
   ·exact⟨Q,bE⟩
   ·exact BF Z z a
  ·cases Z
theorem ED{t:TypeId}{Q:dO}(Z:k7 P t Q=true):P.cellsOf t=Q.leaves.length:=by
 obtain⟨a,bE,aY,_⟩:=p3 Z
 simp [Program.cellsOf,bE,aY]
theorem BG:∀ {rest:List Value} {I:Value} {p:Value→Prop},nM I rest p→∃ v,p v∧∀ aA,(rest.foldlM Builtin.max2 I:Sem Value).run P aA=.ok v aA
 | [],I,p,Z=>by unfold nM at Z;exact⟨I,Z,fun aA=>rfl⟩
 | aN :: rest,I,p,Z=>by
  cases I with
  | int M a=>
   cases aN with
   | int eA N=>
    unfold nM at Z
    obtain⟨v,aU,b⟩:=BG Z
    exact⟨v,aU,fun aA=>by simp only [List.foldlM_cons,Builtin.max2,pure_bind];exact b aA⟩
   | _=>simp [nM] at Z
  | _=>cases aN <;> simp [nM] at Z
theorem BH:∀ {rest:List Value} {I:Value} {p:Value→Prop},nN I rest p→∃ v,p v∧∀ aA,(rest.foldlM Builtin.min2 I:Sem Value).run P aA=.ok v aA
 | [],I,p,Z=>by unfold nN at Z;exact⟨I,Z,fun aA=>rfl⟩
 | aN :: rest,I,p,Z=>by
  cases I with
  | int M a=>
   cases aN with
   | int eA N=>
    unfold nN at Z
    obtain⟨v,aU,b⟩:=BH Z
    exact⟨v,aU,fun aA=>by simp only [List.foldlM_cons,Builtin.min2,pure_bind];exact b aA⟩
   | _=>simp [nN] at Z
  | _=>cases aN <;> simp [nN] at Z
theorem EE(I aN L:Int)(a:0≤I)(b:0≤aN)(c:0≤L)(g:L≤1)(h:aN < 18446744073709551616)(aA:World):
  (zI #[.int .u64 I,.int .u64 aN,.int .u64 L]).run P aA=
   .ok (.tuple #[.int .u64 ((I - aN - L) % 18446744073709551616),.int .u64 (if I < aN+L then 1 else 0)]) aA:=by
 have d:∀ M:Nat,M≤1→(zI #[.int .u64 I,.int .u64 aN,.int .u64 (M:Int)]).run P aA=
   .ok (Extern.MathBitsCarry.pair ((I.toNat+Extern.MathBitsCarry.m64 - aN.toNat - M) % Extern.MathBitsCarry.m64) (if I.toNat < aN.toNat+M then 1 else 0)) aA:=by
  intro M i
  have:M=0∨M=1:=by omega
  rcases this with rfl | rfl <;> rfl
 obtain⟨M,rfl⟩:=Int.eq_ofNat_of_zero_le c
 rw [d M (by omega)]
 obtain⟨aL,rfl⟩:=Int.eq_ofNat_of_zero_le a
 obtain⟨bA,rfl⟩:=Int.eq_ofNat_of_zero_le b
 simp only [Extern.MathBitsCarry.pair,Extern.MathBitsCarry.m64,Int.toNat_natCast]
 have e:Int.ofNat ((aL+2 ^ 64 - bA - M) % 2 ^ 64)=((aL:Int) - bA - M) % 18446744073709551616:=by
  simp;omega
 have f:Int.ofNat (if aL < bA+M then 1 else 0)=if (aL:Int) < bA+M then 1 else 0:=by
  by_cases dE:aL < bA+M
  ·rw [if_pos dE,if_pos (by omega)];rfl
  ·rw [if_neg dE,if_neg (by omega)];rfl
 rw [e,f]
theorem xJ(c2:iH P E){a9:FuncId}{M:rS}(a:look E.pW a9=some M):∃ fn,P.funcs[a9]?=some fn∧(fn.name == "runtime.NumGoroutine")=false∧(M=.body∨M=.quiet→fn.body.isSome=true)∧(M=.qV∨M=.qW→fn.body.isNone=true):=by
 have Z:=c2.fn _ _ a
 unfold zL at Z
 split at Z
 ·rename_i fn dJ
  refine⟨fn,dJ,?_⟩
  cases M <;> simp only [Bool.and_eq_true,Bool.not_eq_true'] at Z <;> simp [Z]
 ·cases Z
theorem EF(c2:iH P E){L:Call}{X:Fr}{kV:TypeId}{p:Value→Prop}(Z:uT E L X p):
  ∃ v,p v∧∀ aA,(do let bH ← resolve (cO X) L kV;invoke bH.target bH.args:Sem Next).run P aA=.ok (.value v) aA:=by
 obtain⟨K6,⟨args⟩,⟨rV⟩⟩:=L
 unfold uT at Z
 simp only at Z
 split at Z
 ·
  split at Z
  ·rename_i I T t jL
   unfold vU at Z
   split at Z
   ·rename_i J fS N a n K7 b aU
    have f:=o4 (c2.dW _ _ b)
    refine⟨_,Z,fun aA=>?_⟩
    simp [resolve,invoke,builtin,Builtin.len_,aU,gP f,goInt]
   ·rename_i fS N O b aU
    have f:=uX (c2.dW _ _ b)
    refine⟨_,Z,fun aA=>?_⟩
    simp [resolve,invoke,builtin,Builtin.len_,aU,gP f,goInt]
   ·cases Z
  ·cases Z
 ·
  split at Z
  ·rename_i I rest J
   obtain⟨v,aU,g⟩:=BG (P:=P) Z
   refine⟨v,aU,fun aA=>?_⟩
   have c:(List.map (cO X) args)=I :: rest:=J
   simp [resolve,invoke,builtin,Builtin.max_,c,g]
  ·cases Z
 ·
  split at Z
  ·rename_i I rest J
   obtain⟨v,aU,g⟩:=BH (P:=P) Z
   refine⟨v,aU,fun aA=>?_⟩
   have c:(List.map (cO X) args)=I :: rest:=J
   simp [resolve,invoke,builtin,Builtin.min_,c,g]
  ·cases Z
 ·
  rename_i a9
  split at Z
  ·rename_i b
   split at Z
   ·rename_i I aN b3 J
    obtain⟨⟨a0,h,i,j⟩,Z⟩:=Z
    refine⟨_,Z,fun aA=>?_⟩
    obtain⟨fn,dJ,l,_,aP⟩:=xJ c2 b
    obtain⟨m,d,D,G⟩:=c2.ext _ _ b
    obtain rfl:fn=m:=by rw [dJ] at d;exact Option.some.inj d
    have c:(List.map (cO X) args)=[.int .u64 I,.int .u64 aN,.int .u64 b3]:=J
    have e:=run_callFunc_extern (P:=P) dJ l (aP (by simp)) D G #[.int .u64 I,.int .u64 aN,.int .u64 b3] aA
    rw [run_add64 I aN b3 a0 h i j] at e
    simp only [resolve,Deferred.ofValue,cO,pure_bind,invoke]
    have H:(#[] ++ Array.map (cO X) { toList:=args } ++ #[]:Array Value)=#[.int .u64 I,.int .u64 aN,.int .u64 b3]:=by simp [c]
    rw [H,e]
    rfl
   ·cases Z
  ·rename_i b
   split at Z
   ·rename_i I aN b3 J
    obtain⟨⟨a0,h,i,j,K5⟩,Z⟩:=Z
    refine⟨_,Z,fun aA=>?_⟩
    obtain⟨fn,dJ,l,_,aP⟩:=xJ c2 b
    obtain⟨m,d,D,G⟩:=c2.ext _ _ b
    obtain rfl:fn=m:=by rw [dJ] at d;exact Option.some.inj d
    have c:(List.map (cO X) args)=[.int .u64 I,.int .u64 aN,.int .u64 b3]:=J
    have e:=run_callFunc_extern (P:=P) dJ l (aP (by simp)) D G #[.int .u64 I,.int .u64 aN,.int .u64 b3] aA
    rw [EE I aN b3 a0 h i j K5] at e
    simp only [resolve,Deferred.ofValue,cO,pure_bind,invoke]
    have H:(#[] ++ Array.map (cO X) { toList:=args } ++ #[]:Array Value)=#[.int .u64 I,.int .u64 aN,.int .u64 b3]:=by simp [c]
    rw [H,e]
    rfl
   ·cases Z
  ·cases Z
 ·cases Z
end a
set_option linter.unusedSimpArgs false
structure gX(n:Nat)(X:Fr)(a:Act):Prop where
 size:a.tmps.size=n
 defers:a.defers=[]
 get:∀ t,a.tmps.getD t undef=X t
theorem gX.cO{n:Nat}{X:Fr}{a:Act}(Z:gX n X a):a.eval=cO X:=by
 funext I
 cases I with
 | tmp t=>exact Z.get t
 | _=>rfl
theorem gX.put{n:Nat}{X:Fr}{a:Act}(Z:gX n X a){q:Oper}(aJ:tB n q=true)(v:Value):gX n (nL X q.dst v) (a.put q.dst v):=by
 unfold tB at aJ
 cases J:q.dst with
 | none=>exact Z
 | some bH=>
  rw [J] at aJ
  have dE:bH < n:=by simpa [Nat.blt_eq] using aJ
  refine⟨by simp [Act.put,Z.size],by simp [Act.put,Z.defers],fun t=>?_⟩
  simp only [Act.put,nL,lV]
  rw [Array.getD_eq_getD_getElem?,Array.getElem?_setIfInBounds]
  cases L:Nat.beq t bH with
  | true=>
   obtain rfl:=Nat.eq_of_beq_eq_true L
   have:t < a.tmps.size:=by rw [Z.size];exact dE
   simp [this]
  | false=>
   have:bH ≠ t:=fun J=>by subst J;simp at L
   rw [if_neg this,← Array.getD_eq_getD_getElem?,Z.get t]
   rfl
section
variable {P:Program} {E:Env}
theorem zW(c2:iH P E){q:Oper}{X:Fr}{Z:V}{p:Value→Prop}(aJ:hZ E q.op X Z p):
  ∃ v,p v∧∀ aA:World,(∀ t a o,q.op=.load t a→cO X a=.pointer (some o)→aA.heap[o.block]?=Z[o.block]?)→(execOp (cO X) q).run P aA=.ok (.value v) aA:=by
 obtain⟨Lx,op,Lg,Ly,Lz,guard⟩:=q
 simp only at aJ
 cases op with
 | move I=>exact⟨_,aJ,fun aA _=>rfl⟩
 | assign I=>exact⟨_,aJ,fun aA _=>rfl⟩
 | pick L a N=>
  simp only [hZ] at aJ
  split at aJ
  ·rename_i t h
   cases t with
   | true=>exact⟨_,aJ,fun aA _=>by simp [execOp,h,Go.asBool]⟩
   | false=>exact⟨_,aJ,fun aA _=>by simp [execOp,h,Go.asBool]⟩
  ·cases aJ
 | load t a=>
  simp only [hZ] at aJ
  split at aJ
  ·rename_i o Q Lb D
   obtain⟨v,aU,c⟩:=BD c2 D aJ
   exact⟨v,aU,fun aA Lh=>by simp [execOp,Lb,c aA (Lh _ _ _ rfl Lb)]⟩
  ·cases aJ
 | binOp op t I aN LA=>
  obtain⟨v,aU,c⟩:=Ew c2 (aL:=I) (bA:=aN) aJ
  exact⟨v,aU,fun aA _=>by
   have:=c aA
   simp only [execOp,Sem.run_bind] at this ⊢
   rw [this];rfl⟩
 | unOp op t I=>
  obtain⟨v,aU,c⟩:=Ex (P:=P) aJ
  exact⟨v,aU,fun aA _=>by simp [execOp,c aA]⟩
 | convert O bH I=>
  simp only [hZ] at aJ
  split at aJ
  ·rename_i aR LB LC M fS N eA n a0 d i
   have eE:=zQ (c2.dW _ _ a0)
   have Li:=zQ (c2.dW _ _ d)
   exact⟨_,aJ.out,fun aA _=>by simp [execOp,convert,gP eE,gP Li,i,Conv.intToInt]⟩
  ·cases aJ
 | indexAddr t I Q=>
  simp only [hZ] at aJ
  split at aJ
  ·rename_i J fS N a l L M n a0 d i
   split at aJ
   ·rename_i Lc G
    have eE:=o4 (c2.dW _ _ a0)
    obtain⟨g,bE,aY,_⟩:=p3 (c2.dW _ _ G)
    rw [← aY] at aJ
    obtain⟨o,K5,c⟩:=Ey eE bE (L:=L) (M:=M) aJ
    exact⟨_,K5,fun aA _=>by simp [execOp,d,i,c aA]⟩
   ·cases aJ
  ·rename_i o M n a0 d i
   split at aJ
   ·rename_i m J Lj
    split at aJ
    ·rename_i Lc G
     have eE:=c2.arr _ _ Lj
     obtain⟨g,bE,aY,_⟩:=p3 (c2.dW _ _ G)
     rw [← aY] at aJ
     obtain⟨LD,K5,c⟩:=Ez eE bE (M:=M) aJ
     exact⟨_,K5,fun aA _=>by simp [execOp,d,i,c aA]⟩
    ·cases aJ
   ·cases aJ
  ·cases aJ
 | index t I Q=>
  simp only [hZ] at aJ
  split at aJ
  ·rename_i fS N O M n a0 d i
   have eE:=uX (c2.dW _ _ a0)
   obtain⟨aB,aJ⟩:=aJ
   split at aJ
   ·rename_i L K6
    exact⟨_,aJ,fun aA _=>by simp [execOp,d,i,Instr.index,asIntOf,gP eE,aB,K6]⟩
   ·cases aJ
  ·cases aJ
 | extract I Q=>
  simp only [hZ] at aJ
  split at aJ
  ·rename_i bW K7
   split at aJ
   ·rename_i v aU
    have K8:bW[Q]?=some v:=by simpa using aU
    exact⟨v,aJ,fun aA _=>by simp [execOp,K7,Instr.extract,K8]⟩
   ·cases aJ
  ·cases aJ
 | fieldAddr O I a9=>
  simp only [hZ] at aJ
  split at aJ
  ·rename_i o eO fS N a0 d
   split at aJ
   ·rename_i off t dJ
    split at aJ
    ·rename_i Q bE
     cases j:Nat.beq Q.leaves.length 0 with
     | true=>simp [j] at aJ
     | false=>
      simp only [j,cond_false] at aJ
      obtain⟨e,dU,J⟩:=xG (c2.dW _ _ d)
      subst J
      have K9:∃ b,e[a9]?=some b∧b.offset=off∧b.type=t:=by
       rw [List.getElem?_map] at dJ
       cases f:e.toList[a9]? with
       | none=>simp [f] at dJ
       | some b=>simp [f] at dJ;exact⟨b,by simpa using f,dJ.1,dJ.2⟩
      obtain⟨b,H,rfl,rfl⟩:=K9
      exact⟨_,aJ,fun aA _=>by
       obtain⟨g,hI,aY,_⟩:=p3 (c2.dW _ _ bE)
       have Lk:¬ g.size=0:=by rw [aY];intro Ll;rw [Ll] at j;simp at j
       simp [execOp,a0,Instr.fieldAt,gP dU,H,Instr.sureAddr,fieldPlace,k9 hI,Lk]⟩
    ·cases aJ
   ·cases aJ
  ·cases aJ
 | field t I a9=>
  simp only [hZ] at aJ
  split at aJ
  ·rename_i cQ eO fS N a0 d
   split at aJ
   ·rename_i off Lm dJ
    obtain⟨e,dU,J⟩:=xG (c2.dW _ _ d)
    subst J
    have K9:∃ b,e[a9]?=some b∧b.offset=off∧b.type=Lm:=by
     rw [List.getElem?_map] at dJ
     cases f:e.toList[a9]? with
     | none=>simp [f] at dJ
     | some b=>simp [f] at dJ;exact⟨b,by simpa using f,dJ.1,dJ.2⟩
    obtain⟨b,H,rfl,rfl⟩:=K9
    split at aJ
    ·rename_i LF Ld gG D
     have h:=c2.dW _ _ D
     obtain⟨g,hI,aY,_⟩:=p3 h
     refine⟨_,aJ,fun aA _=>?_⟩
     simp only at aY
     have Ln:cQ.extract b.offset (b.offset+g.size)=((cQ.toList.drop b.offset).take Ld.length).toArray:=by
      apply Array.ext'
      simp [aY]
     simp [execOp,a0,Instr.field,gP dU,H,bU,part,Br h,k9 hI,Ln,Go.asAgg]
    ·cases aJ
    ·rename_i Q Lo LG D
     split at aJ
     ·rename_i v aU
      have K8:cQ[b.offset]?=some v:=by simpa using aU
      have aY:Q.dW.uY=false:=by
       obtain⟨dW,Ld,gG⟩:=Q
       cases dW <;> first | rfl | exact absurd rfl (Lo _ _ _)
      refine⟨v,aJ,fun aA _=>?_⟩
      simp [execOp,a0,Instr.field,gP dU,H,part,Bq (c2.dW _ _ D) aY,K8,Go.asAgg]
     ·cases aJ
    ·cases aJ
   ·cases aJ
  ·cases aJ
 | build t Le=>
  simp only [hZ] at aJ
  split at aJ
  ·rename_i eO fS N a0
   cases La:uS E eO with
   | false=>simp [La] at aJ
   | true=>
    simp only [La,cond_true] at aJ
    split at aJ
    ·rename_i LH K6
     refine⟨_,aJ,fun aA _=>?_⟩
     have h:=c2.dW _ _ a0
     obtain⟨e,dU,J⟩:=xG h
     subst J
     obtain⟨g,bE,aY,aP,b3,j,Lp⟩:=uZ h rfl
     have Lf:=BF La
     have Lq:∀ a9 ∈ e.toList,∃ g,P.info? a9.type=some g:=by
      intro a9 dJ
      obtain⟨Q,bE⟩:=Lf (a9.offset,a9.type) (List.mem_map.2 ⟨a9,dJ,rfl⟩)
      obtain⟨g,a0,_⟩:=p3 (c2.dW _ _ bE)
      exact⟨g,a0⟩
     have Lr:=EC (P:=P) Lq aA
     have Ls:(e.mapM fun (a9:Field)=>(do pure (a9.offset,← sizeOf a9.type):Sem (Nat × Nat))).run P aA=.ok (e.toList.map fun a9=>(a9.offset,P.cellsOf a9.type)).toArray aA:=by
      rw [Array.mapM_eq_mapM_toList,Sem.run_map,Lr];rfl
     have Lt:∀ C,((e.toList.map fun a9=>(a9.offset,P.cellsOf a9.type)).toArray)[C]?=zN E (e.toList.map fun a9=>(a9.offset,a9.type)) C:=by
      intro C
      unfold zN
      rw [List.getElem?_map]
      cases f:e.toList[C]? with
      | none=>simpa using f
      | some a9=>
       obtain⟨Q,bE⟩:=Lf (a9.offset,a9.type) (List.mem_map.2 ⟨a9,List.mem_of_getElem? f,rfl⟩)
       have:P.cellsOf a9.type=Q.leaves.length:=ED (c2.dW _ _ bE)
       simp at f
       simp [f,bE,this]
     have Lu:=zU Lt _ _ _ K6
     simp only [execOp,Sem.run_bind,Instr.build,u0 bE j,Result.andThen,gP dU,Ls]
     have Lv:b3.cells=(fS.map hO.zero).toArray:=by apply Array.ext';simpa [dO.aK] using Lp
     rw [Lv]
     have Lw:(Array.map (fun (I:Nat × Operand)=>match I with | (Q,I)=>(Q,cO X I)) Le).toList=Le.toList.map fun (Q,I)=>(Q,cO X I):=by simp
     rw [Lw,Lu]
     rfl
    ·cases aJ
  ·cases aJ
 | nilCheck I=>
  simp only [hZ] at aJ
  split at aJ
  ·rename_i o K7
   exact⟨_,aJ,fun aA _=>by simp [execOp,K7]⟩
  ·cases aJ
 | slice t I c5 bE LI=>
  simp only [hZ] at aJ
  split at aJ
  ·rename_i J fS N a l L a0 d
   split at aJ
   ·rename_i Lc G
    have eE:=o4 (c2.dW _ _ a0)
    obtain⟨g,hI,aY,_⟩:=p3 (c2.dW _ _ G)
    rw [← aY] at aJ
    obtain⟨v,aU,c⟩:=EA eE hI aJ
    exact⟨v,aU,fun aA _=>by simp [execOp,d,c aA]⟩
   ·cases aJ
  ·rename_i fS N O a0 d
   split at aJ
   ·have eE:=uX (c2.dW _ _ a0)
    obtain⟨v,aU,c⟩:=EB eE aJ
    exact⟨v,aU,fun aA _=>by simp [execOp,d,c aA]⟩
   ·cases aJ
  ·cases aJ
 | call L=>
  obtain⟨v,aU,c⟩:=EF c2 (kV:=Lg) aJ
  exact⟨v,aU,fun aA _=>c aA⟩
 | _=>exact aJ.elim
end
set_option linter.unusedSimpArgs false
theorem add_zero(o:Addr):o.add 0=o:=by simp [Addr.add]
theorem EG{Z:V}{a o:Addr}{v q:Value}(b:fQ Z o=some q):∃ fM,fQ (fY Z a v) o=some fM:=by
 unfold fQ fY at *
 rw [Array.getElem?_modify]
 split at b
 ·rename_i L J a9 d
  by_cases aP:a.block=o.block
  ·rw [if_pos aP,d]
   simp only [Option.map_some]
   by_cases aY:o.spot.isSome=true
   ·simp [aY] at b
   ·simp only [aY] at b ⊢
    have dE:o.off < L.size:=by
     rcases Nat.lt_or_ge o.off L.size with c | c
     ·exact c
     ·simp [Array.getElem?_eq_none c] at b
    cases a.spot.isSome with
    | true=>exact⟨q,by simpa using b⟩
    | false=>simp only [Bool.false_eq_true,if_false];rw [Array.getElem?_setIfInBounds];split <;> simp_all
  ·rw [if_neg aP,d];exact⟨q,b⟩
 ·cases b
theorem EH(Z:V)(a o:Addr)(v:Value):mB (fY Z a v) o=mB Z o:=by
 unfold mB fY
 rw [Array.getElem?_modify]
 by_cases aP:a.block=o.block
 ·rw [if_pos aP]
  cases c:Z[o.block]? with
  | none=>rfl
  | some b=>cases b <;> rfl
 ·rw [if_neg aP]
theorem BI{Z:V}{z a:Addr}{v:Value}:∀ {n Q:Nat},o1 Z z Q n→o1 (fY Z a v) z Q n
 | 0,_,_=>trivial
 | n+1,Q,aY=>by
  obtain⟨⟨⟨q,b⟩,dJ⟩,c⟩:=aY
  exact⟨⟨EG b,by rw [EH];exact dJ⟩,BI c⟩
section
variable {P:Program} {E:Env}
theorem BJ{o:Addr}:∀ {l:List Value} {Q:Nat} {aA:World} {p:V→Prop},s5 aA.heap o Q l p→∃ cV,(storeCells o l Q).run P aA=.ok () cV∧fR aA cV∧p cV.heap
 | [],Q,aA,p,Z=>⟨aA,rfl,fR.refl aA,Z⟩
 | v :: bW,Q,aA,p,Z=>by
  unfold s5 at Z
  cases a:nO v with
  | false=>simp [a] at Z
  | true=>
   simp only [a,cond_true] at Z
   obtain⟨⟨a0,b⟩,c⟩:=Z
   have d:=zS (P:=P) a0 b a
   obtain⟨cV,s,O,M⟩:=BJ (aA:=aA.setCell (o.add Q) v) c
   exact⟨cV,by simp only [storeCells,Sem.run_bind,d,Result.andThen,s],fR.trans (N:=aA.setCell _ v) ⟨rfl,rfl,rfl⟩ O,M⟩
theorem xK{z:Addr}:∀ {bW:List Value} {Q:Nat} {aA:World},o1 aA.heap z Q bW.length→(∀ v ∈ bW,nO v=true)→
  ∃ cV,(storeCells z bW Q).run P aA=.ok () cV∧fR aA cV∧cV.heap=iD aA.heap z Q bW
 | [],Q,aA,_,_=>⟨aA,rfl,fR.refl aA,rfl⟩
 | v :: bW,Q,aA,Z,a=>by
  obtain⟨⟨a0,b⟩,c⟩:=Z
  have d:=zS (P:=P) a0 b (a v (by simp))
  obtain⟨cV,s,O,M⟩:=xK (aA:=aA.setCell (z.add Q) v) (Q:=Q+1) (bW:=bW) (BI c) (fun I e=>a I (by simp [e]))
  exact⟨cV,by simp only [storeCells,Sem.run_bind,d,Result.andThen,s],fR.trans (N:=aA.setCell _ v) ⟨rfl,rfl,rfl⟩ O,M⟩
theorem v3(aK:List Value):∀ n,(hT aK n).length=n*aK.length
 | 0=>by simp [hT]
 | n+1=>by simp [hT,v3 aK n,Nat.succ_mul];omega
theorem BK(aK:List Value):∀ n Q,Q < n*aK.length→(hT aK n)[Q]?=aK[Q % aK.length]?
 | 0,Q,Z=>by simp at Z
 | n+1,Q,Z=>by
  simp only [hT]
  by_cases bE:Q < aK.length
  ·rw [List.getElem?_append_left bE,Nat.mod_eq_of_lt bE]
  ·have hI:aK.length≤Q:=by omega
   rw [List.getElem?_append_right hI,BK aK n (Q - aK.length) (by rw [Nat.succ_mul] at Z;omega)]
   congr 1
   rw [Nat.mod_eq_sub_mod hI]
theorem zX(aK:List Value)(n m:Nat)(b:m=n*aK.length)(b3:Array Value)(c:b3=aK.toArray):(Array.range m).map (fun Q=>b3[Q % b3.size]!)=(hT aK n).toArray:=by
 subst c;subst b
 apply Array.ext
 ·simp [v3]
 ·intro Q a0 g
  simp only [Array.size_map,Array.size_range] at a0
  simp only [Array.getElem_map,Array.getElem_range]
  have d:0 < aK.length:=by
   rcases Nat.eq_zero_or_pos aK.length with Z | Z
   ·rw [Z] at a0;simp at a0
   ·exact Z
  have dE:Q % aK.length < aK.length:=Nat.mod_lt _ d
  have a:=BK aK n Q a0
  rw [List.getElem?_eq_getElem dE,List.getElem?_eq_getElem (by rw [v3];exact a0)] at a
  have e:=Option.some.inj a
  have f:Q % aK.toArray.size < aK.toArray.size:=by simpa using dE
  rw [getElem!_pos aK.toArray _ f]
  simp [e]
theorem BL(aK:List Value)(n m:Nat)(a:m=n*aK.length)(b3:Array Value)(b:m ≠ 0→b3=aK.toArray):(Array.range m).map (fun Q=>b3[Q % b3.size]!)=(hT aK n).toArray:=by
 by_cases aB:m=0
 ·subst aB
  have:(hT aK n).length=0:=by rw [v3];exact a.symm
  rw [List.length_eq_zero_iff] at this
  rw [this];simp
 ·exact zX aK n m a b3 (b aB)
theorem zY(Q:dO):Q.aK.length=Q.leaves.length:=by simp [dO.aK]
theorem xL{aA:World}{eZ:Nat}{I:Value}{n:Nat}{cQ:List Value}(Z:vV aA.heap eZ I n cQ):(Builtin.firstCells eZ n I).run P aA=.ok cQ.toArray aA:=by
 obtain⟨a,_,Z⟩:=Z
 split at Z
 ·have b:=xH (P:=P) cQ _ 0 #[] aA Z
  simp only [Builtin.firstCells,loadCells,← a,b]
  simp
 ·subst Z;rfl
 ·subst Z
  simp only [Builtin.firstCells,Sem.run_pure]
  congr 1
  apply Array.ext'
  simp
 ·cases Z
theorem BM{I:Value}{n:Nat}(Z:w9 I=some n)(aA:World):(Builtin.lenOf I).run P aA=.ok n aA:=by
 unfold w9 at Z
 split at Z <;> simp_all [Builtin.lenOf]
theorem EI(c2:iH P E){t:TypeId}(Z:uV E t=true):(∃ J,P.underlying t=some (.slice J))∨P.underlying t=some .string:=by
 unfold uV at Z
 split at Z
 ·rename_i a;exact .inl ⟨_,o4 (c2.dW _ _ a)⟩
 ·rename_i a;exact .inr (uX (c2.dW _ _ a))
 ·cases Z
set_option maxHeartbeats 2000000 in
theorem EJ(c2:iH P E){t D J dW:TypeId}{Q:dO}{fS:List hO}{N:Nat}(a0:look E.types t=some ⟨.slice J,fS,N⟩)(K6:look E.types J=some Q)(K7:uV E D=true)
  (K8:Q.dW.isTuple=false) {a:U} {l L:Nat} {I:Value} {aA:World} {p:Value→V→Prop} (aJ:gW aA.heap J Q a l L I fun a l L A=>p (.slice a l L) A) :
  ∃ v cV,(Builtin.append_ #[t,D] dW #[.slice a l L,I]).run P aA=.ok v cV∧fR aA cV∧p v cV.heap:=by
 have eE:=o4 (c2.dW _ _ a0)
 obtain⟨d,bE,aY,aP,b3,K9,La⟩:=uZ (c2.dW _ _ K6) K8
 have G:b3.cells=Q.aK.toArray:=by apply Array.ext';simpa using La
 have h:=EI c2 K7
 obtain⟨n,cQ,Lb,i,f,Lc⟩:=aJ
 have j:=fun Ld=>BM (P:=P) Lb Ld
 by_cases e:l+n≤L
 ·have f:=f e
  have g:(Builtin.firstCells d.size n I).run P aA=.ok cQ.toArray aA:=xL (by rw [aY];exact i)
  cases a with
  | none=>
   refine⟨_,aA,?_,fR.refl aA,f⟩
   rcases h with ⟨H,b⟩ | b <;>
    simp [Builtin.append_,gP eE,gP b,k9 bE,j,e,g]
  | some z=>
   obtain⟨Le,m⟩:=f
   obtain⟨cV,s,O,Lf⟩:=xK (P:=P) Le i.2.1
   refine⟨_,cV,?_,O,by rw [Lf];exact m⟩
   rw [← aY] at s
   rcases h with ⟨H,b⟩ | b <;>
    simp [Builtin.append_,gP eE,gP b,k9 bE,j,e,g,s]
 ·obtain⟨Lm,Ln,Lo,qY,Lg,m⟩:=Lc e
  have g:(Builtin.firstCells d.size n I).run P aA.drew=.ok cQ.toArray aA.drew:=xL (by rw [aY];exact i)
  have Lh:(Builtin.firstCells d.size l (.slice a l L)).run P aA.drew=.ok qY.toArray aA.drew:=xL (by rw [aY];exact Lg)
  have Li:d.bytes ≠ 0:=by rw [aP];omega
  have Lj:¬ 281474976710656 < Builtin.nextslicecap (l+n) L*d.bytes:=by rw [aP];omega
  obtain⟨c,K5⟩:∃ c,c=Question.cut (.appendCap (l+n) L J) (aA.tape aA.drawn (.appendCap (l+n) L J)):=⟨_,rfl⟩
  have Lk:l+n≤c:=by rw [K5];simp only [Question.cut];omega
  have Ll:Builtin.zeroCells b3.cells (c - (l+n))=(hT Q.aK (c - (l+n))).toArray:=by
   unfold Builtin.zeroCells
   exact zX Q.aK _ _ (by rw [G];simp) _ G
  have dJ:(Question.appendCap (l+n) L J).forced=false:=rfl
  refine⟨_,aA.drew.alloc (.cells (qY ++ (cQ ++ hT Q.aK (c - (l+n)))).toArray J (0,0)),?_,⟨rfl,rfl,rfl⟩,m c Lk⟩
  rcases h with ⟨H,b⟩ | b <;>
   simp [Builtin.append_,gP eE,gP b,k9 bE,j,e,zR bE,Li,Lj,Lh,g,u0 bE K9,newRow,Ll,dJ,← K5]
theorem EK(c2:iH P E){t J dW:TypeId}{rV:List TypeId}{Q:dO}{fS:List hO}{N:Nat}(a0:look E.types t=some ⟨.slice J,fS,N⟩)(f:look E.types J=some Q)
  {a:U} {l L:Nat} {I:Value} {aA:World} {p:Value→V→Prop} (aJ:mW aA.heap Q.leaves.length a l I fun n A=>p (.int .i64 n) A) :
  ∃ v cV,(Builtin.copy_ (t :: rV).toArray dW #[.slice a l L,I]).run P aA=.ok v cV∧fR aA cV∧p v cV.heap:=by
 have eE:=o4 (c2.dW _ _ a0)
 obtain⟨g,bE,aY,_⟩:=p3 (c2.dW _ _ f)
 obtain⟨n,cQ,h,b,aJ⟩:=aJ
 have c:=fun i=>BM (P:=P) h i
 have d:(Builtin.firstCells g.size (Nat.min n l) I).run P aA=.ok cQ.toArray aA:=xL (by rw [aY];exact b)
 have e:min n l=Nat.min n l:=rfl
 cases a with
 | none=>
  refine⟨_,aA,?_,fR.refl aA,aJ⟩
  simp [Builtin.copy_,gP eE,k9 bE,c,d,goInt,e]
 | some z=>
  obtain⟨j,m⟩:=aJ
  obtain⟨cV,s,O,D⟩:=xK (P:=P) j b.2.1
  refine⟨_,cV,?_,O,by rw [D];exact m⟩
  simp [Builtin.copy_,gP eE,k9 bE,c,d,goInt,s,e]
theorem EL(Q:dO):∀ v ∈ Q.aK,nO v=true:=by
 intro v aU
 obtain⟨M,_,rfl⟩:=List.mem_map.1 aU
 cases M <;> rfl
theorem BN{aK:List Value}(Z:∀ v ∈ aK,nO v=true):∀ n,∀ v ∈ hT aK n,nO v=true
 | 0,v,aU=>by simp [hT] at aU
 | n+1,v,aU=>by
  simp only [hT,List.mem_append] at aU
  rcases aU with aU | aU
  ·exact Z v aU
  ·exact BN Z n v aU
theorem EM(c2:iH P E){t J dW:TypeId}{Q:dO}{fS:List hO}{N:Nat}(a0:look E.types t=some ⟨.slice J,fS,N⟩)(c:look E.types J=some Q)(d:Q.dW.isTuple=false)
  {a:U} {l L:Nat} {aA:World} {p:Value→V→Prop} (aJ:xA aA.heap Q a l fun A=>p (.tuple #[]) A) :
  ∃ v cV,(Builtin.clear_ #[t] dW #[.slice a l L]).run P aA=.ok v cV∧fR aA cV∧p v cV.heap:=by
 have eE:=o4 (c2.dW _ _ a0)
 obtain⟨n,bE,aY,aP,b3,e,f⟩:=uZ (c2.dW _ _ c) d
 have b:b3.cells=Q.aK.toArray:=by apply Array.ext';simpa using f
 cases a with
 | none=>exact⟨_,aA,by simp [Builtin.clear_,gP eE],fR.refl aA,aJ⟩
 | some z=>
  cases l with
  | zero=>exact⟨_,aA,by simp [Builtin.clear_,gP eE],fR.refl aA,aJ⟩
  | succ l=>
   obtain⟨g,h⟩:=aJ
   have i:(hT Q.aK (l+1)).length=(l+1)*Q.leaves.length:=by rw [v3,zY]
   obtain⟨cV,s,O,j⟩:=xK (P:=P) (bW:=hT Q.aK (l+1)) (by rw [i];exact g) (BN (EL Q) _)
   have m:Builtin.zeroCells b3.cells (l+1)=(hT Q.aK (l+1)).toArray:=by
    unfold Builtin.zeroCells
    exact zX Q.aK _ _ (by rw [b];simp) _ b
   refine⟨_,cV,?_,O,by rw [j];exact h⟩
   simp [Builtin.clear_,gP eE,u0 bE e,m,s]
theorem EN(c2:iH P E){t J:TypeId}{Q:dO}{fS:List hO}{N:Nat}(a0:look E.types t=some ⟨.slice J,fS,N⟩)(j:look E.types J=some Q)(l:Q.dW.isTuple=false)
  {M eA:IntKind} {n m:Int} {aA:World} {p:Value→V→Prop} (aJ:h8 aA.heap J Q n m fun z A=>p (.slice (some z) n.toNat m.toNat) A) :
  ∃ v cV,(Instr.makeSlice t (.int M n) (.int eA m)).run P aA=.ok v cV∧fR aA cV∧p v cV.heap:=by
 have eE:=o4 (c2.dW _ _ a0)
 obtain⟨a,bE,aY,aP,b3,D,G⟩:=uZ (c2.dW _ _ j) l
 have H:b3.cells=Q.aK.toArray:=by apply Array.ext';simpa using G
 obtain⟨⟨K9,K5,La,Lb⟩,K6⟩:=aJ
 have Lc:m≤281474976710656:=by
  have:(1:Int)*m≤(Q.bytes:Int)*m:=Int.mul_le_mul_of_nonneg_right (by omega) (by omega)
  omega
 have Ld:¬ (Q.bytes:Int)*n > 281474976710656:=by
  have:(Q.bytes:Int)*n≤(Q.bytes:Int)*m:=Int.mul_le_mul_of_nonneg_left K5 (by omega)
  omega
 have c:IntKind.i64.wrap n=n:=by simp [IntKind.wrap,IntKind.bits,IntKind.signed];omega
 have d:IntKind.i64.wrap m=m:=by simp [IntKind.wrap,IntKind.bits,IntKind.signed];omega
 have e:∀ aN:Array Value,(m.toNat*a.size ≠ 0→aN=b3.cells)→(Array.range (m.toNat*a.size)).map (fun C=>aN[C % aN.size]!)=(hT Q.aK m.toNat).toArray:=by
  intro aN K7
  exact BL Q.aK _ _ (by rw [aY,zY]) _ fun Z=>by rw [K7 Z,H]
 refine⟨_,{ aA with heap:=aA.heap.push (.cells (hT Q.aK m.toNat).toArray J (0,0)) },?_,⟨rfl,rfl,rfl⟩,K6⟩
 have f:¬ m < 0:=by omega
 have bX:¬ (281474976710656:Int) < (a.bytes:Int)*m:=by rw [aP];omega
 have g:¬ n < 0:=by omega
 have h:¬ n > m:=by omega
 have i:¬ m < n:=by omega
 by_cases aB:m.toNat*a.size=0
 ·have b:=e #[] (fun Z=>absurd aB Z)
  rw [aB] at b
  have K8:(hT Q.aK m.toNat).toArray=#[]:=by rw [← b];simp
  simp only [Instr.makeSlice,Sem.run_bind,gP eE,Result.andThen,Go.asInt,asIntOf,Sem.run_pure,zR bE,c,d]
  simp [f,bX,g,h,i,k9 bE,aB,newRow,K8,Array.range_zero']
 ·have b:=e b3.cells (fun _=>rfl)
  simp only [Instr.makeSlice,Sem.run_bind,gP eE,Result.andThen,Go.asInt,asIntOf,Sem.run_pure,zR bE,c,d]
  simp [f,bX,g,h,i,k9 bE,aB,u0 bE D,newRow,b]
theorem EO{aA:World}{o:Addr}{kV:TypeId}{c:Int→Int→V→Prop}{d:Prop}(aJ:xB aA.heap o c d):
  (∃ Q L cV,(Instr.next (.pointer (some o)) true kV).run P aA=.ok (.tuple #[.bool true,.int .i64 Q,.int .i32 L]) cV∧fR aA cV∧c Q L cV.heap)∨
  ((Instr.next (.pointer (some o)) true kV).run P aA=.ok (.tuple #[.bool false]) aA∧d):=by
 obtain⟨N,off,f⟩:=o
 obtain⟨aB,O,b,aP,e,aR⟩:=aJ
 dsimp only at aB aP e
 subst aB
 by_cases a:b < O.size
 ·refine .inl ⟨_,_,{ aA with heap:=Bn aA.heap N O (b+(Utf8.decode O b).2) },?_,⟨rfl,rfl,rfl⟩,e a⟩
  simp only [Instr.next,getObj,setObj,Sem.run_bind,Sem.run,aP,Result.andThen,a,if_true]
  rfl
 ·refine .inr ⟨?_,aR a⟩
  simp [Instr.next,getObj,Sem.run,aP,a]
theorem EP{aA:World}{a:U}{l L:Nat}{p:ByteArray→Prop}(aJ:xC aA.heap a l p):∃ O,(Conv.bytesToString (.slice a l L)).run P aA=.ok (.string O) aA∧p O:=by
 cases a with
 | none=>exact⟨_,rfl,aJ⟩
 | some z=>
  obtain⟨b,c,d,e⟩:=aJ
  refine⟨_,?_,e⟩
  have a0:=xH (P:=P) (b.map fun N=>Value.int .u8 N.toNat) z 0 #[] aA d
  rw [List.length_map,c] at a0
  have f:∀ (l:List UInt8) (O:ByteArray),List.foldl (fun (N:ByteArray) (a:UInt8)=>N.push a) O l=⟨O.data ++ l.toArray⟩:=by
   intro l
   induction l with
   | nil=>intro O;simp
   | cons I l g=>intro O;rw [List.foldl_cons,g];simp [ByteArray.push]
  simp [Conv.bytesToString,loadCells,a0,f]
def o5(P:Program)(q:Oper)(a:Act)(aA:World)(v:Value):Prop:=(execOp a.eval q).run P aA=.ok (.value v) aA
def zZ(P:Program)(q:Oper)(a:Act)(aA:World)(v:Value):Prop:=
 ∃ a9 args,(execOp a.eval q).run P aA=.ok (.enter a9 args) aA∧Calls P a9 args aA (fun J cV=>J=.returned v∧fR aA cV∧cV.heap=aA.heap)
def nP(P:Program)(q:Oper)(a:Act)(aA:World)(bN:Value→V→Prop):Prop:=
 (∃ v cV,(execOp a.eval q).run P aA=.ok (.value v) cV∧fR aA cV∧bN v cV.heap)∨
 (∃ cV,(execOp a.eval q).run P aA=.ok .skip cV∧fR aA cV∧bN undef cV.heap)∨
 (∃ a9 args,(execOp a.eval q).run P aA=.ok (.enter a9 args) aA∧Calls P a9 args aA (fun J cV=>∃ v,J=.returned v∧fR aA cV∧bN v cV.heap))
theorem nP.mono{q:Oper}{a:Act}{aA:World}{bN gH:Value→V→Prop}(b:∀ v Z,bN v Z→gH v Z)(Z:nP P q a aA bN):nP P q a aA gH:=by
 rcases Z with ⟨v,cV,s,O,M⟩ | ⟨cV,s,O,M⟩ | ⟨a9,args,s,L⟩
 ·exact .inl ⟨v,cV,s,O,b _ _ M⟩
 ·exact .inr (.inl ⟨cV,s,O,b _ _ M⟩)
 ·exact .inr (.inr ⟨a9,args,s,L.mono fun _ _ ⟨v,J,O,M⟩=>⟨v,J,O,b _ _ M⟩⟩)
theorem nP.some{q:Oper}{a:Act}{aA:World}{bN:Value→V→Prop}(Z:nP P q a aA bN):∃ v A,bN v A:=by
 rcases Z with ⟨v,cV,s,O,M⟩ | ⟨cV,s,O,M⟩ | ⟨a9,args,s,L⟩
 ·exact⟨v,_,M⟩
 ·exact⟨_,_,M⟩
 ·obtain⟨J,cV,X,⟨v,_,_,M⟩,_⟩:=L []
  exact⟨v,_,M⟩
theorem nP.wp{q:Oper}{a:Act}{aA:World}{bN:Value→V→Prop}(Z:nP P q a aA bN){next:Act→World→Prop}{b7:Exit→Act→World→Prop}
  (b:∀ v cV,fR aA cV→bN v cV.heap→next (a.put q.dst v) cV):q.wp P a aA next b7:=by
 unfold Oper.wp
 rcases Z with ⟨v,cV,s,O,M⟩ | ⟨cV,s,O,M⟩ | ⟨a9,args,s,L⟩
 ·rw [s];exact b v cV O M
 ·rw [s];exact b _ cV O M
 ·rw [s,Oper.upon_enter]
  refine L.mono ?_
  rintro J cV ⟨v,rfl,O,M⟩
  exact b v cV O M
theorem z0(c2:iH P E){q:Oper}{X:Fr}{a:Act}(K7:a.eval=cO X){aA:World}{p:Value→V→Prop}(aJ:jA P E q.op q.type X aA.heap p):nP P q a aA p:=by
 have c:∀ v cV,(execOp (cO X) q).run P aA=.ok (.value v) cV→fR aA cV→p v cV.heap→nP P q a aA p:=by
  intro v cV D O M
  exact .inl ⟨v,cV,by rw [K7];exact D,O,M⟩
 obtain⟨Ld,op,i,Le,Lf,guard⟩:=q
 simp only at aJ
 cases op with
 | range t I=>
  simp only [jA] at aJ
  split at aJ
  ·rename_i fS N O b h
   have eE:=uX (c2.dW _ _ b)
   refine c _ { aA with heap:=aA.heap.push (.stringIter O 0) } ?_ ⟨rfl,rfl,rfl⟩ aJ
   simp [execOp,h,Instr.range,gP eE]
  ·cases aJ
 | next I N=>
  cases N with
  | false=>exact aJ.elim
  | true=>
   simp only [jA,cond_true] at aJ
   split at aJ
   ·rename_i o h
    rcases EO (P:=P) (kV:=i) aJ with ⟨Q,L,cV,s,O,M⟩ | ⟨s,M⟩
    ·exact c _ cV (by simp [execOp,h,s]) O M
    ·exact c _ aA (by simp [execOp,h,s]) ⟨rfl,rfl,rfl⟩ M
   ·cases aJ
 | convert O bH I=>
  simp only [jA] at aJ
  split at aJ
  ·rename_i J fS N LJ LK S l j Lm Ln h
   split at aJ
   ·rename_i LL fH Lo
    have eE:=o4 (c2.dW _ _ Lm)
    have Lp:=uX (c2.dW _ _ Ln)
    have Lq:=zQ (c2.dW _ _ Lo)
    obtain⟨O,s,M⟩:=EP (P:=P) (L:=j) aJ
    refine c _ aA ?_ ⟨rfl,rfl,rfl⟩ M
    simp [execOp,h,convert,gP eE,gP Lp,gP Lq,s]
   ·cases aJ
  ·cases aJ
 | store t I v=>
  simp only [jA] at aJ
  split at aJ
  ·rename_i o Q h b
   obtain⟨e,bE,aY,_⟩:=p3 (c2.dW _ _ b)
   have Lg:∀ cV,(storeCells o (cO X v).cells.toList).run P aA=.ok () cV→(cO X v).cells.size=e.size→fR aA cV→p undef cV.heap→nP P ⟨Ld,.store t I v,i,Le,Lf,guard⟩ a aA p:=by
    intro cV D Lr O M
    refine .inr (.inl ⟨cV,?_,O,M⟩)
    rw [K7]
    simp [execOp,h,Instr.storeAt,Instr.sureAddr,storeVar,k9 bE,Lr,D]
   unfold uU at aJ
   split at aJ
   ·rename_i cQ aU
    cases aP:Nat.beq cQ.toList.length Q.leaves.length with
    | false=>rw [aP] at aJ;cases aJ
    | true=>
     rw [aP] at aJ
     simp only [cond_true] at aJ
     obtain⟨cV,s,O,M⟩:=BJ (P:=P) aJ
     have:=Nat.eq_of_beq_eq_true aP
     exact Lg cV (by rw [aU];exact s) (by rw [aU,aY,← this];simp [Value.cells]) O M
   ·cases aJ
   ·rename_i LM H Lh
    cases aP:Nat.beq 1 Q.leaves.length with
    | false=>rw [aP] at aJ;cases aJ
    | true=>
     rw [aP] at aJ
     simp only [cond_true] at aJ
     obtain⟨⟨Ls,Lt⟩,Lu⟩:=aJ
     have Lv:nO (cO X v)=true:=by
      cases J:cO X v <;> first | rfl | exact absurd J (H _) | exact absurd J (Lh _)
     have K5:(cO X v).cells=#[cO X v]:=by
      cases J:cO X v <;> first | rfl | exact absurd J (H _) | exact absurd J (Lh _)
     have D:=zS (P:=P) Ls Lt Lv
     have:=Nat.eq_of_beq_eq_true aP
     exact Lg (aA.setCell o (cO X v)) (by rw [K5];simp [storeCells,add_zero,D]) (by rw [K5,aY,← this];rfl) ⟨rfl,rfl,rfl⟩ Lu
  ·cases aJ
 | box J v=>
  simp only [jA,b4] at aJ
  refine c _ { aA with heap:=aA.heap.push (.cells (cO X v).cells J (0,0)) } ?_ ⟨rfl,rfl,rfl⟩ aJ
  simp [execOp,Instr.box,newVar,newRow]
 | alloc J=>
  simp only [jA] at aJ
  split at aJ
  ·cases aJ
  ·rename_i Q d b
   have f:Q.dW.isTuple=false:=by
    obtain⟨dW,fS,N⟩:=Q
    cases dW <;> first | rfl | exact absurd rfl (d _ _ _)
   obtain⟨e,bE,aY,aP,b3,K8,K9⟩:=uZ (c2.dW _ _ b) f
   have La:b3.cells=Q.aK.toArray:=by apply Array.ext';simpa using K9
   refine c _ { aA with heap:=aA.heap.push (.cells Q.aK.toArray J (0,0)) } ?_ ⟨rfl,rfl,rfl⟩ aJ
   simp [execOp,Instr.alloc,newVar,newRow,u0 bE K8,La]
  ·cases aJ
 | makeSlice t l L=>
  simp only [jA] at aJ
  split at aJ
  ·rename_i J fS N Lw n Lx m b Ly Lz
   split at aJ
   ·cases aJ
   ·rename_i Q d g
    have f:Q.dW.isTuple=false:=by
     obtain⟨dW,fS,N⟩:=Q
     cases dW <;> first | rfl | exact absurd rfl (d _ _ _)
    obtain⟨v,cV,s,O,M⟩:=EN (P:=P) (M:=Lw) (eA:=Lx) c2 b g f aJ
    refine c v cV ?_ O M
    simp [execOp,Ly,Lz,s]
   ·cases aJ
  ·cases aJ
 | buildSlice t n Li=>
  simp only [jA] at aJ
  split at aJ
  ·rename_i J fS N b
   split at aJ
   ·cases aJ
   ·rename_i Q d g
    have f:Q.dW.isTuple=false:=by
     obtain⟨dW,fS,N⟩:=Q
     cases dW <;> first | rfl | exact absurd rfl (d _ _ _)
    cases Lb:Nat.ble (n*Q.leaves.length) 16777216 with
    | false=>rw [Lb] at aJ;cases aJ
    | true=>
     rw [Lb] at aJ
     simp only [cond_true] at aJ
     split at aJ
     ·rename_i LA K5
      have eE:=o4 (c2.dW _ _ b)
      obtain⟨e,bE,aY,aP,b3,K8,K9⟩:=uZ (c2.dW _ _ g) f
      have La:b3.cells=Q.aK.toArray:=by apply Array.ext';simpa using K9
      have LN:=Nat.le_of_ble_eq_true Lb
      have Lj:=zU (zV:=fun C=>some (C*e.size,e.size)) (fun C=>by rw [aY]) _ _ _ K5
      refine c _ { aA with heap:=aA.heap.push (.cells LA.toArray J (0,0)) } ?_ ⟨rfl,rfl,rfl⟩ aJ
      have LB:¬ n*e.size > 2 ^ 24:=by rw [aY];omega
      have Lk:(Array.map (fun (I:Nat × Operand)=>match I with | (Q,I)=>(Q,cO X I)) Li).toList=Li.toList.map fun (Q,I)=>(Q,cO X I):=by simp
      have Ll:∀ aN:Array Value,(n*e.size ≠ 0→aN=b3.cells)→(Array.range (n*e.size)).map (fun C=>aN[C % aN.size]!)=(hT Q.aK n).toArray:=by
       intro aN LC
       exact BL Q.aK _ _ (by rw [aY,zY]) _ fun Z=>by rw [LC Z,La]
      by_cases aB:n*e.size=0
      ·have K6:=Ll #[] (fun Z=>absurd aB Z)
       have LD:¬ (0:Nat) > 2 ^ 24:=by decide
       rw [aB] at K6
       simp only [execOp,Sem.run_bind,Instr.buildSlice,gP eE,Result.andThen,k9 bE,aB,if_neg LD,if_true,Sem.run_pure,K6,Lk,Lj]
       rfl
      ·have K6:=Ll b3.cells (fun _=>rfl)
       simp only [execOp,Sem.run_bind,Instr.buildSlice,gP eE,Result.andThen,k9 bE,if_neg LB,aB,if_false,Sem.run_pure,u0 bE K8]
       simp only [K6,Lk,Lj]
       rfl
     ·cases aJ
   ·cases aJ
  ·cases aJ
 | call L=>
  obtain⟨LO,⟨args⟩,⟨rV⟩⟩:=L
  simp only [jA] at aJ
  split at aJ
  ·
   split at aJ
   ·rename_i O I t LF
    cases Lc:uV E LF with
    | false=>rw [Lc] at aJ;cases aJ
    | true=>
     rw [Lc] at aJ
     simp only [cond_true] at aJ
     split at aJ
     ·rename_i J fS N S l j b aY
      split at aJ
      ·cases aJ
      ·rename_i Q d g
       have f:Q.dW.isTuple=false:=by
        obtain⟨dW,fS,N⟩:=Q
        cases dW <;> first | rfl | exact absurd rfl (d _ _ _)
       obtain⟨v,cV,s,G,M⟩:=EJ (P:=P) (dW:=i) c2 b g Lc f aJ
       refine c v cV ?_ G M
       simp [execOp,resolve,invoke,builtin,aY,s]
      ·cases aJ
     ·cases aJ
   ·cases aJ
  ·
   split at aJ
   ·rename_i bH I t jL
    split at aJ
    ·rename_i J fS N S l j b aY
     split at aJ
     ·cases aJ
     ·rename_i Q d g
      obtain⟨v,cV,s,G,M⟩:=EK (P:=P) (dW:=i) (rV:=jL) (L:=j) c2 b g aJ
      refine c v cV ?_ G M
      simp [execOp,resolve,invoke,builtin,aY,s]
     ·cases aJ
    ·cases aJ
   ·cases aJ
  ·
   split at aJ
   ·rename_i bH t
    split at aJ
    ·rename_i J fS N S l j b aY
     split at aJ
     ·cases aJ
     ·rename_i Q d g
      have f:Q.dW.isTuple=false:=by
       obtain⟨dW,fS,N⟩:=Q
       cases dW <;> first | rfl | exact absurd rfl (d _ _ _)
      obtain⟨v,cV,s,G,M⟩:=EM (P:=P) (dW:=i) (L:=j) c2 b g f aJ
      refine c v cV ?_ G M
      simp [execOp,resolve,invoke,builtin,aY,s]
     ·cases aJ
    ·cases aJ
   ·cases aJ
  ·
   rename_i a9
   split at aJ
   ·rename_i b
    obtain⟨fn,dJ,H,aP,_⟩:=xJ c2 b
    have aP:=aP (.inl rfl)
    have LG:(execOp (cO X) ⟨Ld,.call ⟨.value (.func a9),⟨args⟩,⟨rV⟩⟩,i,Le,Lf,guard⟩).run P aA=.ok (.enter a9 (args.map (cO X)).toArray) aA:=by
     have LH:¬ fn.name="runtime.NumGoroutine":=by simpa using H
     have LI:¬ fn.body=none:=by intro J;rw [J] at aP;cases aP
     simp [execOp,resolve,Deferred.ofValue,cO,invoke,callFunc,dJ,LH,LI]
    refine .inr (.inr ⟨a9,_,by rw [K7];exact LG,(aJ aA rfl).mono ?_⟩)
    rintro J cV ⟨v,rfl,O,M⟩
    exact⟨v,rfl,O,By M⟩
   ·cases aJ
  ·cases aJ
 | _=>exact aJ.elim
end
set_option linter.unusedSimpArgs false
section
variable {P:Program} {E:Env}
def e0(P:Program)(E:Env)(dA:Bool)(cS:Nat)(b:Array Oper)(q:Oper)(a:Act)(Z:V)(bN:Value→V→Prop):Prop:=
 if Region.wanted q (yielded b a.tmps) then
  match gE E q.op with
  | .pure=>∃ v,(∀ aA,o5 P q a aA v)∧bN v Z
  | .load=>∃ v,(∀ aA:World,cond dA (cG cS Z aA.heap) (aA.heap=Z)→o5 P q a aA v)∧bN v Z
  | .quiet=>∃ v,(∀ aA:World,aA.heap=Z→zZ P q a aA v)∧bN v Z
  | .call=>∀ aA:World,aA.heap=Z→nP P q a aA fun v A=>(dA=true→cG cS Z A)∧bN v A
  | .act=>∀ aA:World,aA.heap=Z→nP P q a aA bN
 else bN undef Z
def u1(Z:V):World:={ heap:=Z,tape:=fun _ _=>0,drawn:=0,os:=default,output:=#[] }
theorem lW{dA:Bool}{cS:Nat}{f:Array Oper}{q:Oper}{a:Act}{Z:V}{bN gH:Value→V→Prop}(c:∀ v Z,bN v Z→gH v Z)(aY:e0 P E dA cS f q a Z bN):e0 P E dA cS f q a Z gH:=by
 unfold e0 at *
 split
 ·rename_i b
  rw [if_pos b] at aY
  cases d:gE E q.op with
  | pure=>simp only [d] at aY ⊢;obtain⟨v,a0,e⟩:=aY;exact⟨v,a0,c _ _ e⟩
  | load=>simp only [d] at aY ⊢;obtain⟨v,a0,e⟩:=aY;exact⟨v,a0,c _ _ e⟩
  | quiet=>simp only [d] at aY ⊢;obtain⟨v,a0,e⟩:=aY;exact⟨v,a0,c _ _ e⟩
  | call=>simp only [d] at aY ⊢;exact fun aA b=>(aY aA b).mono fun v A M=>⟨M.1,c _ _ M.2⟩
  | act=>simp only [d] at aY ⊢;exact fun aA b=>(aY aA b).mono c
 ·rename_i b;rw [if_neg b] at aY;exact c _ _ aY
theorem BO{dA:Bool}{cS:Nat}{d:Array Oper}{q:Oper}{a:Act}{Z:V}{bN:Value→V→Prop}(aY:e0 P E dA cS d q a Z bN):∃ v A,bN v A:=by
 unfold e0 at aY
 split at aY
 ·cases b:gE E q.op with
  | pure=>simp only [b] at aY;obtain⟨v,a0,c⟩:=aY;exact⟨_,_,c⟩
  | load=>simp only [b] at aY;obtain⟨v,a0,c⟩:=aY;exact⟨_,_,c⟩
  | quiet=>simp only [b] at aY;obtain⟨v,a0,c⟩:=aY;exact⟨_,_,c⟩
  | call=>simp only [b] at aY;obtain⟨v,A,M⟩:=(aY (u1 Z) rfl).some;exact⟨v,A,M.2⟩
  | act=>simp only [b] at aY;exact(aY (u1 Z) rfl).some
 ·exact⟨_,_,aY⟩
theorem o5.inj{q:Oper}{a:Act}{aA:World}{v b:Value}(Z:o5 P q a aA v)(A:o5 P q a aA b):v=b:=by
 unfold o5 at *
 rw [Z] at A
 cases A
 rfl
theorem cG.refl(cS:Nat)(Z:V):cG cS Z Z:=fun _ _=>rfl
theorem cG.symm{cS:Nat}{Z A:V}(z:cG cS Z A):cG cS A Z:=fun N aP=>(z N aP).symm
theorem cG.trans{cS:Nat}{a N L:V}(z:cG cS a N)(o:cG cS N L):cG cS a L:=fun Q bE=>(o Q bE).trans (z Q bE)
theorem BP{dA:Bool}{cS:Nat}{c:Array Oper}{q:Oper}{a:Act}(b:gE E q.op=.pure∨¬ Region.wanted q (yielded c a.tmps)=true){Z:V}{bN:Value→V→Prop}(aY:e0 P E dA cS c q a Z bN):
  ∃ v,∀ A gH,e0 P E dA cS c q a A gH↔gH v A:=by
 by_cases d:Region.wanted q (yielded c a.tmps)=true
 ·rcases b with b | b
  ·simp only [e0,if_pos d,b] at aY
   obtain⟨v,a0,_⟩:=aY
   refine⟨v,fun A gH=>?_⟩
   simp only [e0,if_pos d,b]
   constructor
   ·rintro⟨h,e,f⟩
    have:=(a0 (u1 A)).inj (e (u1 A))
    subst this
    exact f
   ·intro g;exact⟨v,a0,g⟩
  ·exact absurd d b
 ·exact⟨undef,fun A gH=>by simp only [e0,if_neg d]⟩
theorem BQ{dA:Bool}{cS:Nat}{c:Array Oper}{q:Oper}{a:Act}(b:gE E q.op=.load∨gE E q.op=.quiet∨gE E q.op=.pure){Z:V}{bN:Value→V→Prop}(aY:e0 P E dA cS c q a Z bN):
  ∃ v,bN v Z∧∀ gH:Value→V→Prop,gH v Z→e0 P E dA cS c q a Z gH:=by
 by_cases d:Region.wanted q (yielded c a.tmps)=true
 ·rcases b with b | b | b <;> simp only [e0,if_pos d,b] at aY ⊢ <;> obtain⟨v,a0,e⟩:=aY <;> exact⟨v,e,fun gH M=>⟨v,a0,M⟩⟩
 ·simp only [e0,if_neg d] at aY ⊢;exact⟨undef,aY,fun gH M=>M⟩
theorem BR{cS:Nat}{c:Array Oper}{q:Oper}{a:Act}(d:gE E q.op=.load){Z:V}{bN:Value→V→Prop}(aY:e0 P E true cS c q a Z bN):
  ∃ v,∀ A gH,cG cS Z A→(e0 P E true cS c q a A gH↔gH v A):=by
 by_cases b:Region.wanted q (yielded c a.tmps)=true
 ·simp only [e0,if_pos b,d,cond_true] at aY
  obtain⟨v,a0,_⟩:=aY
  refine⟨v,fun A gH e=>?_⟩
  simp only [e0,if_pos b,d,cond_true]
  constructor
  ·rintro⟨i,f,h⟩
   have:=(a0 (u1 A) e).inj (f (u1 A) (cG.refl _ _))
   subst this
   exact h
  ·intro g;exact⟨v,fun aA b=>a0 aA (e.trans b),g⟩
 ·exact⟨undef,fun A gH _=>by simp only [e0,if_neg b]⟩
theorem BS{cS:Nat}{c:Array Oper}{q:Oper}{a:Act}(d:gE E q.op=.call){Z:V}{bN:Value→V→Prop}(aY:e0 P E true cS c q a Z bN):
  e0 P E true cS c q a Z fun v A=>cG cS Z A∧bN v A:=by
 by_cases b:Region.wanted q (yielded c a.tmps)=true
 ·simp only [e0,if_pos b,d] at aY ⊢
  exact fun aA b=>(aY aA b).mono fun v A M=>⟨M.1,M.1 trivial,M.2⟩
 ·simp only [e0,if_neg b] at aY ⊢;exact⟨cG.refl _ _,aY⟩
theorem BT{dA:Bool}{cS:Nat}{d:Array Oper}{Q C:Oper}{a:Act}(b:kG dA (gE E Q.op) (gE E C.op)=true){Z:V}{bN:Value→Value→V→Prop}
  (aY:e0 P E dA cS d Q a Z fun v A=>e0 P E dA cS d C a A fun dU e=>bN v dU e):e0 P E dA cS d C a Z fun dU A=>e0 P E dA cS d Q a A fun v e=>bN v dU e:=by
 have m:gE E Q.op=.pure→e0 P E dA cS d C a Z fun dU A=>e0 P E dA cS d Q a A fun v e=>bN v dU e:=by
  intro i
  obtain⟨v,aU⟩:=BP (.inl i) aY
  have a0:=(aU _ _).1 aY
  exact lW (fun dU A M=>(aU A _).2 M) a0
 have g:gE E C.op=.pure→e0 P E dA cS d C a Z fun dU A=>e0 P E dA cS d Q a A fun v e=>bN v dU e:=by
  intro i
  obtain⟨n,aB,aR⟩:=BO aY
  obtain⟨dU,f⟩:=BP (.inl i) aR
  exact(f Z _).2 (lW (fun v A M=>(f A _).1 M) aY)
 have h:(gE E Q.op=.load∨gE E Q.op=.quiet∨gE E Q.op=.pure)→(gE E C.op=.load∨gE E C.op=.quiet∨gE E C.op=.pure)→e0 P E dA cS d C a Z fun dU A=>e0 P E dA cS d Q a A fun v e=>bN v dU e:=by
  intro a0 t
  obtain⟨v,aU,D⟩:=BQ a0 aY
  obtain⟨dU,f,G⟩:=BQ t aU
  exact G _ (D _ f)
 cases bE:gE E Q.op with
 | pure=>exact m bE
 | load=>
  cases c:gE E C.op with
  | pure=>exact g c
  | load=>exact h (.inl bE) (.inl c)
  | quiet=>exact h (.inl bE) (.inr (.inl c))
  | call=>
   rw [bE,c] at b
   simp only [kG] at b
   subst b
   obtain⟨v,aU⟩:=BR bE aY
   have a0:=(aU Z _ (cG.refl _ _)).1 aY
   exact lW (fun dU A M=>(aU A _ M.1).2 M.2) (BS c a0)
  | act=>rw [bE,c] at b;simp [kG] at b
 | quiet=>
  cases c:gE E C.op with
  | pure=>exact g c
  | load=>exact h (.inr (.inl bE)) (.inl c)
  | quiet=>exact h (.inr (.inl bE)) (.inr (.inl c))
  | call=>rw [bE,c] at b;simp [kG] at b
  | act=>rw [bE,c] at b;simp [kG] at b
 | call=>
  cases c:gE E C.op with
  | pure=>exact g c
  | load=>
   rw [bE,c] at b
   simp only [kG] at b
   subst b
   have j:=BS bE aY
   obtain⟨n,aB,l,aR⟩:=BO j
   obtain⟨dU,f⟩:=BR c aR
   refine(f Z _ l.symm).2 (lW (fun v A M=>?_) j)
   exact(f A _ (l.symm.trans M.1)).1 M.2
  | quiet=>rw [bE,c] at b;simp [kG] at b
  | call=>rw [bE,c] at b;simp [kG] at b
  | act=>rw [bE,c] at b;simp [kG] at b
 | act=>
  cases c:gE E C.op with
  | pure=>exact g c
  | load=>rw [bE,c] at b;simp [kG] at b
  | quiet=>rw [bE,c] at b;simp [kG] at b
  | call=>rw [bE,c] at b;simp [kG] at b
  | act=>rw [bE,c] at b;simp [kG] at b
theorem xM{dA:Bool}{cS:Nat}{b:Array Oper}{q:Oper}{a:Act}{bH:Option Tmp}{dU:Value}(c:∀ cQ N,q.op ≠ .select cQ N)(aJ:∀ t,bH=some t→t ∉ q.looksAt b){Z:V}{bN:Value→V→Prop}:
  e0 P E dA cS b q (a.put bH dU) Z bN=e0 P E dA cS b q a Z bN:=by
 have d:=execOp_put q c a bH dU aJ
 have e:=wanted_put q a bH dU aJ
 unfold e0 o5 zZ nP
 rw [d,e]
def jB(P:Program)(E:Env)(dA:Bool)(cS:Nat)(b:Array Oper)(p:Act→V→Prop):List Nat→Act→V→Prop
 | [],a,Z=>p a Z
 | Q :: l,a,Z=>match b[Q]? with
  | some q=>e0 P E dA cS b q a Z fun v A=>jB P E dA cS b p l (a.put q.dst v) A
  | none=>jB P E dA cS b p l a Z
theorem EQ{dA:Bool}{cS:Nat}{b:Array Oper}{p:Act→V→Prop}{Q C:Nat}{c d:Oper}(bE:b[Q]?=some c)(f:b[C]?=some d)(g:c.apart b d=true)
  (h:∀ cQ N,c.op ≠ .select cQ N) (i:∀ cQ N,d.op ≠ .select cQ N) (j:kG dA (gE E c.op) (gE E d.op)=true) {l:List Nat} {a:Act} {Z:V}
  (aY:jB P E dA cS b p (Q :: C :: l) a Z):jB P E dA cS b p (C :: Q :: l) a Z:=by
 obtain⟨a0,m,n⟩:=Oper.apart_spec g
 simp only [jB,bE,f] at aY ⊢
 have t:e0 P E dA cS b c a Z fun v A=>e0 P E dA cS b d a A fun dU e=>jB P E dA cS b p l ((a.put c.dst v).put d.dst dU) e:=
  lW (fun v A M=>by rw [xM i a0] at M;exact M) aY
 have:=BT j t
 refine lW (fun dU A M=>?_) this
 rw [xM h n]
 refine lW (fun v e eA=>?_) M
 rw [Act.put_comm a v dU m] at eA
 exact eA
theorem ER{dA:Bool}{cS:Nat}{d:Array Oper}{b c:Oper}(f:b.apart d c=true)
  (g:∀ cQ N,b.op ≠ .select cQ N) (h:∀ cQ N,c.op ≠ .select cQ N) (i:kG dA (gE E b.op) (gE E c.op)=true) {bN:Act→V→Prop} {a:Act} {Z:V}
  (aY:e0 P E dA cS d b a Z fun v A=>e0 P E dA cS d c (a.put b.dst v) A fun dU e=>bN ((a.put b.dst v).put c.dst dU) e) :
  e0 P E dA cS d c a Z fun dU A=>e0 P E dA cS d b (a.put c.dst dU) A fun v e=>bN ((a.put c.dst dU).put b.dst v) e:=by
 obtain⟨a0,j,l⟩:=Oper.apart_spec f
 have m:e0 P E dA cS d b a Z fun v A=>e0 P E dA cS d c a A fun dU e=>bN ((a.put b.dst v).put c.dst dU) e:=
  lW (fun v A M=>by rw [xM h a0] at M;exact M) aY
 have:=BT i m
 refine lW (fun dU A M=>?_) this
 rw [xM g l]
 refine lW (fun v e eA=>?_) M
 rw [Act.put_comm a v dU j] at eA
 exact eA
theorem xN{eX:List Nat}{Q C:Nat}:C ∈ del eX Q↔C ∈ eX∧C ≠ Q:=by
 unfold del
 rw [List.mem_filter]
 refine and_congr Iff.rfl ?_
 constructor
 ·intro Z J;subst J;simp at Z
 ·intro Z
  cases aP:Nat.beq C Q with
  | true=>exact absurd (Nat.eq_of_beq_eq_true aP) Z
  | false=>rfl
theorem BU{eX:List Nat}{Q:Nat}(Z:eX.Nodup):(del eX Q).Nodup:=Z.filter _
theorem ES(eX:List Nat)(Q C:Nat):del (del eX Q) C=del (del eX C) Q:=by
 unfold del
 rw [List.filter_filter,List.filter_filter]
 apply List.filter_congr
 intro I _
 rw [Bool.and_comm]
theorem BV:∀ {eX:List Nat} {Q:Nat},Q ∉ eX→del eX Q=eX:=by
 intro eX Q Z
 unfold del
 rw [List.filter_eq_self]
 intro I a
 cases aP:Nat.beq I Q with
 | true=>obtain rfl:=Nat.eq_of_beq_eq_true aP;exact absurd a Z
 | false=>rfl
theorem BW{y b8:List Nat}{Q:Nat}(Z:(y ++ Q :: b8).Nodup):del (y ++ Q :: b8) Q=y ++ b8:=by
 have a0:Q ∉ y:=fun a=>by
  have:=List.nodup_append.1 Z
  exact this.2.2 Q a Q List.mem_cons_self rfl
 have b:Q ∉ b8:=(List.nodup_cons.1 (List.nodup_append.1 Z).2.1).1
 have J:del (y ++ Q :: b8) Q=del y Q ++ del (Q :: b8) Q:=by unfold del;rw [List.filter_append]
 have c:del (Q :: b8) Q=del b8 Q:=by unfold del;rw [List.filter_cons];simp
 rw [J,c,BV a0,BV b]
theorem BX{eX:List Nat}{Q:Nat}(Z:eX.Nodup)(bE:Q ∈ eX):(del eX Q).length+1=eX.length:=by
 obtain⟨y,b8,rfl⟩:=List.append_of_mem bE
 rw [BW Z]
 simp;omega
def tE(P:Program)(E:Env)(dA:Bool)(cS:Nat)(b:Array Oper)(c:List Nat)(p:Act→V→Prop):Nat→List Nat→Act→V→Prop
 | 0,_,a,Z=>p a Z
 | n+1,eX,a,Z=>∀ Q q,Q ∈ eX→p1 c eX Q=true→b[Q]?=some q→e0 P E dA cS b q a Z fun v A=>tE P E dA cS b c p n (del eX Q) (a.put q.dst v) A
theorem BY{a eX:List Nat}{Q C:Nat}(Z:p1 a eX Q=true):p1 a (del eX C) Q=true:=by
 unfold p1 at *
 rw [List.all_eq_true] at *
 exact fun I b=>Z I (xN.1 b).1
theorem ET{dA:Bool}{cS:Nat}{b:Array Oper}{f:List Nat}{p:Act→V→Prop}(m:∀ (C:Nat) (q:Oper) cQ N,b[C]?=some q→q.op ≠ .select cQ N){Q:Nat}{c:Oper}(j:b[Q]?=some c):∀ {n:Nat} {eX:List Nat},eX.length=n+1→eX.Nodup→Q ∈ eX→p1 f eX Q=true→
  (∀ C ∈ eX,C ≠ Q→(f.getD C 0).testBit Q=true∨∃ d,b[C]?=some d∧c.apart b d=true∧kG dA (gE E c.op) (gE E d.op)=true)→∀ {a:Act} {Z:V},
  (e0 P E dA cS b c a Z fun v A=>tE P E dA cS b f p n (del eX Q) (a.put c.dst v) A)→tE P E dA cS b f p (n+1) eX a Z:=by
 intro n
 induction n with
 | zero=>
  intro eX t l bE D dJ a Z aY C d g h e
  have:C=Q:=by
   obtain⟨I,rfl⟩:=List.length_eq_one_iff.1 t
   simp at bE g
   rw [bE,g]
  subst this
  rw [j] at e
  cases e
  exact aY
 | succ n H=>
  intro eX t l bE D dJ a Z aY C d g h e
  by_cases i:C=Q
  ·subst i
   rw [j] at e
   cases e
   exact aY
  ·have K5:(f.getD C 0).testBit Q ≠ true:=by
    unfold p1 at h
    rw [List.all_eq_true] at h
    have:=h Q bE
    intro J
    rw [J] at this
    cases this
   rcases dJ C g i with K6 | ⟨Ld,G,K7,K8⟩
   ·exact absurd K6 K5
   ·rw [e] at G
    cases G
    have a0:e0 P E dA cS b c a Z fun v A=>e0 P E dA cS b d (a.put c.dst v) A fun dU K9=>(fun a Z=>tE P E dA cS b f p n (del (del eX Q) C) a Z) ((a.put c.dst v).put d.dst dU) K9:=
     lW (fun v A M=>M C d (xN.2 ⟨g,i⟩) (BY h) e) aY
    have La:=ER K7 (fun cQ N=>m Q c cQ N j) (fun cQ N=>m C d cQ N e) K8 a0
    refine lW (fun dU A M=>?_) La
    refine H (eX:=del eX C) ?_ (BU l) (xN.2 ⟨bE,fun J=>i J.symm⟩) (BY D) (fun I Lb Lc=>dJ I (xN.1 Lb).1 Lc) ?_
    ·have:=BX l g;omega
    ·rw [ES];exact M
theorem EU{dA:Bool}{cS:Nat}{b:Array Oper}{p:Act→V→Prop}{Q:Nat}{l d:List Nat}(e:∀ a Z,jB P E dA cS b p l a Z→jB P E dA cS b p d a Z){a:Act}{Z:V}
  (aY:jB P E dA cS b p (Q :: l) a Z):jB P E dA cS b p (Q :: d) a Z:=by
 simp only [jB] at *
 split
 ·rename_i q c
  simp only [c] at aY
  exact lW (fun v A M=>e _ _ M) aY
 ·rename_i c
  simp only [c] at aY
  exact e _ _ aY
def free(E:Env)(dA:Bool)(a:Array Oper)(Q C:Nat):Prop:=
 ∃ b c,a[Q]?=some b∧a[C]?=some c∧b.apart a c=true∧(∀ cQ N,b.op ≠ .select cQ N)∧(∀ cQ N,c.op ≠ .select cQ N)∧kG dA (gE E b.op) (gE E c.op)=true
theorem BZ{dA:Bool}{cS:Nat}{b:Array Oper}{p:Act→V→Prop}{C:Nat}{b8:List Nat}:∀ {y:List Nat},(∀ Q ∈ y,free E dA b Q C)→∀ {a:Act} {Z:V},jB P E dA cS b p (y ++ C :: b8) a Z→jB P E dA cS b p (C :: (y ++ b8)) a Z
 | [],_,a,Z,aY=>aY
 | Q :: y,dJ,a,Z,aY=>by
  have c:=fun {a Z}=>BZ (cS:=cS) (p:=p) (b8:=b8) (y:=y) (fun I d=>dJ I (List.mem_cons_of_mem _ d)) (a:=a) (Z:=Z)
  have a0:jB P E dA cS b p (Q :: C :: (y ++ b8)) a Z:=EU (fun a Z=>c) aY
  obtain⟨l,m,e,f,g,h,i,j⟩:=dJ Q List.mem_cons_self
  exact EQ e f g h i j a0
end
set_option linter.unusedSimpArgs false
section
variable {P:Program} {E:Env}
theorem EV(c2:iH P E){q:Oper}{X:Fr}{a:Act}(d:a.eval=cO X)(b:gE E q.op=.quiet){Z:V}{p:Value→Prop}(aJ:s6 P E q.op q.type X Z p):
  ∃ v,p v∧∀ aA:World,aA.heap=Z→zZ P q a aA v:=by
 obtain⟨j,op,l,m,n,guard⟩:=q
 simp only at aJ b
 cases op with
 | call L=>
  obtain⟨t,⟨args⟩,rV⟩:=L
  simp only [s6] at aJ
  split at aJ
  ·rename_i a9
   obtain⟨v,a0,e⟩:=aJ
   refine⟨v,By e,fun aA c=>?_⟩
   have f:look E.pW a9=some .quiet:=by
    simp only [gE] at b
    split at b <;> first | assumption | cases b
   obtain⟨fn,dJ,g,aP,_⟩:=xJ c2 f
   have aP:=aP (.inr rfl)
   refine⟨a9,(args.map (cO X)).toArray,?_,(a0 aA c).mono ?_⟩
   ·have h:¬ fn.name="runtime.NumGoroutine":=by simpa using g
    have i:¬ fn.body=none:=by intro J;rw [J] at aP;cases aP
    rw [d]
    simp [execOp,resolve,Deferred.ofValue,cO,invoke,callFunc,dJ,h,i]
   ·rintro J cV ⟨D,rfl,O,rfl,M⟩
    exact⟨rfl,O,by rw [M,c]⟩
  ·cases aJ
 | _=>simp [s6] at aJ
theorem B0(c2:iH P E){dA:Bool}{cS:Nat}{f:Array Oper}{q:Oper}{X:Fr}{a:Act}(c:a.eval=cO X){Z:V}{bN:Value→V→Prop}(aJ:pZ P E dA cS q X Z bN)
  (h:Region.wanted q (yielded f a.tmps)=true):e0 P E dA cS f q a Z bN:=by
 unfold pZ at aJ
 unfold e0
 rw [if_pos h]
 cases b:gE E q.op with
 | pure=>
  simp only [b] at aJ ⊢
  obtain⟨v,aU,d⟩:=zW c2 aJ
  exact⟨v,fun aA=>by unfold o5;rw [c];exact d aA fun t I o J _=>by rw [J] at b;simp [gE] at b,aU⟩
 | load=>
  simp only [b] at aJ ⊢
  cases dA with
  | false=>
   simp only [cond_false] at aJ ⊢
   obtain⟨v,aU,d⟩:=zW c2 aJ
   exact⟨v,fun aA e=>by unfold o5;rw [c];exact d aA fun t I o J _=>by rw [e],aU⟩
  | true=>
   simp only [cond_true] at aJ ⊢
   split at aJ
   ·rename_i t I J
    obtain⟨aP,aJ⟩:=aJ
    obtain⟨v,aU,d⟩:=zW c2 aJ
    refine⟨v,fun aA i=>?_,aU⟩
    unfold o5
    rw [c]
    refine d aA fun l p4 o g j=>?_
    rw [J] at g
    cases g
    rw [j] at aP
    exact i _ aP
   ·cases aJ
 | quiet=>
  simp only [b] at aJ ⊢
  obtain⟨v,aU,d⟩:=EV c2 c b aJ
  exact⟨v,d,aU⟩
 | call=>
  simp only [b] at aJ ⊢
  cases dA with
  | false=>
   intro aA e
   subst e
   simp only [cond_false] at aJ
   exact(z0 c2 c aJ).mono fun v A M=>⟨fun J=>(by cases J),M⟩
  | true=>
   intro aA e
   subst e
   simp only [cond_true] at aJ
   exact(z0 c2 c aJ).mono fun v A M=>⟨fun _=>M.1,M.2⟩
 | act=>
  simp only [b] at aJ ⊢
  intro aA e
  subst e
  exact z0 c2 c aJ
theorem B1{all:List Oper}{n:Nat}{X:Fr}{a:Act}(e:gX n X a){q:Oper}{C t:Nat}{c N:Bool}(f:q.guard=some (C,c))(b:vW all C=some t)(aP:X t=.bool N):
  Region.wanted q (yielded all.toArray a.tmps)=(N == c):=by
 have a0:a.tmps[t]?=some (.bool N):=by
  have:=e.get t
  rw [aP,Array.getD_eq_getD_getElem?] at this
  cases d:a.tmps[t]? with
  | none=>rw [d] at this;simp [undef] at this
  | some v=>rw [d] at this;simp at this;rw [this]
 have g:((all.toArray[C]?).bind (·.dst)).bind (a.tmps[·]?)=some (.bool N):=by
  unfold vW at b
  split at b
  ·rename_i i h
   simp [h,b,a0]
  ·cases b
 unfold Region.wanted yielded
 rw [f]
 simp only [g]
 cases N <;> cases c <;> rfl
theorem B2{all:List Oper}{n:Nat}{X:Fr}{a:Act}(c:gX n X a){q:Oper}{C t:Nat}{d:Bool}{bW:Array Value}(e:q.guard=some (C,d))(b:vW all C=some t)(aP:X t=.tuple bW):
  Region.wanted q (yielded all.toArray a.tmps)=false:=by
 have a0:a.tmps[t]?=none∨a.tmps[t]?=some (.tuple bW):=by
  have:=c.get t
  rw [aP,Array.getD_eq_getD_getElem?] at this
  cases f:a.tmps[t]? with
  | none=>exact .inl rfl
  | some v=>rw [f] at this;simp at this;rw [this];exact .inr rfl
 have g:(all.toArray[C]?).bind (·.dst)=some t:=by
  unfold vW at b
  split at b
  ·rename_i i h
   simp [h,b]
  ·cases b
 unfold Region.wanted yielded
 rw [e]
 simp only [g,Option.bind_some]
 rcases a0 with a0 | a0 <;> rw [a0] <;> rfl
theorem z1(c2:iH P E){dA:Bool}{cS n:Nat}{all:List Oper}:∀ {l:List Oper} {M:Nat} {X:Fr} {a:Act} {Z:V} {p:Fr→V→Prop},(∀ C,l[C]?=all[M+C]?)→l.all (tB n)=true→gX n X a→
  jN P E dA cS all l X Z p→jB P E dA cS all.toArray (fun e A=>∃ c,gX n c e∧p c A) (List.range' M l.length) a Z
 | [],M,X,a,Z,p,_,_,f,aJ=>⟨X,f,aJ⟩
 | q :: rest,M,X,a,Z,p,G,aP,f,aJ=>by
  simp only [List.all_cons,Bool.and_eq_true] at aP
  obtain⟨K5,K6⟩:=aP
  have K7:all.toArray[M]?=some q:=by have:=G 0;simp at this;simpa using this.symm
  have K8:∀ C,rest[C]?=all[M+1+C]?:=fun C=>by have:=G (C+1);simpa [Nat.add_assoc,Nat.add_comm 1 C] using this
  simp only [List.length_cons,List.range'_succ,jB,K7]
  have next:∀ b,gX n b a→∀ v A,jN P E dA cS all rest (nL b q.dst v) A p→jB P E dA cS all.toArray (fun e A=>∃ c,gX n c e∧p c A) (List.range' (M+1) rest.length) (a.put q.dst v) A:=
   fun b g v A h=>z1 c2 K8 K6 (g.put K5 v) h
  have D:∀ b,gX n b a→Region.wanted q (yielded all.toArray a.tmps)=true→pZ P E dA cS q b Z (fun v A=>jN P E dA cS all rest (nL b q.dst v) A p)→
    e0 P E dA cS all.toArray q a Z fun v A=>jB P E dA cS all.toArray (fun e A=>∃ c,gX n c e∧p c A) (List.range' (M+1) rest.length) (a.put q.dst v) A:=
   fun b g d h=>lW (fun v A eA=>next b g v A eA) (B0 c2 g.cO h d)
  have skip:∀ b,gX n b a→Region.wanted q (yielded all.toArray a.tmps)=false→jN P E dA cS all rest (nL b q.dst undef) Z p→
    e0 P E dA cS all.toArray q a Z fun v A=>jB P E dA cS all.toArray (fun e A=>∃ c,gX n c e∧p c A) (List.range' (M+1) rest.length) (a.put q.dst v) A:=by
   intro b g d h
   unfold e0
   rw [if_neg (by rw [d];decide)]
   exact next b g undef Z h
  unfold jN at aJ
  split at aJ
  ·rename_i i
   exact D X f (by simp [Region.wanted,i]) aJ
  ·rename_i C K9 i
   split at aJ
   ·cases aJ
   ·rename_i t H
    split at aJ
    ·rename_i N j
     have d:=B1 (all:=all) f i H j
     have m:gX n (lV X t (.bool N)) a:=by rw [w3 j];exact f
     cases N <;> cases K9 <;> simp only [cond_true,cond_false] at aJ
     ·exact D _ m (by rw [d];rfl) aJ
     ·exact skip _ m (by rw [d];rfl) aJ
     ·exact skip _ m (by rw [d];rfl) aJ
     ·exact D _ m (by rw [d];rfl) aJ
    ·rename_i bW j
     exact skip X f (B2 (all:=all) f i H j) aJ
    ·cases aJ
theorem EW(c2:iH P E){cS n:Nat}{all:List Oper}{Q:Nat}{q:Oper}(H:all[Q]?=some q)(m:tB n q=true){X:Fr}{a:Act}{Z:V}{p:Fr→V→Prop}(e:gX n X a)
  (aJ:jN P E true cS all [q] X Z p):e0 P E true cS all.toArray q a Z fun v A=>∃ b,gX n b (a.put q.dst v)∧p b A:=by
 have j:∀ c,gX n c a→Region.wanted q (yielded all.toArray a.tmps)=true→pZ P E true cS q c Z (fun v A=>jN P E true cS all [] (nL c q.dst v) A p)→
   e0 P E true cS all.toArray q a Z fun v A=>∃ b,gX n b (a.put q.dst v)∧p b A:=
  fun c f d l=>lW (fun v A eA=>⟨_,f.put m v,eA⟩) (B0 c2 f.cO l d)
 have skip:∀ c,gX n c a→Region.wanted q (yielded all.toArray a.tmps)=false→jN P E true cS all [] (nL c q.dst undef) Z p→
   e0 P E true cS all.toArray q a Z fun v A=>∃ b,gX n b (a.put q.dst v)∧p b A:=by
  intro c f d l
  unfold e0
  rw [if_neg (by rw [d];decide)]
  exact⟨_,f.put m undef,l⟩
 unfold jN at aJ
 split at aJ
 ·rename_i g
  exact j X e (by simp [Region.wanted,g]) aJ
 ·rename_i C G g
  split at aJ
  ·cases aJ
  ·rename_i t D
   split at aJ
   ·rename_i N h
    have d:=B1 (all:=all) e g D h
    have i:gX n (lV X t (.bool N)) a:=by rw [w3 h];exact e
    cases N <;> cases G <;> simp only [cond_true,cond_false] at aJ
    ·exact j _ i (by rw [d];rfl) aJ
    ·exact skip _ i (by rw [d];rfl) aJ
    ·exact skip _ i (by rw [d];rfl) aJ
    ·exact j _ i (by rw [d];rfl) aJ
   ·rename_i bW h
    exact skip X e (B2 (all:=all) e g D h) aJ
   ·cases aJ
theorem B3{a9:Nat→Prop}:∀ {l:List Nat},vY a9 l→∀ Q ∈ l,a9 Q
 | [Q],Z,C,a=>by simp at a;subst a;exact Z
 | Q :: M :: l,Z,C,a=>by
  rcases List.mem_cons.1 a with rfl | a
  ·exact Z.1
  ·exact B3 Z.2 C a
theorem EX{a:List Oper}(b:Region.noSelect a.toArray=true):∀ (C:Nat) (q:Oper) cQ N,a.toArray[C]?=some q→q.op ≠ .select cQ N:=by
 intro C q cQ N c J
 have d:a[C]?=some q:=by simpa using c
 have:=List.mem_of_getElem? d
 simp only [Region.noSelect,Array.all_eq_true',List.mem_toArray] at b
 have:=b q this
 rw [J] at this
 simp at this
theorem EY(c2:iH P E){cS n:Nat}{all:List Oper}(aP:all.all (tB n)=true)(D:Region.noSelect all.toArray=true){e:List Nat}{p:Fr→V→Prop}:∀ {m:Nat} {eX:List Nat} {X:Fr} {a:Act} {Z:V},eX.length=m→eX.Nodup→gX n X a→
  p2 P E cS all e m eX X Z p→tE P E true cS all.toArray e (fun g A=>∃ c,gX n c g∧p c A) m eX a Z:=by
 intro m
 induction m with
 | zero=>intro eX X a Z l f h aJ;exact⟨X,h,aJ⟩
 | succ m G=>
  intro eX X a Z l f h aJ
  have at_:∀ Q ∈ eX,∀ q,all.toArray[Q]?=some q→rU P E cS all Q X Z (fun X Z=>p2 P E cS all e m (del eX Q) X Z p)→
    e0 P E true cS all.toArray q a Z fun v A=>tE P E true cS all.toArray e (fun g A=>∃ c,gX n c g∧p c A) m (del eX Q) (a.put q.dst v) A:=by
   intro Q bE q b aJ
   have d:all[Q]?=some q:=by simpa using b
   unfold rU at aJ
   rw [d] at aJ
   refine lW (fun v A M=>?_) (EW c2 d (List.all_eq_true.1 aP q (List.mem_of_getElem? d)) h aJ)
   obtain⟨c,s,M⟩:=M
   refine G ?_ (BU f) s M
   have:=BX f bE;omega
  unfold p2 at aJ
  split at aJ
  ·rename_i Q dJ
   have bE:=List.mem_of_find?_eq_some dJ
   have i:=List.find?_some dJ
   unfold Bp at i
   rw [Bool.and_eq_true] at i
   obtain⟨H,t⟩:=i
   rw [List.all_eq_true] at t
   cases b:all[Q]? with
   | none=>unfold rU at aJ;rw [b] at aJ;cases aJ
   | some q=>
    have d:all.toArray[Q]?=some q:=by simpa using b
    refine ET (EX D) d l f bE H (fun C K5 K6=>?_) (at_ Q bE q d aJ)
    have:=t C K5
    rw [Bool.or_eq_true,Bool.or_eq_true] at this
    rcases this with (a0 | a0) | a0
    ·exact absurd (Nat.eq_of_beq_eq_true a0) K6
    ·exact .inl a0
    ·rw [b] at a0
     cases j:all[C]? with
     | none=>rw [j] at a0;cases a0
     | some K7=>
      rw [j] at a0
      simp only [Bool.and_eq_true] at a0
      exact .inr ⟨K7,by simpa using j,a0.1,a0.2⟩
  ·rename_i dJ
   intro Q q bE K8 b
   exact at_ Q bE q b (B3 aJ Q (List.mem_filter.2 ⟨bE,K8⟩))
theorem z2{dA:Bool}{cS:Nat}{e:Array Oper}{Q:Nat}{q:Oper}(h:e[Q]?=some q){a:Act}{aA:World}{bN:Value→V→Prop}(aY:e0 P E dA cS e q a aA.heap bN)
  {p:Act→World→Prop} {b7:Exit→Act→World→Prop} (b:∀ v cV,fR aA cV→bN v cV.heap→p (a.put q.dst v) cV):wpOp P e b7 Q p a aA:=by
 unfold wpOp
 simp only [h]
 unfold e0 at aY
 by_cases f:Region.wanted q (yielded e a.tmps)=true
 ·rw [if_pos f] at aY ⊢
  refine .inl ?_
  have g:∀ v,o5 P q a aA v→bN v aA.heap→q.wp P a aA p b7:=by
   intro v i M
   unfold Oper.wp
   rw [i]
   exact b v aA (fR.refl aA) M
  cases c:gE E q.op with
  | pure=>simp only [c] at aY;obtain⟨v,a0,d⟩:=aY;exact g v (a0 aA) d
  | load=>
   simp only [c] at aY
   obtain⟨v,a0,d⟩:=aY
   refine g v (a0 aA ?_) d
   cases dA
   ·exact rfl
   ·exact cG.refl _ _
  | quiet=>
   simp only [c] at aY
   obtain⟨v,a0,d⟩:=aY
   obtain⟨a9,args,s,L⟩:=a0 aA rfl
   unfold Oper.wp
   rw [s,Oper.upon_enter]
   refine L.mono ?_
   rintro J cV ⟨rfl,O,M⟩
   exact b v cV O (by rw [M];exact d)
  | call=>simp only [c] at aY;exact(aY aA rfl).wp fun v cV O M=>b v cV O M.2
  | act=>simp only [c] at aY;exact(aY aA rfl).wp fun v cV O M=>b v cV O M
 ·rw [if_neg f] at aY ⊢
  exact b undef aA (fR.refl aA) aY
def rem(n:Nat)(a:Array Bool):List Nat:=(List.range n).filter fun Q=>!a.getD Q true
def xO(a:Array Oper)(b:Array Bool):Prop:=∀ Q q,a[Q]?=some q→b.getD Q false=true→∀ J ∈ q.after,Region.binds .any J=true→b.getD J.on false=true
theorem p5{n Q:Nat}{a:Array Bool}:Q ∈ rem n a↔Q < n∧a.getD Q true=false:=by simp [rem]
theorem z3{c:List Nat}{C:Nat}:∀ {l:List Edge},(p0 c l).testBit C=true→∃ J ∈ l,Region.binds .any J=true∧(J.on=C∨(c.getD J.on 0).testBit C=true)
 | [],Z=>by simp [p0] at Z
 | J :: l,Z=>by
  unfold p0 at Z
  cases aP:Region.binds .any J with
  | false=>
   rw [aP] at Z
   obtain⟨a,a0,b⟩:=z3 (l:=l) Z
   exact⟨a,List.mem_cons_of_mem _ a0,b⟩
  | true=>
   rw [aP] at Z
   simp only [cond_true,Nat.testBit_or,Bool.or_eq_true] at Z
   rcases Z with (Z | Z) | Z
   ·refine⟨J,List.mem_cons_self,aP,.inl ?_⟩
    rw [Nat.testBit_two_pow] at Z
    simpa using Z
   ·exact⟨J,List.mem_cons_self,aP,.inr Z⟩
   ·obtain⟨a,a0,b⟩:=z3 (l:=l) Z
    exact⟨a,List.mem_cons_of_mem _ a0,b⟩
theorem B4:∀ (l:List Oper) (a:List Nat),(∀ Q,Q < a.length→(k8 a l)[Q]?=a[Q]?)∧(∀ Q q,l[Q]?=some q→(k8 a l)[a.length+Q]?=some (p0 ((k8 a l).take (a.length+Q)) q.after.toList))
 | [],a=>⟨fun Q _=>rfl,fun Q q Z=>by simp at Z⟩
 | q :: l,a=>by
  obtain⟨a0,c⟩:=B4 l (a ++ [p0 a q.after.toList])
  simp only [List.length_append,List.length_cons,List.length_nil] at a0 c
  have J:k8 a (q :: l)=k8 (a ++ [p0 a q.after.toList]) l:=rfl
  rw [J]
  refine⟨fun Q bE=>?_,fun Q fM b=>?_⟩
  ·rw [a0 Q (by omega),List.getElem?_append_left bE]
  ·cases Q with
   | zero=>
    simp at b
    subst b
    have d:(k8 (a ++ [p0 a q.after.toList]) l).take (a.length+0)=a:=by
     apply List.ext_getElem?
     intro C
     rw [List.getElem?_take]
     split
     ·rename_i e
      rw [a0 C (by omega),List.getElem?_append_left (by omega)]
     ·rename_i e
      rw [List.getElem?_eq_none (by omega)]
    rw [d,a0 _ (by omega)]
    simp
   | succ Q=>
    have:=c Q fM (by simpa using b)
    rw [show a.length+(Q+1)=a.length+(0+1)+Q by omega]
    exact this
theorem B5{a:List Oper}{d:Array Bool}(l:xO a.toArray d)(g:s7 a=true):∀ (Q:Nat) (q:Oper),a[Q]?=some q→(∀ J ∈ q.after,Region.binds .any J=true→d.getD J.on false=true)→
  ∀ C,((k8 [] a).getD Q 0).testBit C=true→d.getD C false=true:=by
 intro Q
 induction Q using Nat.strongRecOn with
 | _ Q m=>
  intro q b n C e
  have aY:=(B4 a []).2 Q q b
  simp only [List.length_nil,Nat.zero_add] at aY
  rw [List.getD_eq_getElem?_getD,aY] at e
  simp only [Option.getD_some] at e
  obtain⟨J,a0,h,c⟩:=z3 e
  have t:J ∈ q.after:=by simpa using a0
  have i:=n J t h
  rcases c with rfl | c
  ·exact i
  ·have dE:J.on < Q:=by
    simp only [s7,List.all_eq_true,List.mem_range] at g
    have bE:Q < a.length:=by
     rcases Nat.lt_or_ge Q a.length with Z | Z
     ·exact Z
     ·rw [List.getElem?_eq_none Z] at b;cases b
    have:=g Q bE
    rw [b] at this
    simp only [List.all_eq_true] at this
    have:=this J a0
    rw [h] at this
    simpa [Nat.blt_eq] using this
   have v:((k8 [] a).take Q).getD J.on 0=(k8 [] a).getD J.on 0:=by
    rw [List.getD_eq_getElem?_getD,List.getD_eq_getElem?_getD,List.getElem?_take,if_pos dE]
   rw [v] at c
   cases f:a[J.on]? with
   | none=>
    have D:a.length≤J.on:=by simpa using f
    have bE:Q < a.length:=by
     rcases Nat.lt_or_ge Q a.length with Z | Z
     ·exact Z
     ·rw [List.getElem?_eq_none Z] at b;cases b
    omega
   | some j=>exact m J.on dE j f (l J.on j (by simpa using f) i) C c
theorem B6{n Q:Nat}{a:Array Bool}(aY:a.size=n)(bE:Q ∈ rem n a):
  ∃ y b8,rem n a=y ++ Q :: b8∧rem n (a.setIfInBounds Q true)=y ++ b8∧(∀ C ∈ y,C < Q∧C < n∧a.getD C true=false):=by
 have e:=(p5.1 bE)
 have c:List.range n=List.range Q ++ Q :: List.range' (Q+1) (n - Q - 1):=by
  rw [List.range_eq_range',List.range_eq_range',show n=Q+(1+(n - Q - 1)) by omega,← List.range'_append_1,← List.range'_append_1]
  simp
 refine⟨(List.range Q).filter fun C=>!a.getD C true,(List.range' (Q+1) (n - Q - 1)).filter fun C=>!a.getD C true,?_,?_,?_⟩
 ·unfold rem
  rw [c,List.filter_append,List.filter_cons,e.2]
  simp
 ·unfold rem
  rw [c,List.filter_append,List.filter_cons]
  have a0:(a.setIfInBounds Q true).getD Q true=true:=by
   rw [Array.getD_eq_getD_getElem?,Array.getElem?_setIfInBounds]
   simp
   split <;> rfl
  rw [a0]
  have d:∀ C,C ≠ Q→(a.setIfInBounds Q true).getD C true=a.getD C true:=by
   intro C b
   rw [Array.getD_eq_getD_getElem?,Array.getElem?_setIfInBounds,if_neg (fun J=>b J.symm),← Array.getD_eq_getD_getElem?]
  simp only [Bool.not_true,Bool.false_eq_true,if_false]
  congr 1
  ·apply List.filter_congr
   intro C b
   rw [d C (by simp at b;omega)]
  ·apply List.filter_congr
   intro C b
   rw [d C (by simp [List.mem_range'_1] at b;omega)]
 ·intro C b
  simp only [List.mem_filter,List.mem_range,Bool.not_eq_true'] at b
  exact⟨b.1,by omega,b.2⟩
theorem EZ{dA:Bool}{cS:Nat}{b:List Oper}(Lq:s8 E dA b=true){p:Act→V→Prop}{b7:Exit→Act→World→Prop}{qZ:World}
  (Lc:∀ a aA,fR qZ aA→p a aA.heap→b7 .normal a aA):∀ (m:Nat) (c:Array Bool) (a:Act) (aA:World),c.size=b.length→xO b.toArray c→(rem b.length c).length≤m→fR qZ aA→
   jB P E dA cS b.toArray p (rem b.length c) a aA.heap→wpAny P .any b.toArray b7 m c a aA:=by
 have Ld:=Lq
 simp only [s8,Bool.and_eq_true,List.all_eq_true,List.mem_range] at Ld
 obtain⟨⟨Le,K5⟩,Lr⟩:=Ld
 have Lf:∀ (C:Nat) (q:Oper) cQ N,b[C]?=some q→q.op ≠ .select cQ N:=by
  intro C q cQ N t J
  have:=List.mem_of_getElem? t
  simp only [Region.noSelect,Array.all_eq_true',List.mem_toArray] at Le
  have:=Le q this
  rw [J] at this
  simp at this
 have Lg:∀ c:Array Bool,∀ Q ∈ Region.ready .any b.toArray c,Q ∈ rem b.length c∧∃ q,b[Q]?=some q∧∀ J ∈ q.after,Region.binds .any J=true→c.getD J.on false=true:=by
  intro c Q bE
  simp only [Region.ready,List.size_toArray,List.mem_filter,List.mem_range,Bool.and_eq_true,Bool.not_eq_true'] at bE
  obtain⟨a0,Ls,K6⟩:=bE
  refine⟨p5.2 ⟨a0,Ls⟩,?_⟩
  have d:b.toArray[Q]?=some b[Q]:=by simp [a0]
  rw [d] at K6
  simp only [Option.map_some,Option.getD_some,Array.all_eq_true',Bool.or_eq_true,Bool.not_eq_true'] at K6
  refine⟨b[Q],by simp [a0],fun J f aP=>?_⟩
  rcases K6 J f with Z | Z
  ·rw [Z] at aP;cases aP
  ·exact Z
 have Lt:∀ c:Array Bool,c.size=b.length→∀ Q l,rem b.length c=Q :: l→Q ∈ Region.ready .any b.toArray c:=by
  intro c aY Q l g
  have bE:Q ∈ rem b.length c:=by rw [g];exact List.mem_cons_self
  have n:=p5.1 bE
  have Lu:∀ C,C < Q→c.getD C true=true:=by
   intro C t
   cases h:c.getD C true with
   | true=>rfl
   | false=>
    have D:C ∈ rem b.length c:=p5.2 ⟨by omega,h⟩
    have Lh:(rem b.length c).Pairwise (·< ·):=List.Pairwise.sublist List.filter_sublist List.pairwise_lt_range
    rw [g] at Lh D
    rcases List.mem_cons.1 D with rfl | D
    ·omega
    ·have:=(List.pairwise_cons.1 Lh).1 C D
     omega
  simp only [Region.ready,List.size_toArray,List.mem_filter,List.mem_range,Bool.and_eq_true,Bool.not_eq_true']
  refine⟨n.1,n.2,?_⟩
  have d:b.toArray[Q]?=some b[Q]:=by simp [n.1]
  rw [d]
  simp only [Option.map_some,Option.getD_some,Array.all_eq_true',Bool.or_eq_true,Bool.not_eq_true']
  intro J f
  cases aP:Region.binds .any J with
  | false=>exact .inl rfl
  | true=>
   refine .inr ?_
   simp only [s7,List.all_eq_true,List.mem_range] at K5
   have:=K5 Q n.1
   rw [show b[Q]?=some b[Q] by simp [n.1]] at this
   simp only [List.all_eq_true] at this
   have:=this J (by simpa using f)
   rw [aP] at this
   have dE:J.on < Q:=by simpa [Nat.blt_eq] using this
   have a0:=Lu J.on dE
   rw [Array.getD_eq_getD_getElem?] at a0 ⊢
   have K7:J.on < c.size:=by rw [aY];omega
   rw [Array.getElem?_eq_getElem K7] at a0 ⊢
   exact a0
 intro m
 induction m with
 | zero=>
  intro c a aA aY K8 K9 G e
  have Li:rem b.length c=[]:=List.length_eq_zero_iff.1 (by omega)
  have g:Region.ready .any b.toArray c=[]:=by
   cases H:Region.ready .any b.toArray c with
   | nil=>rfl
   | cons Q l=>
    have:=(Lg c Q (by rw [H];exact List.mem_cons_self)).1
    rw [Li] at this
    cases this
  rw [Li] at e
  exact⟨g,Lc a aA G e⟩
 | succ m Lv=>
  intro c a aA aY K8 K9 G e
  refine⟨fun g=>?_,fun Q bE=>?_⟩
  ·cases H:rem b.length c with
   | nil=>rw [H] at e;exact Lc a aA G e
   | cons Q l=>
    have:=Lt c aY Q l H
    rw [g] at this
    cases this
  ·obtain⟨Lj,q,d,Lk⟩:=Lg c Q bE
   obtain⟨y,b8,Ll,Lm,a0⟩:=B6 aY Lj
   rw [Ll] at e
   have hI:=(p5.1 Lj).1
   have Lw:∀ C ∈ y,free E dA b.toArray C Q:=by
    intro C t
    obtain⟨Lx,La,h⟩:=a0 C t
    have i:=Lr Q hI C Lx
    have j:b[C]?=some b[C]:=by simp [La]
    unfold Bo at i
    rw [d,j] at i
    simp only [Bool.or_eq_true,Bool.and_eq_true] at i
    have Ly:((k8 [] b).getD Q 0).testBit C ≠ true:=by
     intro aP
     have:=B5 K8 K5 Q q d Lk C aP
     have K7:C < c.size:=by rw [aY];exact La
     rw [Array.getD_eq_getD_getElem?,Array.getElem?_eq_getElem K7] at this h
     simp at this h
     rw [this] at h
     cases h
    rcases i with i | ⟨Lz,LA⟩
    ·exact absurd i Ly
    ·exact⟨b[C],q,by simp [La],by simpa using d,Lz,fun cQ N=>Lf C _ cQ N j,fun cQ N=>Lf Q _ cQ N d,LA⟩
   have Ln:=BZ Lw e
   have Lb:b.toArray[Q]?=some q:=by simpa using d
   simp only [jB,Lb] at Ln
   refine z2 Lb Ln fun v cV O M=>?_
   refine Lv _ _ _ (by simp [aY]) ?_ ?_ (G.trans O) (by rw [Lm];exact M)
   ·intro C LB j Lo J f aP
    by_cases Lp:C=Q
    ·subst Lp
     rw [Lb] at j
     cases j
     have:=Lk J f aP
     rw [Array.getD_eq_getD_getElem?,Array.getElem?_setIfInBounds]
     rw [Array.getD_eq_getD_getElem?] at this
     split
     ·rename_i LC
      split <;> simp_all
     ·exact this
    ·have LD:c.getD C false=true:=by
      rw [Array.getD_eq_getD_getElem?,Array.getElem?_setIfInBounds,if_neg (fun J=>Lp J.symm),← Array.getD_eq_getD_getElem?] at Lo
      exact Lo
     have:=K8 C LB j LD J f aP
     rw [Array.getD_eq_getD_getElem?,Array.getElem?_setIfInBounds]
     rw [Array.getD_eq_getD_getElem?] at this
     split
     ·rename_i LC
      split
      ·rfl
      ·rename_i dE;exact absurd (by rw [aY];exact hI) dE
     ·exact this
   ·rw [Lm];rw [Ll] at K9;simp at K9 ⊢;omega
theorem E0{dA:Bool}{cS:Nat}{c:List Oper}(m:s7 c=true){p:Act→V→Prop}{b7:Exit→Act→World→Prop}{qZ:World}
  (La:∀ a aA,fR qZ aA→p a aA.heap→b7 .normal a aA):∀ (i:Nat) (b:Array Bool) (a:Act) (aA:World),b.size=c.length→xO c.toArray b→(rem c.length b).length≤i→fR qZ aA→
   tE P E dA cS c.toArray (k8 [] c) p (rem c.length b).length (rem c.length b) a aA.heap→wpAny P .any c.toArray b7 i b a aA:=by
 have Lx:=m
 have Lb:∀ b:Array Bool,∀ Q ∈ Region.ready .any c.toArray b,Q ∈ rem c.length b∧∃ q,c[Q]?=some q∧∀ J ∈ q.after,Region.binds .any J=true→b.getD J.on false=true:=by
  intro b Q bE
  simp only [Region.ready,List.size_toArray,List.mem_filter,List.mem_range,Bool.and_eq_true,Bool.not_eq_true'] at bE
  obtain⟨a0,Lm,G⟩:=bE
  refine⟨p5.2 ⟨a0,Lm⟩,?_⟩
  have f:c.toArray[Q]?=some c[Q]:=by simp [a0]
  rw [f] at G
  simp only [Option.map_some,Option.getD_some,Array.all_eq_true',Bool.or_eq_true,Bool.not_eq_true'] at G
  refine⟨c[Q],by simp [a0],fun J g aP=>?_⟩
  rcases G J g with Z | Z
  ·rw [Z] at aP;cases aP
  ·exact Z
 have Ln:∀ b:Array Bool,b.size=c.length→∀ Q l,rem c.length b=Q :: l→Q ∈ Region.ready .any c.toArray b:=by
  intro b aY Q l d
  have bE:Q ∈ rem c.length b:=by rw [d];exact List.mem_cons_self
  have j:=p5.1 bE
  have Lo:∀ C,C < Q→b.getD C true=true:=by
   intro C Lc
   cases h:b.getD C true with
   | true=>rfl
   | false=>
    have n:C ∈ rem c.length b:=p5.2 ⟨by omega,h⟩
    have Ld:(rem c.length b).Pairwise (·< ·):=List.Pairwise.sublist List.filter_sublist List.pairwise_lt_range
    rw [d] at Ld n
    rcases List.mem_cons.1 n with rfl | n
    ·omega
    ·have:=(List.pairwise_cons.1 Ld).1 C n
     omega
  simp only [Region.ready,List.size_toArray,List.mem_filter,List.mem_range,Bool.and_eq_true,Bool.not_eq_true']
  refine⟨j.1,j.2,?_⟩
  have f:c.toArray[Q]?=some c[Q]:=by simp [j.1]
  rw [f]
  simp only [Option.map_some,Option.getD_some,Array.all_eq_true',Bool.or_eq_true,Bool.not_eq_true']
  intro J g
  cases aP:Region.binds .any J with
  | false=>exact .inl rfl
  | true=>
   refine .inr ?_
   simp only [s7,List.all_eq_true,List.mem_range] at m
   have:=m Q j.1
   rw [show c[Q]?=some c[Q] by simp [j.1]] at this
   simp only [List.all_eq_true] at this
   have:=this J (by simpa using g)
   rw [aP] at this
   have dE:J.on < Q:=by simpa [Nat.blt_eq] using this
   have a0:=Lo J.on dE
   rw [Array.getD_eq_getD_getElem?] at a0 ⊢
   have H:J.on < b.size:=by rw [aY];omega
   rw [Array.getElem?_eq_getElem H] at a0 ⊢
   exact a0
 have Lp:∀ b:Array Bool,(rem c.length b).Nodup:=fun b=>List.Nodup.sublist List.filter_sublist List.nodup_range
 intro i
 induction i with
 | zero=>
  intro b a aA aY K5 Lq t e
  have Le:rem c.length b=[]:=List.length_eq_zero_iff.1 (by omega)
  have d:Region.ready .any c.toArray b=[]:=by
   cases D:Region.ready .any c.toArray b with
   | nil=>rfl
   | cons Q l=>
    have:=(Lb b Q (by rw [D];exact List.mem_cons_self)).1
    rw [Le] at this
    cases this
  rw [Le] at e
  exact⟨d,La a aA t e⟩
 | succ i Lr=>
  intro b a aA aY K5 Lq t e
  refine⟨fun d=>?_,fun Q bE=>?_⟩
  ·cases D:rem c.length b with
   | nil=>rw [D] at e;exact La a aA t e
   | cons Q l=>
    have:=Ln b aY Q l D
    rw [d] at this
    cases this
  ·obtain⟨K6,q,f,Lf⟩:=Lb b Q bE
   obtain⟨y,b8,K7,Lg,a0⟩:=B6 aY K6
   have hI:=(p5.1 K6).1
   have d:p1 (k8 [] c) (rem c.length b) Q=true:=by
    unfold p1
    rw [List.all_eq_true]
    intro C Lc
    have Lh:=p5.1 Lc
    cases aP:((k8 [] c).getD Q 0).testBit C with
    | false=>rfl
    | true=>
     have:=B5 K5 m Q q f Lf C aP
     have H:C < b.size:=by rw [aY];exact Lh.1
     have h:=Lh.2
     rw [Array.getD_eq_getD_getElem?,Array.getElem?_eq_getElem H] at this h
     simp at this h
     rw [this] at h
     cases h
   have Li:del (rem c.length b) Q=rem c.length (b.setIfInBounds Q true):=by
    have Lj:=Lp b
    rw [K7] at Lj
    rw [Lg,K7,BW Lj]
   have Ls:(rem c.length b).length=(rem c.length (b.setIfInBounds Q true)).length+1:=by rw [K7,Lg];simp;omega
   rw [Ls] at e
   have K8:c.toArray[Q]?=some q:=by simpa using f
   have Lt:=e Q q K6 d K8
   refine z2 K8 Lt fun v cV O M=>?_
   refine Lr _ _ _ (by simp [aY]) ?_ (by omega) (t.trans O) (by rw [← Li];rw [← Li] at M;exact M)
   intro C Lu K9 Lk J g aP
   by_cases Ll:C=Q
   ·subst Ll
    rw [K8] at K9
    cases K9
    have:=Lf J g aP
    rw [Array.getD_eq_getD_getElem?,Array.getElem?_setIfInBounds]
    rw [Array.getD_eq_getD_getElem?] at this
    split
    ·rename_i Lv
     split <;> simp_all
    ·exact this
   ·have Lw:b.getD C false=true:=by
     rw [Array.getD_eq_getD_getElem?,Array.getElem?_setIfInBounds,if_neg (fun J=>Ll J.symm),← Array.getD_eq_getD_getElem?] at Lk
     exact Lk
    have:=K5 C Lu K9 Lw J g aP
    rw [Array.getD_eq_getD_getElem?,Array.getElem?_setIfInBounds]
    rw [Array.getD_eq_getD_getElem?] at this
    split
    ·rename_i Lv
     split
     ·rfl
     ·rename_i dE;exact absurd (by rw [aY];exact hI) dE
    ·exact this
theorem E1(c2:iH P E){id n:Nat}{d:Array Oper}{h:Bool}(g:zP E n d h=true){X:Fr}{a:Act}{aA:World}(D:gX n X a){p:Fr→V→Prop}
  (aJ:bif vX E h d.toList then p2 P E aA.heap.size d.toList (k8 [] d.toList) d.toList.length (List.range d.toList.length) X aA.heap p
   else jN P E (s9 E h d.toList) aA.heap.size d.toList d.toList X aA.heap p) {b7:Exit→Act→World→Prop} (G:∀ b c cV,gX n b c→fR aA cV→p b cV.heap→b7 .normal c cV) :
  (Code.region id d h).wp P b7 a aA:=by
 obtain⟨l⟩:=d
 simp only [zP,Bool.and_eq_true] at g
 obtain⟨aP,g⟩:=g
 have H:l.all (tB n)=true:=aP
 cases h with
 | false=>
  have K8:jN P E (s9 E false l) aA.heap.size l l X aA.heap p:=aJ
  have K5:=z1 c2 (M:=0) (fun C=>by simp) H D K8
  refine wp_region ?_
  have K9:∀ (i:List Nat) (a:Act) (f:World),fR aA f→jB P E (s9 E false l) aA.heap.size l.toArray (fun c A=>∃ b,gX n b c∧p b A) i a f.heap→wpOps P l.toArray b7 i a f:=by
   intro i
   induction i with
   | nil=>intro a f O ⟨b,s,M⟩;exact G b a f s O M
   | cons Q i K6=>
    intro a f O M
    rw [wpOps_cons]
    simp only [jB] at M
    cases m:l.toArray[Q]? with
    | none=>simp only [m] at M;unfold wpOp;simp only [m];exact K6 a f O M
    | some q=>simp only [m] at M;exact z2 m M fun v cV La eA=>K6 _ cV (O.trans La) eA
  rw [List.range_eq_range']
  exact K9 _ a aA (fR.refl aA) (by simpa using K5)
 | true=>
  simp only [Bool.not_true,Bool.false_or,Bool.and_eq_true] at g
  have K7:fR aA { aA with drawn:=aA.drawn+1 }:=⟨rfl,rfl,rfl⟩
  refine wp_region_any c2.mixed ?_
  have t:rem l.length (Array.replicate l.length false)=List.range' 0 l.length:=by
   unfold rem
   rw [List.range_eq_range',List.filter_eq_self]
   intro C Lb
   rw [Array.getD_eq_getD_getElem?,Array.getElem?_replicate]
   have:C < l.length:=by simpa [List.mem_range'_1] using Lb
   simp [this]
  have Lc:xO l.toArray (Array.replicate l.toArray.size false):=by
   intro Q q _ e
   rw [Array.getD_eq_getD_getElem?,Array.getElem?_replicate] at e
   simp only [List.size_toArray] at e
   split at e <;> simp at e
  cases j:vX E true l with
  | true=>
   rw [show({ toList:=l }:Array Oper).toList=l from rfl,j,cond_true] at aJ
   have Ld:=EY c2 H (by simpa using g.1) (by simp) List.nodup_range D aJ
   refine E0 (E:=E) (dA:=true) (cS:=aA.heap.size) g.2 (p:=fun c A=>∃ b,gX n b c∧p b A) (qZ:=aA) ?_ _ _ _ _ (by simp) Lc ?_ K7 ?_
   ·rintro c cV O ⟨b,s,M⟩
    exact G b c cV s O M
   ·simp only [List.size_toArray];rw [t];simp
   ·simp only [List.size_toArray];rw [t,← List.range_eq_range',List.length_range];exact Ld
  | false=>
  rw [show({ toList:=l }:Array Oper).toList=l from rfl,j,cond_false] at aJ
  have K5:=z1 c2 (M:=0) (fun C=>by simp) H D aJ
  have Le:s8 E (s9 E true l) l=true:=by
   unfold vX at j
   unfold s9
   cases a0:s8 E false l with
   | true=>simp [a0]
   | false=>simp [a0] at j ⊢;exact j
  refine EZ (dA:=s9 E true l) (cS:=aA.heap.size) Le (p:=fun c A=>∃ b,gX n b c∧p b A) (qZ:=aA) ?_ _ _ _ _ (by simp) ?_ ?_ K7 ?_
  ·rintro c cV O ⟨b,s,M⟩
   exact G b c cV s O M
  ·intro Q q _ e
   rw [Array.getD_eq_getD_getElem?,Array.getElem?_replicate] at e
   simp only [List.size_toArray] at e
   split at e <;> simp at e
  ·simp only [List.size_toArray];rw [t];simp
  ·simp only [List.size_toArray];rw [t];exact K5
def aH.up:aH→Exit
 | .normal=>.normal
 | .exit id=>.exit id
 | .ret=>.ret
theorem E2(c2:iH P E){n:Nat}:∀ {L:Code} {b7:aH→Fr→V→Prop} {X:Fr} {a:Act} {aA:World} {g:Exit→Act→World→Prop},n7 E n L=true→gX n X a→den P E L b7 X aA.heap→
  (∀ J e f cV,gX n e f→fR aA cV→b7 J e cV.heap→g J.up f cV)→L.wp P g a aA:=by
 intro L
 induction L with
 | skip=>intro b7 X a aA g d c aJ b;exact wp_skip (b .normal X a aA c (fR.refl aA) aJ)
 | label l=>intro b7 X a aA g d c aJ b;exact wp_label (b .normal X a aA c (fR.refl aA) aJ)
 | ret=>intro b7 X a aA g d c aJ b;exact wp_ret (b .ret X a aA c (fR.refl aA) aJ)
 | exit id=>intro b7 X a aA g d c aJ b;exact wp_exit (b (.exit id) X a aA c (fR.refl aA) aJ)
 | region id Ld Le=>
  intro b7 X a aA g d c aJ b
  exact E1 c2 d c aJ fun e f cV s O M=>b .normal e f cV s O M
 | seq I aN j v=>
  intro b7 X a aA g d c aJ b
  simp only [n7,Bool.and_eq_true] at d
  refine wp_seq (j d.1 c aJ fun J e f cV s O M=>?_)
  cases J with
  | normal=>exact v d.2 s M fun K5 K6 K7 h K8 s2 K9=>b K5 K6 K7 h K8 (O.trans s2) K9
  | exit id=>exact b (.exit id) e f cV s O M
  | ret=>exact b .ret e f cV s O M
 | cond L I aN j v=>
  intro b7 X a aA g d c aJ b
  simp only [n7,Bool.and_eq_true] at d
  simp only [den] at aJ
  split at aJ
  ·rename_i t D
   have La:a.eval L=.bool t:=by rw [c.cO];exact D
   refine wp_cond La ?_
   cases t with
   | true=>simp only [cond_true,Bi D] at aJ;exact j d.1 c aJ b
   | false=>simp only [cond_false,Bi D] at aJ;exact v d.2 c aJ b
  ·cases aJ
 | block id L i=>
  intro b7 X a aA g d c aJ b
  refine wp_block (i d c aJ fun J e f cV s O M=>?_)
  cases J with
  | normal=>exact b .normal e f cV s O M
  | ret=>exact b .ret e f cV s O M
  | exit H=>
   simp only [aH.inBlock] at M
   simp only [aH.up,Exit.inBlock]
   cases aP:Nat.beq H id with
   | true=>
    simp only [aP,cond_true] at M
    rw [if_pos (Nat.eq_of_beq_eq_true aP)]
    exact b .normal e f cV s O M
   | false=>
    simp only [aP,cond_false] at M
    rw [if_neg (fun J=>by subst J;simp at aP)]
    exact b (.exit H) e f cV s O M
 | scope L i=>
  intro b7 X a aA g d c aJ b
  refine wp_scope_straight (i d c aJ fun J e f cV s O M=>?_)
  cases J <;> exact b _ e f cV s O M
 | loop L i=>
  intro b7 X a aA g d c aJ b
  obtain⟨m,aJ⟩:=aJ
  refine wp_loop_rounds m ?_
  have Lb:∀ m X a h,gX n X a→fR aA h→iter (fun bN=>den P E L (aH.then bN b7)) m X h.heap→Code.rounds P L g m a h:=by
   intro m
   induction m with
   | zero=>intro X a h _ _ Z;exact Z.elim
   | succ m Lc=>
    intro X a h c O Z
    rw [rounds_succ]
    refine i d c Z fun J e f cV s G M=>?_
    cases J with
    | normal=>exact Lc e f cV s (O.trans G) M
    | exit id=>exact b (.exit id) e f cV s (O.trans G) M
    | ret=>exact b .ret e f cV s (O.trans G) M
  exact Lb m X a aA c (fR.refl aA) aJ
 | _=>intro b7 X a aA g d c aJ b;exact aJ.elim
theorem E3(args:List Value)(n:Nat)(b:args.length≤n):gX n (xE args) { tmps:=args.toArray ++ Array.replicate (n - args.length) undef,defers:=[] }:=by
 refine⟨by simp;omega,rfl,fun t=>?_⟩
 unfold xE
 rw [Array.getD_eq_getD_getElem?]
 by_cases Z:t < args.length
 ·rw [Array.getElem?_append_left (by simpa using Z)]
  simp [Z]
 ·rw [Array.getElem?_append_right (by simpa using Z)]
  have a:args[t]?=none:=by simp;omega
  rw [a]
  simp only [List.size_toArray]
  rw [Array.getElem?_replicate]
  split <;> rfl
def xP(tmps:Array Value):ResultVar→Sem Value
 | .tmp t=>pure (tmps.getD t undef)
 | .cell a t=>do loadVar t (← asAddr (tmps.getD a undef))
theorem z4(c2:iH P E){n:Nat}{X:Fr}{a:Act}(b:gX n X a){aA:World}:∀ {l:List ResultVar} {p:List Value→Prop},tA E X aA.heap l p→∃ bW,p bW∧(l.mapM (xP a.tmps)).run P aA=Result.ok bW aA
 | [],p,Z=>⟨[],Z,rfl⟩
 | .tmp t :: l,p,Z=>by
  obtain⟨bW,a0,c⟩:=z4 c2 b (l:=l) Z
  refine⟨_,a0,?_⟩
  rw [List.mapM_cons]
  simp only [xP,Sem.run_bind,Sem.run_pure,Result.andThen,c,b.get t]
 | .cell I t :: l,p,Z=>by
  simp only [tA] at Z
  split at Z
  ·rename_i o Q e f
   obtain⟨v,a0,c⟩:=BD (P:=P) c2 f Z
   obtain⟨bW,g,h⟩:=z4 c2 b (l:=l) a0
   refine⟨_,g,?_⟩
   have d:=c aA rfl
   simp only [Instr.loadAt,Instr.sureAddr,pure_bind] at d
   rw [List.mapM_cons]
   simp only [xP,Sem.run_bind,Sem.run_pure,Result.andThen,h,b.get I,e,asAddr,d]
  ·cases Z
theorem E4(c2:iH P E){a9:FuncId}{fn:Func}{L:Code}{cY:List ResultVar}(dJ:P.funcs[a9]?=some fn)(aP:fn.body=some L)(d:n7 E fn.ntmps L=true)(e:fn.results.toList=cY)
  {args:List Value} (f:args.length≤fn.ntmps) {Z:V} {Y:Value→V→Prop}
  (aJ:den P E L (fun J X A=>match J with | .exit _=>False | _=>tA E X A cY fun bW=>Y (xF bW) A) (xE args) Z):o2 P a9 args.toArray Z Y:=by
 intro aA g
 subst g
 refine calls_of_wp dJ aP ?_
 have h:=E3 args fn.ntmps f
 have i:fn.ntmps - args.toArray.size=fn.ntmps - args.length:=by simp
 rw [i]
 refine E2 c2 d h aJ fun J j c cV s O M=>?_
 have b:(tA E j cV.heap cY fun bW=>Y (xF bW) cV.heap)→∃ v,(results fn c.tmps).run P cV=.ok v cV∧Y v cV.heap:=by
  intro M
  obtain⟨bW,a0,a⟩:=z4 c2 s M
  refine⟨_,?_,a0⟩
  have b:results fn c.tmps=(fn.results.mapM (xP c.tmps) >>= fun bW=>pure (if Z:bW.size=1 then bW[0] else .tuple bW)):=rfl
  rw [b,Sem.run_bind,Array.mapM_eq_mapM_toList,Sem.run_map,e,a]
  simp only [Result.andThen,Sem.run_pure]
  congr 1
  match bW with
  | []=>rfl
  | [t]=>rfl
  | t :: l :: jL=>simp [xF]
 cases J with
 | normal=>obtain⟨v,a0,a⟩:=b M;exact⟨s.defers,v,a0,v,rfl,O,a⟩
 | ret=>obtain⟨v,a0,a⟩:=b M;exact⟨s.defers,v,a0,v,rfl,O,a⟩
 | exit id=>exact M.elim
end
set_option linter.unusedSimpArgs false
theorem tF{n:Int}{p a:Int→Prop}(b:∀ n,p n→a n)(Z:a2 n p):a2 n a:=⟨b _ Z.out⟩
theorem E5{op:BinOp}{M:IntKind}{a N:Int}{p c:Value→Prop}(b:∀ v,p v→c v)(Z:w8 op M a N p):w8 op M a N c:=by
 cases op <;> first
  | exact b _ Z
  | exact tF (fun n=>b _) Z
  | exact⟨Z.1,tF (fun n=>b _) Z.2⟩
  | exact Z
theorem E6{E:Env}{op:BinOp}{t:TypeId}{I aN:Value}{p c:Value→Prop}(b:∀ v,p v→c v)(Z:uM E op t I aN p):uM E op t I aN c:=by
 unfold uM at *
 split at Z
 ·rename_i M a eA N
  split at Z
  ·exact⟨Z.1,tF (fun n=>b _) Z.2⟩
  ·exact⟨Z.1,tF (fun n=>b _) Z.2⟩
  ·cases J:qX M eA with
   | false=>rw [J] at Z;cases Z
   | true=>rw [J] at Z;exact E5 b Z
 ·split at Z
  ·exact⟨Z.1,b _ Z.2⟩
  ·exact b _ Z
  ·exact b _ Z
  ·cases Z
 ·split at Z
  ·split at Z
   ·exact b _ Z
   ·exact b _ Z
   ·cases Z
  ·cases Z
 ·split at Z
  ·split at Z
   ·exact b _ Z
   ·exact b _ Z
   ·cases Z
  ·cases Z
 ·cases Z
theorem E7{op:UnOp}{I:Value}{p b:Value→Prop}(a:∀ v,p v→b v)(Z:uO op I p):uO op I b:=by
 unfold uO at *
 split at Z
 ·exact tF (fun n=>a _) Z
 ·exact tF (fun n=>a _) Z
 ·exact a _ Z
 ·cases Z
theorem E8{a:IntKind}{v:Value}{p b:Int→Prop}(c:∀ n,p n→b n)(Z:aV a v p):aV a v b:=by
 obtain⟨m,J,g⟩:=bS Z
 subst J
 have this:∀ C:IntKind,qX C C=true:=fun C=>by cases C <;> rfl
 simp only [aV,this,cond_true]
 exact c _ g
theorem xQ{M:hO}{v:Value}{p c:Value→Prop}(b:∀ v,p v→c v)(Z:s0 M v p):s0 M v c:=by
 cases M with
 | int M=>exact E8 (fun n=>b _) Z
 | bool=>obtain⟨n,J,g⟩:=dY (show b9 v _ from Z);subst J;exact b _ g
 | str=>obtain⟨n,J,g⟩:=Bs (show w6 v _ from Z);subst J;exact b _ g
 | slice=>obtain⟨a,l,L,J,g⟩:=bQ (show aG v _ from Z);subst J;exact b _ g
 | ptr=>obtain⟨n,J,g⟩:=Bt (show w7 v _ from Z);subst J;exact b _ g
theorem B7:∀ {b:List hO} {l:List Value} {p a:List Value→Prop},(∀ v,p v→a v)→vR b l p→vR b l a
 | [],l,p,a,c,Z=>by obtain⟨J,g⟩:=eD Z;subst J;exact c _ g
 | M :: b,l,p,a,c,Z=>by
  obtain⟨v,bW,J,g⟩:=cH Z
  subst J
  exact xQ (fun e d=>B7 (fun f=>c _) d) g
theorem B8{Q:dO}{v:Value}{p a:Value→Prop}(b:∀ v,p v→a v)(Z:s3 Q v p):s3 Q v a:=by
 unfold s3 at *
 split at Z
 ·obtain⟨cQ,J,g⟩:=zT Z
  subst J
  rename_i J
  exact B7 (fun bW=>b _) g
 ·split at Z
  ·rename_i c M J
   exact xQ b Z
  ·cases Z
theorem B9{E:Env}:∀ {jL:List TypeId} {l:List Value} {p a:List Value→Prop},(∀ v,p v→a v)→uK E jL l p→uK E jL l a
 | [],l,p,a,b,Z=>by obtain⟨J,g⟩:=eD Z;subst J;exact b _ g
 | t :: jL,l,p,a,b,Z=>by
  obtain⟨v,bW,J,g⟩:=cH Z
  subst J
  unfold uK bR
  simp only
  split at g
  ·rename_i Q J
   exact B8 (fun d c=>B9 (fun e=>b _) c) g
  ·cases g
theorem Ca{E:Env}{t:TypeId}{v:Value}{p b:Value→Prop}(a:∀ v,p v→b v)(Z:s4 E t v p):s4 E t v b:=by
 unfold s4 at *
 split at Z
 ·rename_i Q J
  split at Z
  ·rename_i jL c
   obtain⟨cQ,J,g⟩:=Bv Z
   subst J
   exact B9 (fun bW=>a _) g
  ·rename_i d
   exact B8 a Z
 ·exact a _ Z
theorem Cb{a:U}{l:Nat}{Q:Int}{eZ:Nat}{p b:Addr→Prop}(c:∀ o,p o→b o)(Z:cL a l Q eZ p):cL a l Q eZ b:=by
 obtain⟨aB,Z⟩:=Z
 refine⟨aB,?_⟩
 cases a with
 | none=>exact Z
 | some z=>exact c _ Z
theorem E9{O:ByteArray}{Q:Int}{p a:Int→Prop}(b:∀ o,p o→a o)(Z:vS O Q p):vS O Q a:=by
 obtain⟨aB,Z⟩:=Z
 refine⟨aB,?_⟩
 split at Z
 ·rename_i J;exact b _ Z
 ·cases Z
theorem Cc{Z:V}{o:Addr}{p a:Value→Prop}(b:∀ v,p v→a v)(aJ:e7 Z o p):e7 Z o a:=by
 unfold e7 at *
 split at aJ
 ·rename_i J;exact b _ aJ
 ·cases aJ
theorem Cd{Z:V}{o:Addr}:∀ {a:List hO} {Q:Nat} {p b:List Value→Prop},(∀ v,p v→b v)→uP Z o Q a p→uP Z o Q a b
 | [],Q,p,b,c,aJ=>c _ aJ
 | M :: a,Q,p,b,c,aJ=>Cc (fun v g=>xQ (fun a a=>Cd (fun bW=>c _) a) g) aJ
theorem Fa{Q:dO}{Z:V}{o:Addr}{p a:Value→Prop}(b:∀ v,p v→a v)(aJ:uQ Q Z o p):uQ Q Z o a:=by
 obtain⟨dW,fS,N⟩:=Q
 cases dW with
 | struct eO=>exact Cd (fun bW=>b _) aJ
 | tuple jL=>exact aJ
 | _=>
  match fS,aJ with
  | [M],aJ=>exact Cc (fun v g=>xQ b g) aJ
theorem v5{v:Option Value}{bH aN:Nat}{p a:Nat→Prop}(b:∀ n,p n→a n)(Z:pY v bH aN p):pY v bH aN a:=by
 unfold pY at *
 split at Z
 ·exact b _ Z
 ·exact⟨Z.1,b _ Z.2⟩
 ·cases Z
theorem Fb{eZ:Nat}{a:U}{l L:Nat}{c5 bE b:Option Value}{p c:U→Nat→Nat→Prop}(d:∀ a l L,p a l L→c a l L)(Z:h7 eZ a l L c5 bE b p):h7 eZ a l L c5 bE b c:=by
 unfold h7 at *
 split at Z
 ·cases Z
 ·rename_i h
  exact v5 (fun m g=>v5 (fun A e=>v5 (fun l f=>d _ _ _ f) e) g) Z
theorem Fc{O:ByteArray}{c5 bE:Option Value}{p a:ByteArray→Prop}(b:∀ O,p O→a O)(Z:vT O c5 bE p):vT O c5 bE a:=
 v5 (fun A a=>v5 (fun l c=>b _ c) a) Z
theorem Ce:∀ {rest:List Value} {I:Value} {p b:Value→Prop},(∀ v,p v→b v)→nM I rest p→nM I rest b
 | [],I,p,b,c,Z=>by unfold nM at *;exact c _ Z
 | aN :: rest,I,p,b,c,Z=>by
  cases I with
  | int M a=>
   cases aN with
   | int eA N=>unfold nM at *;exact Ce c Z
   | _=>simp [nM] at Z
  | _=>cases aN <;> simp [nM] at Z
theorem Cf:∀ {rest:List Value} {I:Value} {p b:Value→Prop},(∀ v,p v→b v)→nN I rest p→nN I rest b
 | [],I,p,b,c,Z=>by unfold nN at *;exact c _ Z
 | aN :: rest,I,p,b,c,Z=>by
  cases I with
  | int M a=>
   cases aN with
   | int eA N=>unfold nN at *;exact Cf c Z
   | _=>simp [nN] at Z
  | _=>cases aN <;> simp [nN] at Z
theorem Fe{E:Env}{t:TypeId}{v:Value}{p a:Value→Prop}(b:∀ v,p v→a v)(Z:vU E t v p):vU E t v a:=by
 unfold vU at *
 split at Z
 ·rename_i J;exact b _ Z
 ·rename_i J;exact b _ Z
 ·cases Z
theorem Ff{E:Env}{L:Call}{X:Fr}{p b:Value→Prop}(a:∀ v,p v→b v)(Z:uT E L X p):uT E L X b:=by
 obtain⟨d,args,rV⟩:=L
 unfold uT at *
 simp only at *
 split at Z
 ·split at Z
  ·rename_i e c;exact Fe a Z
  ·cases Z
 ·split at Z
  ·rename_i J;exact Ce a Z
  ·cases Z
 ·split at Z
  ·rename_i J;exact Cf a Z
  ·cases Z
 ·split at Z
  ·rename_i J
   split at Z
   ·rename_i c;exact⟨Z.1,a _ Z.2⟩
   ·cases Z
  ·rename_i J
   split at Z
   ·rename_i c;exact⟨Z.1,a _ Z.2⟩
   ·cases Z
  ·cases Z
 ·cases Z
theorem z5{E:Env}{op:Op}{X:Fr}{Z:V}{p g:Value→Prop}(b:∀ v,p v→g v)(aJ:hZ E op X Z p):hZ E op X Z g:=by
 cases op with
 | move I=>exact b _ aJ
 | assign I=>exact b _ aJ
 | pick L a N=>
  simp only [hZ] at *
  split at aJ
  ·rename_i t J
   cases t <;> exact b _ aJ
  ·cases aJ
 | load t a=>
  simp only [hZ] at *
  split at aJ
  ·rename_i c d;exact Fa b aJ
  ·cases aJ
 | binOp op t I aN j=>exact E6 b aJ
 | unOp op t I=>exact E7 b aJ
 | convert O bH I=>
  simp only [hZ] at *
  split at aJ
  ·rename_i c d e;exact tF (fun n=>b _) aJ
  ·cases aJ
 | indexAddr t I Q=>
  simp only [hZ] at *
  split at aJ
  ·rename_i c d e
   split at aJ
   ·rename_i f;exact Cb (fun o=>b _) aJ
   ·cases aJ
  ·split at aJ
   ·split at aJ
    ·exact Cb (fun o=>b _) aJ
    ·cases aJ
   ·cases aJ
  ·cases aJ
 | index t I Q=>
  simp only [hZ] at *
  split at aJ
  ·rename_i c d e;exact E9 (fun o=>b _) aJ
  ·cases aJ
 | extract I Q=>
  simp only [hZ] at *
  split at aJ
  ·rename_i c
   split at aJ
   ·rename_i d;exact b _ aJ
   ·cases aJ
  ·cases aJ
 | fieldAddr O I a9=>
  simp only [hZ] at *
  split at aJ
  ·rename_i c d
   split at aJ
   ·rename_i e
    split at aJ
    ·rename_i Q f
     cases h:Nat.beq Q.leaves.length 0 with
     | true=>rw [h] at aJ;cases aJ
     | false=>rw [h] at aJ;exact b _ aJ
    ·cases aJ
   ·cases aJ
  ·cases aJ
 | field t I a9=>
  simp only [hZ] at *
  split at aJ
  ·rename_i c d
   split at aJ
   ·rename_i e
    split at aJ
    ·rename_i f;exact b _ aJ
    ·cases aJ
    ·rename_i Q m D f
     split at aJ
     ·rename_i G
      exact b _ aJ
     ·cases aJ
    ·cases aJ
   ·cases aJ
  ·cases aJ
 | build t H=>
  simp only [hZ] at *
  split at aJ
  ·rename_i eO fS N c
   cases i:uS E eO with
   | false=>rw [i] at aJ;cases aJ
   | true=>
    rw [i] at aJ
    simp only [cond_true] at *
    split at aJ
    ·rename_i d;exact b _ aJ
    ·cases aJ
  ·cases aJ
 | nilCheck I=>
  simp only [hZ] at *
  split at aJ
  ·rename_i c;exact b _ aJ
  ·cases aJ
 | slice t I c5 bE P=>
  simp only [hZ] at *
  split at aJ
  ·rename_i c d
   split at aJ
   ·rename_i e;exact Fb (fun a l L=>b _) aJ
   ·cases aJ
  ·rename_i c d
   split at aJ
   ·exact Fc (fun O=>b _) aJ
   ·cases aJ
  ·cases aJ
 | call L=>exact Ff b aJ
 | _=>exact aJ
theorem Cg{o:Addr}:∀ {l:List Value} {Q:Nat} {Z:V} {p a:V→Prop},(∀ Z,p Z→a Z)→s5 Z o Q l p→s5 Z o Q l a
 | [],Q,Z,p,a,b,aJ=>b _ aJ
 | v :: bW,Q,Z,p,a,b,aJ=>by
  unfold s5 at *
  cases c:nO v with
  | false=>rw [c] at aJ;cases aJ
  | true=>rw [c] at aJ;exact⟨aJ.1,Cg b aJ.2⟩
theorem Fg{Q:dO}{Z:V}{o:Addr}{v:Value}{p a:V→Prop}(b:∀ Z,p Z→a Z)(aJ:uU Q Z o v p):uU Q Z o v a:=by
 cases v with
 | agg cQ=>
  unfold uU at *
  cases aP:Nat.beq cQ.toList.length Q.leaves.length with
  | false=>simp only [aP] at aJ;cases aJ
  | true=>simp only [aP] at *;exact Cg b aJ
 | tuple cQ=>exact aJ
 | _=>
  unfold uU at *
  cases aP:Nat.beq 1 Q.leaves.length with
  | false=>simp only [aP] at aJ;cases aJ
  | true=>simp only [aP] at *;exact⟨aJ.1,b _ aJ.2⟩
theorem Fh{Z:V}{J:TypeId}{Q:dO}{a:U}{l L:Nat}{I:Value}{p d:U→Nat→Nat→V→Prop}(b:∀ a l L Z,p a l L Z→d a l L Z)(aJ:gW Z J Q a l L I p):gW Z J Q a l L I d:=by
 obtain⟨n,cQ,a0,e,f,g⟩:=aJ
 refine⟨n,cQ,a0,e,fun c=>?_,fun c=>?_⟩
 ·have:=f c
  cases a with
  | none=>exact b _ _ _ _ this
  | some z=>exact⟨this.1,b _ _ _ _ this.2⟩
 ·obtain⟨h,i,j,qY,m,t⟩:=g c
  exact⟨h,i,j,qY,m,fun v D=>b _ _ _ _ (t v D)⟩
theorem Fi{Z:V}{eZ:Nat}{a:U}{l:Nat}{I:Value}{p c:Int→V→Prop}(d:∀ n Z,p n Z→c n Z)(aJ:mW Z eZ a l I p):mW Z eZ a l I c:=by
 obtain⟨n,cQ,a0,e,b⟩:=aJ
 refine⟨n,cQ,a0,e,?_⟩
 cases a with
 | none=>exact d _ _ b
 | some z=>exact⟨b.1,d _ _ b.2⟩
theorem Fj{Z:V}{Q:dO}{a:U}{l:Nat}{p c:V→Prop}(b:∀ Z,p Z→c Z)(aJ:xA Z Q a l p):xA Z Q a l c:=by
 cases a with
 | none=>exact b _ aJ
 | some z=>
  cases l with
  | zero=>exact b _ aJ
  | succ l=>exact⟨aJ.1,b _ aJ.2⟩
theorem Fk{Z:V}{o:Addr}{b c:Int→Int→V→Prop}{d e:Prop}(a0:∀ Q L Z,b Q L Z→c Q L Z)(aB:d→e)(aJ:xB Z o b d):xB Z o c e:=by
 obtain⟨a,O,f,N,L,bH⟩:=aJ
 exact⟨a,O,f,N,fun J=>a0 _ _ _ (L J),fun J=>aB (bH J)⟩
theorem Fl{Z:V}{a:U}{l:Nat}{p b:ByteArray→Prop}(c:∀ O,p O→b O)(aJ:xC Z a l p):xC Z a l b:=by
 cases a with
 | none=>exact c _ aJ
 | some z=>obtain⟨d,a0,e,f⟩:=aJ;exact⟨d,a0,e,c _ f⟩
theorem z6{P:Program}{E:Env}{op:Op}{kV:TypeId}{X:Fr}{Z:V}{p i:Value→V→Prop}(b:∀ v Z,p v Z→i v Z)(aJ:jA P E op kV X Z p):jA P E op kV X Z i:=by
 cases op with
 | range t I=>
  simp only [jA] at *
  split at aJ
  ·exact b _ _ aJ
  ·cases aJ
 | next I N=>
  cases N with
  | false=>exact aJ
  | true=>
   simp only [jA,cond_true] at *
   split at aJ
   ·exact Fk (fun _ _ _=>b _ _) (b _ _) aJ
   ·cases aJ
 | convert O bH I=>
  simp only [jA] at *
  split at aJ
  ·split at aJ
   ·exact Fl (fun _=>b _ _) aJ
   ·cases aJ
  ·cases aJ
 | store t I v=>
  simp only [jA] at *
  split at aJ
  ·rename_i c e;exact Fg (fun Z=>b _ _) aJ
  ·cases aJ
 | box J v=>exact b _ _ aJ
 | alloc J=>
  simp only [jA] at *
  split at aJ
  ·cases aJ
  ·rename_i Q d c
   exact b _ _ aJ
  ·cases aJ
 | makeSlice t l L=>
  simp only [jA] at *
  split at aJ
  ·rename_i c e h
   split at aJ
   ·cases aJ
   ·rename_i Q d f
    exact⟨aJ.1,b _ _ aJ.2⟩
   ·cases aJ
  ·cases aJ
 | buildSlice t n D=>
  simp only [jA] at *
  split at aJ
  ·rename_i c
   split at aJ
   ·cases aJ
   ·rename_i Q d f
    cases aP:Nat.ble (n*Q.leaves.length) 16777216 with
    | false=>rw [aP] at aJ;cases aJ
    | true=>
     rw [aP] at aJ
     simp only [cond_true] at *
     split at aJ
     ·exact b _ _ aJ
     ·cases aJ
   ·cases aJ
  ·cases aJ
 | call L=>
  obtain⟨G,args,rV⟩:=L
  simp only [jA] at *
  split at aJ
  ·split at aJ
   ·rename_i O I t m c e
    cases aY:uV E m with
    | false=>rw [aY] at aJ;cases aJ
    | true=>
     rw [aY] at aJ
     simp only [cond_true] at *
     split at aJ
     ·rename_i h f
      split at aJ
      ·cases aJ
      ·rename_i Q d j
       exact Fh (fun a l L Z=>b _ _) aJ
      ·cases aJ
     ·cases aJ
   ·cases aJ
  ·split at aJ
   ·rename_i c e
    split at aJ
    ·rename_i h f
     split at aJ
     ·cases aJ
     ·rename_i Q d j
      exact Fi (fun n Z=>b _ _) aJ
     ·cases aJ
    ·cases aJ
   ·cases aJ
  ·split at aJ
   ·rename_i c e
    split at aJ
    ·rename_i h f
     split at aJ
     ·cases aJ
     ·rename_i Q d j
      exact Fj (fun Z=>b _ _) aJ
     ·cases aJ
    ·cases aJ
   ·cases aJ
  ·split at aJ
   ·rename_i c;exact o2.mono aJ fun v A g=>Ca (fun H=>b _ _) g
   ·cases aJ
  ·cases aJ
 | _=>exact aJ
theorem Fm{P:Program}{E:Env}{op:Op}{kV:TypeId}{X:Fr}{Z:V}{p a:Value→Prop}(b:∀ v,p v→a v)(aJ:s6 P E op kV X Z p):s6 P E op kV X Z a:=by
 cases op with
 | call L=>
  simp only [s6] at *
  split at aJ
  ·obtain⟨v,a0,c⟩:=aJ
   exact⟨v,a0,Ca b c⟩
  ·cases aJ
 | _=>exact aJ
theorem Ch{P:Program}{E:Env}{dA:Bool}{cS:Nat}{q:Oper}{X:Fr}{Z:V}{p c:Value→V→Prop}(a:∀ v Z,p v Z→c v Z)(aJ:pZ P E dA cS q X Z p):pZ P E dA cS q X Z c:=by
 unfold pZ at *
 cases b:gE E q.op with
 | pure=>simp only [b] at *;exact z5 (fun v=>a v _) aJ
 | load=>
  simp only [b] at *
  cases dA with
  | false=>exact z5 (fun v=>a v _) aJ
  | true=>
   simp only [cond_true] at *
   split at aJ
   ·exact⟨aJ.1,z5 (fun v=>a v _) aJ.2⟩
   ·cases aJ
 | quiet=>simp only [b] at *;exact Fm (fun v=>a v _) aJ
 | call=>
  simp only [b] at *
  cases dA with
  | false=>simp only [cond_false] at *;exact z6 a aJ
  | true=>simp only [cond_true] at *;exact z6 (fun v A M=>⟨M.1,a _ _ M.2⟩) aJ
 | act=>simp only [b] at *;exact z6 a aJ
theorem u2{P:Program}{E:Env}{dA:Bool}{cS:Nat}{all:List Oper}:∀ {l:List Oper} {X:Fr} {Z:V} {p b:Fr→V→Prop},(∀ X Z,p X Z→b X Z)→jN P E dA cS all l X Z p→jN P E dA cS all l X Z b
 | [],X,Z,p,b,a,aJ=>a _ _ aJ
 | q :: rest,X,Z,p,b,a,aJ=>by
  unfold jN at *
  split at aJ
  ·rename_i J;exact Ch (fun v A=>u2 a) aJ
  ·rename_i C c J
   split at aJ
   ·cases aJ
   ·rename_i t d
    split at aJ
    ·rename_i N e
     cases N <;> cases c <;> simp only [cond_true,cond_false] at*<;> first
      | exact u2 a aJ
      | exact Ch (fun v A=>u2 a) aJ
    ·exact u2 a aJ
    ·cases aJ
theorem Ci{P:Program}{E:Env}{cS:Nat}{all:List Oper}{Q:Nat}{X:Fr}{Z:V}{p a:Fr→V→Prop}(b:∀ X Z,p X Z→a X Z)(aJ:rU P E cS all Q X Z p):rU P E cS all Q X Z a:=by
 unfold rU at *
 split at aJ
 ·exact u2 b aJ
 ·cases aJ
theorem Cj{a9 g:Nat→Prop}(a:∀ Q,a9 Q→g Q):∀ {l:List Nat},vY a9 l→vY g l
 | [],_=>trivial
 | [Q],Z=>a Q Z
 | Q :: C :: l,Z=>⟨a Q Z.1,Cj a Z.2⟩
theorem z7{P:Program}{E:Env}{cS:Nat}{all:List Oper}{b:List Nat}{p c:Fr→V→Prop}(a:∀ X Z,p X Z→c X Z):∀ {n:Nat} {eX:List Nat} {X:Fr} {Z:V},p2 P E cS all b n eX X Z p→p2 P E cS all b n eX X Z c
 | 0,_,X,Z,aJ=>a _ _ aJ
 | n+1,eX,X,Z,aJ=>by
  unfold p2 at *
  split at aJ
  ·rename_i J;exact Ci (fun X Z=>z7 a) aJ
  ·rename_i J;exact Cj (fun Q g=>Ci (fun X Z=>z7 a) g) aJ
theorem xR{P:Program}{E:Env}:∀ {L:Code} {b7 b:aH→Fr→V→Prop} {X:Fr} {Z:V},(∀ J X Z,b7 J X Z→b J X Z)→den P E L b7 X Z→den P E L b X Z:=by
 intro L
 induction L with
 | skip=>intro b7 b X Z a aJ;exact a _ _ _ aJ
 | label l=>intro b7 b X Z a aJ;exact a _ _ _ aJ
 | ret=>intro b7 b X Z a aJ;exact a _ _ _ aJ
 | exit id=>intro b7 b X Z a aJ;exact a _ _ _ aJ
 | region id j m=>
  intro b7 b X Z a aJ
  simp only [den] at *
  cases h:vX E m j.toList with
  | true=>rw [h] at aJ;simp only [cond_true] at aJ ⊢;exact z7 (a _) aJ
  | false=>rw [h] at aJ;simp only [cond_false] at aJ ⊢;exact u2 (a _) aJ
 | seq I aN d e=>
  intro b7 b X Z a aJ
  refine d (fun J i A g=>?_) aJ
  cases J with
  | normal=>exact e a g
  | exit id=>exact a _ _ _ g
  | ret=>exact a _ _ _ g
 | cond L I aN d e=>
  intro b7 b X Z a aJ
  simp only [den] at *
  split at aJ
  ·rename_i t J
   cases t with
   | true=>exact d a aJ
   | false=>exact e a aJ
  ·cases aJ
 | block id L c=>
  intro b7 b X Z a aJ
  refine c (fun J i A g=>?_) aJ
  cases J with
  | normal=>exact a _ _ _ g
  | ret=>exact a _ _ _ g
  | exit v=>
   simp only [aH.inBlock] at *
   cases aP:Nat.beq v id with
   | true=>rw [aP] at g;exact a _ _ _ g
   | false=>rw [aP] at g;exact a _ _ _ g
 | scope L c=>intro b7 b X Z a aJ;exact c a aJ
 | loop L c=>
  intro b7 b X Z a aJ
  obtain⟨n,aJ⟩:=aJ
  refine⟨n,?_⟩
  have D:∀ n X Z,iter (fun bN=>den P E L (aH.then bN b7)) n X Z→iter (fun bN=>den P E L (aH.then bN b)) n X Z:=by
   intro n
   induction n with
   | zero=>intro X Z g;exact g
   | succ n G=>
    intro X Z g
    refine c (fun J i A f=>?_) g
    cases J with
    | normal=>exact G _ _ f
    | exit id=>exact a _ _ _ f
    | ret=>exact a _ _ _ f
  exact D n X Z aJ
 | _=>intro b7 b X Z a aJ;exact aJ
theorem Fo(I aN:Fr→V→Prop)(b7:aH→Fr→V→Prop):aH.then I (aH.then aN b7)=aH.then I b7:=by
 funext J
 cases J <;> rfl
theorem fO{v:Value}{p:Addr→Prop}(Z:cJ v p):∃ o,v=.pointer (some o)∧p o:=by
 cases v with
 | pointer a=>cases a with
  | some o=>exact⟨o,rfl,Z⟩
  | none=>cases Z
 | _=>cases Z
variable {P:Program} {E:Env}
def aZ(E:Env)(cY:List ResultVar)(Y:Value→V→Prop):aH→Fr→V→Prop:=
 fun J X A=>match J with | .exit _=>False | _=>tA E X A cY fun bW=>Y (xF bW) A
def xS(X:Fr):List (Nat × Value)→Fr
 | []=>X
 | z :: l=>xS (lV X z.1 z.2) l
def z8(X:Fr):List (Nat × Value)→Prop
 | []=>True
 | z :: l=>X z.1=z.2∧z8 X l
theorem Ck:∀ {l:List (Nat × Value)} {X:Fr},z8 X l→xS X l=X
 | [],_,_=>rfl
 | z :: l,X,Z=>by
  have J:lV X z.1 z.2=X:=w3 Z.1
  show xS (lV X z.1 z.2) l=X
  rw [J];exact Ck Z.2
theorem bO{L:Code}{b7:aH→Fr→V→Prop}{X:Fr}{Z:V}(l:List (Nat × Value))(a:z8 X l){t:Prop}(b:den P E L b7 (xS X l) Z=t)(g:t):den P E L b7 X Z:=by
 rw [← b,Ck a] at g;exact g
def first:Nat→Code→Code
 | 1,.seq a _=>a
 | n+2,.seq a N=>.seq a (first (n+1) N)
 | _,L=>L
def rest:Nat→Code→Code
 | 1,.seq _ N=>N
 | n+2,.seq _ N=>rest (n+1) N
 | _,_=>.skip
theorem Cl{bN:Fr→V→Prop}{b7:aH→Fr→V→Prop}:∀ {n:Nat} {L:Code} (_:∀ X Z,bN X Z→den P E (rest n L) b7 X Z) {X:Fr} {Z:V},den P E (first n L) (aH.then bN b7) X Z→den P E L b7 X Z:=by
 have c:∀ (L:Code),(∀ X Z,bN X Z→den P E .skip b7 X Z)→∀ {X:Fr} {Z:V},den P E L (aH.then bN b7) X Z→den P E L b7 X Z:=by
  intro L b X Z g
  refine xR (fun J X Z g=>?_) g
  cases J with
  | normal=>exact b _ _ g
  | exit Q=>exact g
  | ret=>exact g
 have one:∀ (a N:Code),(∀ X Z,bN X Z→den P E N b7 X Z)→∀ {X:Fr} {Z:V},den P E a (aH.then bN b7) X Z→den P E (.seq a N) b7 X Z:=by
  intro a N b X Z g
  show den P E a (aH.then (den P E N b7) b7) X Z
  refine xR (fun J X Z g=>?_) g
  cases J with
  | normal=>exact b _ _ g
  | exit Q=>exact g
  | ret=>exact g
 intro n
 induction n with
 | zero=>
  intro L b X Z g
  have e:first 0 L=L:=by cases L <;> rfl
  have f:rest 0 L=.skip:=by cases L <;> rfl
  rw [e] at g;rw [f] at b;exact c L b g
 | succ n h=>
  intro L b X Z g
  cases L with
  | seq a N=>
   cases n with
   | zero=>exact one a N b g
   | succ m=>
    have d:den P E a (aH.then (den P E (first (m+1) N) (aH.then bN b7)) (aH.then bN b7)) X Z:=g
    rw [Fo] at d <;> skip
    all_goals show den P E a (aH.then (den P E N b7) b7) X Z
    all_goals refine xR (fun J X Z g=>?_) d
    all_goals cases J with
     | normal=>exact h b g
     | exit Q=>exact g
     | ret=>exact g
  | _=>exact c _ (by cases n <;> exact b) (by cases n <;> exact g)
theorem cT(n:Nat){L s:Code}{bN:Fr→V→Prop}{b7:aH→Fr→V→Prop}(a:rest n L=s)(b:∀ X Z,bN X Z→den P E s b7 X Z){X:Fr}{Z:V}(g:den P E (first n L) (aH.then bN b7) X Z):den P E L b7 X Z:=by
 subst a;exact Cl b g
theorem e5{L a s:Code}{bN:Fr→V→Prop}{b7:aH→Fr→V→Prop}(b:L=.seq a s)(c:∀ X Z,bN X Z→den P E s b7 X Z){X:Fr}{Z:V}(g:den P E a (aH.then bN b7) X Z):den P E L b7 X Z:=by
 subst b;exact Cl (n:=1) c g
theorem eR{L a:Code}{Q:Nat}{b7:aH→Fr→V→Prop}(b:L=.block Q a){X:Fr}{Z:V}(g:den P E a (aH.inBlock Q b7) X Z):den P E L b7 X Z:=by
 subst b;exact g
theorem Fp{L a:Code}{b7:aH→Fr→V→Prop}(b:L=.scope a){X:Fr}{Z:V}(g:den P E a b7 X Z):den P E L b7 X Z:=by
 subst b;exact g
theorem e1{L N:Code}{b7:aH→Fr→V→Prop}(dF:Nat→Fr→V→Prop)(a:L=.loop N)(aB:∀ X Z,dF 0 X Z→False)(aY:∀ n X Z,dF (n+1) X Z→den P E N (aH.then (dF n) b7) X Z)(n:Nat)(X:Fr)(Z:V)(g:dF n X Z):den P E L b7 X Z:=by
 subst a
 refine⟨n,?_⟩
 induction n generalizing X Z with
 | zero=>exact(aB X Z g).elim
 | succ n b=>
  show den P E N (aH.then (iter (fun bN=>den P E N (aH.then bN b7)) n) b7) X Z
  refine xR (fun J X Z g=>?_) (aY n X Z g)
  cases J with
  | normal=>exact b _ _ g
  | exit Q=>exact g
  | ret=>exact g
theorem bI{M:IntKind}{v:Value}{n:Int}{p:Int→Prop}(J:v=.int M n)(g:p n):aV M v p:=by
 subst J;cases M <;> exact g
theorem aO{v:Value}{n:Bool}{p:Bool→Prop}(J:v=.bool n)(g:p n):b9 v p:=by subst J;exact g
theorem iQ{v:Value}{n:Addr}{p:Addr→Prop}(J:v=.pointer (some n))(g:p n):cJ v p:=by subst J;exact g
theorem k{v:Value}{a:U}{l L:Nat}{p:U→Nat→Nat→Prop}(J:v=.slice a l L)(g:p a l L):aG v p:=by subst J;exact g
theorem bZ{v:Value}{l:List Value}{p:List Value→Prop}(J:v=.agg l.toArray)(g:p l):bU v p:=by subst J;exact g
theorem eH{v:Value}{p:List Value→Prop}(Z:bU v p):∃ l,v=.agg l.toArray∧p l:=by
 obtain⟨cQ,J,g⟩:=zT Z;exact⟨cQ.toList,by rw [J],g⟩
theorem dP{v:Value}{l:List Value}{p:List Value→Prop}(J:v=.tuple l.toArray)(g:p l):c0 v p:=by subst J;exact g
theorem aM{v:Value}{bW:List Value}{p:Value→List Value→Prop}(g:p v bW):bR (v :: bW) p:=g
theorem bP{p:Prop}(g:p):bC [] p:=g
theorem c7(c2:iH P E){a9:FuncId}{fn:Func}{L:Code}{cY:List ResultVar}(dJ:P.funcs[a9]?=some fn)(aP:fn.body=some L)(a:n7 E fn.ntmps L=true)(b:fn.results.toList=cY)
  {args:List Value} (c:Nat.ble args.length fn.ntmps=true) {Z:V} {Y:Value→V→Prop}
  (aJ:den P E L (aZ E cY Y) (xE args) Z):o2 P a9 args.toArray Z Y:=
 E4 c2 dJ aP a b (Nat.le_of_ble_eq_true c) aJ
end Go.Gv
namespace Go.Gv
abbrev W:Bool:=true
abbrev x:Bool:=false
abbrev bB(Z:V)(o:Addr)(p:Bool→Prop):Prop:=e7 Z o fun v=>b9 v p
abbrev a6(Z:V)(o:Addr)(p:U→Nat→Nat→Prop):Prop:=e7 Z o fun v=>aG v p
abbrev cI(Z:V)(M:IntKind)(o:Addr)(p:Int→Prop):Prop:=e7 Z o fun v=>aV M v p
abbrev cF(l:List Value)(p:Bool→List Value→Prop):Prop:=bR l fun v aN=>b9 v fun N=>p N aN
abbrev b6(l:List Value)(p:U→Nat→Nat→List Value→Prop):Prop:=bR l fun v aN=>aG v fun a l L=>p a l L aN
abbrev dG(l:List Value)(M:IntKind)(p:Int→List Value→Prop):Prop:=bR l fun v aN=>aV M v fun I=>p I aN
theorem a8{v:Value}{p:U→Nat→Nat→Prop}{P:Prop}(g:aG v p)(a9:∀ a l L,v=.slice a l L→p a l L→P):P:=by
 obtain⟨a,l,L,J,g⟩:=bQ g
 exact a9 a l L J g
theorem bM{M:IntKind}{v:Value}{p:Int→Prop}{P:Prop}(g:aV M v p)(a9:∀ I,v=.int M I→p I→P):P:=by
 obtain⟨I,J,g⟩:=bS g
 exact a9 I J g
theorem p6{v:Value}{p:Bool→Prop}{P:Prop}(g:b9 v p)(a9:∀ I,v=.bool I→p I→P):P:=by
 obtain⟨I,J,g⟩:=dY g
 exact a9 I J g
theorem cX{v:Value}{p:Addr→Prop}{P:Prop}(g:cJ v p)(a9:∀ I,v=.pointer (some I)→p I→P):P:=by
 obtain⟨I,J,g⟩:=fO g
 exact a9 I J g
end Go.Gv
