import Derived.Orders
import Derived.Still
import Derived.Below
import Derived.KernelRfl
import Derived.Tactics
import Derived.Laws.Externs
import Derived.Laws.Append
import Derived.Laws.Slices
import Derived.Laws.Entries
import Derived.WalkSpells
import Derived.LoopN
import Derived.Scope
import Derived.Laws.Cells
set_option linter.unusedVariables false
namespace Go.Gv
abbrev M:=Option Addr
abbrev Fr:=Nat→Value
abbrev U:=Array Obj
def kC(X:Fr)(aV:Nat)(v:Value):Fr:=fun t=>bif Nat.beq t aV then v else X t
def kZ(X:Fr):Option Nat→Value→Fr
 | some aV,v=>kC X aV v
 | none,_=>X
def cW(X:Fr):Operand→Value
 | .tmp t=>X t
 | .const v=>v
 | .global g=>.pointer (some ⟨g,0,none⟩)
 | .func f=>.func (.func f) #[] #[]
def wN(X:Fr):Operand→Bool→Fr
 | .tmp t,L=>kC X t (.bool L)
 | _,_=>X
theorem wO{X:Fr}{aV:Nat}{v:Value}(Z:X aV=v):kC X aV v=X:=by
 funext t
 unfold kC
 cases R:Nat.beq t aV with
 | false=>rfl
 | true=>obtain rfl:=Nat.eq_of_beq_eq_true R;exact Z.symm
theorem yT{X:Fr}{c:Operand}{L:Bool}(Z:cW X c=.bool L):wN X c L=X:=by
 cases c with
 | tmp t=>exact wO Z
 | _=>rfl
def gP(Z:U)(a:Addr):Option Value:=
 match Z[a.block]? with
 | some (.cells c _ _)=>if a.spot.isSome then none else c[a.off]?
 | _=>none
def mB(Z:U)(a:Addr):Bool:=
 match Z[a.block]? with
 | some (.cells _ _ (bY,a4))=>bY≤a.off && a.off < a4
 | _=>false
def gQ(Z:U)(a:Addr)(v:Value):U:=Z.modify a.block fun
   | .cells c elem frozen=>.cells (if a.spot.isSome then c else c.setIfInBounds a.off v) elem frozen
   | aN=>aN
theorem C0(aB:World)(a:Addr):aB.cell? a=gP aB.heap a:=rfl
def j0(Z:U)(p:Addr):Nat→List Value→U
 | _,[]=>Z
 | O,v :: bV=>j0 (gQ Z (p.add O) v) p (O+1) bV
def j1(Z:U)(p:Addr):Nat→List Value→Prop
 | _,[]=>True
 | O,v :: bV=>gP Z (p.add O)=some v∧j1 Z p (O+1) bV
def pA(Z:U)(p:Addr):Nat→Nat→Prop
 | _,0=>True
 | O,n+1=>((∃ v,gP Z (p.add O)=some v)∧mB Z (p.add O)=false)∧pA Z p (O+1) n
structure eR(aB cI:World):Prop where
 os:cI.os=aB.os
 tape:cI.tape=aB.tape
 output:cI.output=aB.output
theorem eR.refl(aB:World):eR aB aB:=⟨rfl,rfl,rfl⟩
theorem eR.trans{a L c:World}(Z:eR a L)(S:eR L c):eR a c:=⟨S.os.trans Z.os,S.tape.trans Z.tape,S.output.trans Z.output⟩
def mZ(P:Program)(f:FuncId)(args:Array Value)(Z:U)(Y:Value→U→Prop):Prop:=
 ∀ aB:World,aB.heap=Z→Calls P f args aB fun R cI=>∃ v,R=.returned v∧eR aB cI∧Y v cI.heap
theorem mZ.mono{P:Program}{f:FuncId}{args:Array Value}{Z:U}{Y gZ:Value→U→Prop}(a:mZ P f args Z Y)(b:∀ v K,Y v K→gZ v K):mZ P f args Z gZ:=
 fun aB c=>(a aB c).mono fun _ _ ⟨v,R,aH,r⟩=>⟨v,R,aH,b _ _ r⟩
inductive hS where
 | int (S:IntKind) | bool | str | slice | ptr
inductive p9 where
 | int (S:IntKind) | bool | str | slice (R:TypeId) | ptr (R:TypeId) | struct (eL:List (Nat × TypeId)) | tuple (jD:List TypeId)
structure dQ where
 ty:p9
 leaves:List hS
 bytes:Nat
inductive rB where
 | body | quiet | qA | qB
def AR:Array Value→Sem Value:=fun args=>do
 let (N,aP,L) ← Extern.MathBitsCarry.three "Sub64" args
 pure (Extern.MathBitsCarry.pair ((N+Extern.MathBitsCarry.m64 - aP - L) % Extern.MathBitsCarry.m64) (if N < aP+L then 1 else 0))
structure Env where
 types:List (Nat × dQ)
 fns:List (Nat × rB)
 AS:List (Nat × (Nat × TypeId)):=[]
def look{cX:Type}:List (Nat × cX)→Nat→Option cX
 | [],_=>none
 | (S,N) :: l,n=>bif Nat.beq S n then some N else look l n
theorem yU{cX:Type}{l:List (Nat × cX)}{n:Nat}{N:cX}(Z:look l n=some N):(n,N) ∈ l:=by
 induction l with
 | nil=>simp [look] at Z
 | cons p l bU=>
  obtain⟨S,aP⟩:=p
  unfold look at Z
  cases R:Nat.beq S n with
  | false=>rw [R] at Z;exact List.mem_cons_of_mem _ (bU Z)
  | true=>
   obtain rfl:=Nat.eq_of_beq_eq_true R
   rw [R] at Z
   cases Z
   exact List.mem_cons_self
def qC:IntKind→IntKind→Bool
 | .i8,.i8 | .i16,.i16 | .i32,.i32 | .i64,.i64 | .u8,.u8 | .u16,.u16 | .u32,.u32 | .u64,.u64=>true
 | _,_=>false
theorem yV{aC S:IntKind}(Z:qC aC S=true):aC=S:=by cases aC <;> cases S <;> first | rfl | cases Z
def hS.zero:hS→Value
 | .int S=>.int S 0
 | .bool=>.bool false
 | .str=>.string ByteArray.empty
 | .slice=>.slice none 0 0
 | .ptr=>.pointer none
def AT:hS→Value→Bool
 | .int S,.int cS n=>qC S cS && n == 0
 | .bool,.bool L=>!L
 | .str,.string aH=>aH.size == 0
 | .slice,.slice none 0 0=>true
 | .ptr,.pointer none=>true
 | _,_=>false
theorem Hy{S:hS}{v:Value}(Z:AT S v=true):v=S.zero:=by
 cases S <;> cases v <;> simp only [AT,Bool.and_eq_true,Bool.false_eq_true] at Z
 ·obtain⟨aZ,a⟩:=Z
  rw [← yV aZ]
  simp at a
  simp [hS.zero,a]
 ·simp at Z;simp [hS.zero,Z]
 ·rename_i aH
  have:aH=ByteArray.empty:=by
   apply ByteArray.ext
   have K:aH.size=0:=by simpa using Z
   exact Array.eq_empty_of_size_eq_zero K
  rw [this];rfl
 ·split at Z <;> simp_all [hS.zero]
 ·split at Z <;> simp_all [hS.zero]
def uP:List hS→List Value→Bool
 | [],[]=>true
 | S :: a,v :: bV=>AT S v && uP a bV
 | _,_=>false
theorem C1:∀ {a:List hS} {bV:List Value},uP a bV=true→bV=a.map hS.zero
 | [],[],_=>rfl
 | S :: a,v :: bV,Z=>by
  simp only [uP,Bool.and_eq_true] at Z
  rw [Hy Z.1,C1 Z.2];rfl
 | [],_ :: _,Z=>by simp [uP] at Z
 | _ :: _,[],Z=>by simp [uP] at Z
def pB:Option TypeDesc→p9→Bool
 | some (.int S),.int cS=>qC S cS
 | some .bool,.bool=>true
 | some .string,.str=>true
 | some (.slice R),.slice a=>Nat.beq R a
 | some (.pointer R),.ptr a=>Nat.beq R a
 | some (.struct eL),.struct a=>decide (eL.toList.map (fun f=>(f.offset,f.type))=a)
 | some (.tuple jD),.tuple b=>decide (jD.toList=b)
 | some (.array _ _),.struct a=>a.isEmpty
 | _,_=>false
def kS(P:Program)(t:TypeId)(O:dQ):Bool:=
 pB (P.underlying t) O.ty && match P.info? t with
  | some inf=>Nat.beq inf.size O.leaves.length && Nat.beq inf.bytes O.bytes && match O.ty with
   | .tuple _=>true
   | _=>match inf.zero with
    | some bI=>uP O.leaves bI.cells.toList
    | none=>false
  | none=>false
def AU(P:Program)(f:FuncId)(S:rB):Bool:=
 match P.funcs[f]? with
 | some fn=>match S with
  | .body | .quiet=>fn.body.isSome && !(fn.name == "runtime.NumGoroutine")
  | .qA | .qB=>fn.body.isNone && !(fn.name == "runtime.NumGoroutine")
 | none=>false
def C2(P:Program)(t:TypeId)(p:Nat × TypeId):Bool:=
 match P.underlying t with
 | some (.array n R)=>Nat.beq n p.1 && Nat.beq R p.2
 | _=>false
def C3(P:Program)(E:Env):Bool:=((E.types.all fun (t,O)=>kS P t O) && (E.fns.all fun (f,S)=>AU P f S)) && E.AS.all fun (t,p)=>C2 P t p
def eS(v:Value)(aF:Bool→Prop):Prop:=match v with | .bool L=>aF L | _=>False
def aW(S:IntKind)(v:Value)(aF:Int→Prop):Prop:=match v with | .int cS n=>(bif qC S cS then aF n else False) | _=>False
def yW(v:Value)(aF:ByteArray→Prop):Prop:=match v with | .string aH=>aF aH | _=>False
def aQ(v:Value)(aF:M→Nat→Nat→Prop):Prop:=match v with | .slice a l c=>aF a l c | _=>False
def gH(v:Value)(aF:Addr→Prop):Prop:=match v with | .pointer (some aE)=>aF aE | _=>False
def yX(v:Value)(aF:M→Prop):Prop:=match v with | .pointer a=>aF a | _=>False
def sO:hS→Value→(Value→Prop)→Prop
 | .int S,v,aF=>aW S v fun n=>aF (.int S n)
 | .bool,v,aF=>eS v fun L=>aF (.bool L)
 | .str,v,aF=>yW v fun aH=>aF (.string aH)
 | .slice,v,aF=>aQ v fun a l c=>aF (.slice a l c)
 | .ptr,v,aF=>yX v fun a=>aF (.pointer a)
def cQ(l:List Value)(aF:Value→List Value→Prop):Prop:=match l with | v :: bV=>aF v bV | []=>False
def b5(l:List Value)(aF:Prop):Prop:=match l with | []=>aF | _=>False
def wP:List hS→List Value→(List Value→Prop)→Prop
 | [],l,aF=>b5 l (aF [])
 | S :: a,l,aF=>cQ l fun v bV=>sO S v fun b=>wP a bV fun a=>aF (b :: a)
def eG(v:Value)(aF:List Value→Prop):Prop:=match v with | .agg c2=>aF c2.toList | _=>False
def cT(v:Value)(aF:List Value→Prop):Prop:=match v with | .tuple c2=>aF c2.toList | _=>False
def sP(O:dQ)(v:Value)(aF:Value→Prop):Prop:=
 match O.ty with
 | .struct _=>eG v fun l=>wP O.leaves l fun bV=>aF (.agg bV.toArray)
 | _=>match O.leaves with
  | [S]=>sO S v aF
  | _=>False
def uQ(E:Env):List TypeId→List Value→(List Value→Prop)→Prop
 | [],l,aF=>b5 l (aF [])
 | t :: jD,l,aF=>cQ l fun v bV=>match look E.types t with
  | some O=>sP O v fun a=>uQ E jD bV fun b=>aF (a :: b)
  | none=>False
def rC(E:Env)(t:TypeId)(v:Value)(aF:Value→Prop):Prop:=
 match look E.types t with
 | some O=>match O.ty with
  | .tuple jD=>cT v fun l=>uQ E jD l fun bV=>aF (.tuple bV.toArray)
  | _=>sP O v aF
 | none=>aF v
def h4(S:IntKind)(N aP:Int):Int:=S.wrap (N*2 ^ (min aP.toNat S.bits))
def g6(S:IntKind)(N aP:Int):Int:=N.fdiv (2 ^ (min aP.toNat S.bits))
def jE(S:IntKind)(N aP:Int):Int:=S.wrap (BitVec.ofInt S.bits N &&& BitVec.ofInt S.bits aP).toNat
def uR(S:IntKind)(N aP:Int):Int:=S.wrap (BitVec.ofInt S.bits N ||| BitVec.ofInt S.bits aP).toNat
def C4(S:IntKind)(N aP:Int):Int:=S.wrap (BitVec.ofInt S.bits N ^^^ BitVec.ofInt S.bits aP).toNat
def Hz(S:IntKind)(N aP:Int):Int:=S.wrap (BitVec.ofInt S.bits N &&& ~~~(BitVec.ofInt S.bits aP)).toNat
structure a5(n:Int)(aF:Int→Prop):Prop where
 out:aF n
def yY(op:BinOp)(S:IntKind)(a L:Int)(aF:Value→Prop):Prop:=
 match op with
 | .add=>a5 (S.wrap (a+L)) fun n=>aF (.int S n)
 | .sub=>a5 (S.wrap (a - L)) fun n=>aF (.int S n)
 | .mul=>a5 (S.wrap (a*L)) fun n=>aF (.int S n)
 | .quo=>L ≠ 0∧a5 (S.wrap (a.tdiv L)) fun n=>aF (.int S n)
 | .rem=>L ≠ 0∧a5 (a.tmod L) fun n=>aF (.int S n)
 | .and=>a5 (jE S a L) fun n=>aF (.int S n)
 | .or=>a5 (uR S a L) fun n=>aF (.int S n)
 | .xor=>a5 (C4 S a L) fun n=>aF (.int S n)
 | .andNot=>a5 (Hz S a L) fun n=>aF (.int S n)
 | .eql=>aF (.bool (a == L))
 | .neq=>aF (.bool (a != L))
 | .lss=>aF (.bool (decide (a < L)))
 | .leq=>aF (.bool (decide (a≤L)))
 | .gtr=>aF (.bool (decide (a > L)))
 | .geq=>aF (.bool (decide (a≥L)))
 | _=>False
def uS(E:Env)(op:BinOp)(t:TypeId)(N aP:Value)(aF:Value→Prop):Prop:=
 match N,aP with
 | .int S a,.int cS L=>
  match op with
  | .shl=>0≤L∧a5 (h4 S a L) fun n=>aF (.int S n)
  | .shr=>0≤L∧a5 (g6 S a L) fun n=>aF (.int S n)
  | op=>bif qC S cS then yY op S a L aF else False
 | .string a,.string L=>
  match op with
  | .add=>(((a.size+L.size:Nat):Int)≤9223372036854775807)∧aF (.string (a ++ L))
  | .eql=>aF (.bool (a.toList == L.toList))
  | .neq=>aF (.bool (!(a.toList == L.toList)))
  | _=>False
 | .bool a,.bool L=>
  match look E.types t with
  | some ⟨.bool,_,_⟩=>(match op with
   | .eql=>aF (.bool (a == L))
   | .neq=>aF (.bool (!(a == L)))
   | _=>False)
  | _=>False
 | .slice a _ _,.slice none _ _=>
  match look E.types t with
  | some ⟨.slice _,_,_⟩=>(match op with
   | .eql=>aF (.bool a.isNone)
   | .neq=>aF (.bool (!a.isNone))
   | _=>False)
  | _=>False
 | _,_=>False
def HA(S:IntKind)(n:Int):Int:=C4 S (bif S.signed then -1 else S.max) n
def uT(op:UnOp)(N:Value)(aF:Value→Prop):Prop:=
 match op,N with
 | .neg,.int S n=>a5 (S.wrap (0 - n)) fun n=>aF (.int S n)
 | .xor,.int S n=>a5 (HA S n) fun n=>aF (.int S n)
 | .not,.bool L=>aF (.bool (!L))
 | _,_=>False
def c7(a:M)(l:Nat)(O:Int)(fI:Nat)(aF:Addr→Prop):Prop:=
 (0≤O∧O < (l:Int))∧match a with
  | some p=>aF (p.add (O.toNat*fI))
  | none=>False
def wQ(aH:ByteArray)(O:Int)(aF:Int→Prop):Prop:=
 0≤O∧match aH[O.toNat]? with
  | some L=>aF L.toNat
  | none=>False
def fG(Z:U)(aE:Addr)(aF:Value→Prop):Prop:=match gP Z aE with | some v=>aF v | none=>False
def uU(Z:U)(aE:Addr):Nat→List hS→(List Value→Prop)→Prop
 | _,[],aF=>aF []
 | O,S :: a,aF=>fG Z (aE.add O) fun v=>sO S v fun b=>uU Z aE (O+1) a fun bV=>aF (b :: bV)
def uV(O:dQ)(Z:U)(aE:Addr)(aF:Value→Prop):Prop:=
 match O.ty with
 | .struct _=>uU Z aE 0 O.leaves fun bV=>aF (.agg bV.toArray)
 | .tuple _=>False
 | _=>match O.leaves with
  | [S]=>fG Z aE fun v=>sO S v aF
  | _=>False
def pC(v:Option Value)(a aP:Nat)(aF:Nat→Prop):Prop:=
 match v with
 | none=>aF a
 | some (.int _ O)=>(0≤O∧O≤(aP:Int))∧aF O.toNat
 | _=>False
def iY(a:M)(m l fI:Nat):M:=if m=l then a else a.map (·.add (l*fI))
def iD(fI:Nat)(a:M)(len cap:Nat)(bY a4 b:Option Value)(aF:M→Nat→Nat→Prop):Prop:=
 match a4,b with
 | none,some _=>False
 | _,_=>pC b cap cap fun m=>pC a4 len m fun Z=>pC bY 0 Z fun l=>aF (iY a m l fI) (Z - l) (m - l)
def wR(aH:ByteArray)(bY a4:Option Value)(aF:ByteArray→Prop):Prop:=
 pC a4 aH.size aH.size fun Z=>pC bY 0 Z fun l=>aF (aH.extract l Z)
def AV(cells:List Value)(off:Nat)(bV:List Value):List Value:=cells.take off ++ (bV ++ cells.drop (off+bV.length))
def uW(place:Nat→Option (Nat × Nat))(cells:List Value):List (Nat × Value)→Option (List Value)
 | []=>some cells
 | (O,v) :: rest=>
  match place O with
  | none=>none
  | some (off,size)=>bif Nat.beq v.cells.toList.length size && Nat.ble (off+v.cells.toList.length) cells.length then uW place (AV cells off v.cells.toList) rest else none
def AW(E:Env)(eL:List (Nat × TypeId))(f:Nat):Option (Nat × Nat):=
 match eL[f]? with
 | some (off,t)=>match look E.types t with
  | some O=>some (off,O.leaves.length)
  | none=>none
 | none=>none
def sQ(E:Env):List (Nat × TypeId)→Bool
 | []=>true
 | (_,t) :: l=>match look E.types t with
  | some _=>sQ E l
  | none=>false
def m0:Value→List Value→(Value→Prop)→Prop
 | N,[],aF=>aF N
 | .int S N,.int _ aP :: rest,aF=>m0 (.int S (if aP > N then aP else N)) rest aF
 | _,_,_=>False
def m1:Value→List Value→(Value→Prop)→Prop
 | N,[],aF=>aF N
 | .int S N,.int _ aP :: rest,aF=>m1 (.int S (if aP < N then aP else N)) rest aF
 | _,_,_=>False
def wS(E:Env)(t:TypeId)(v:Value)(aF:Value→Prop):Prop:=
 match look E.types t,v with
 | some ⟨.slice _,_,_⟩,.slice _ n _=>aF (.int .i64 (n:Int))
 | some ⟨.str,_,_⟩,.string aH=>aF (.int .i64 (aH.size:Int))
 | _,_=>False
def nS(N aP bI:Int)(aF:Int→Int→Prop):Prop:=(0≤N∧0≤aP∧0≤bI∧bI≤1)∧aF ((N+aP+bI) % 18446744073709551616) ((N+aP+bI) / 18446744073709551616)
def rD(N aP bI:Int)(aF:Int→Int→Prop):Prop:=(0≤N∧0≤aP∧0≤bI∧bI≤1∧aP < 18446744073709551616)∧aF ((N - aP - bI) % 18446744073709551616) (if N < aP+bI then 1 else 0)
def uX(E:Env)(c:Call)(X:Fr)(aF:Value→Prop):Prop:=
 match c.callee with
 | .builtin .len=>(match c.args.toList,c.argTypes.toList with
  | N :: _,t :: _=>wS E t (cW X N) aF
  | _,_=>False)
 | .builtin .max=>(match c.args.toList.map (cW X) with
  | N :: rest=>m0 N rest aF
  | []=>False)
 | .builtin .min=>(match c.args.toList.map (cW X) with
  | N :: rest=>m1 N rest aF
  | []=>False)
 | .value (.func f)=>(match look E.fns f with
  | some .qA=>(match c.args.toList.map (cW X) with
   | [.int .u64 N,.int .u64 aP,.int .u64 bI]=>nS N aP bI fun aH c=>aF (.tuple #[.int .u64 aH,.int .u64 c])
   | _=>False)
  | some .qB=>(match c.args.toList.map (cW X) with
   | [.int .u64 N,.int .u64 aP,.int .u64 bI]=>rD N aP bI fun aH c=>aF (.tuple #[.int .u64 aH,.int .u64 c])
   | _=>False)
  | _=>False)
 | _=>False
def h5(E:Env)(op:Op)(X:Fr)(Z:U)(aF:Value→Prop):Prop:=
 match op with
 | .move N=>aF (cW X N)
 | .assign N=>aF (cW X N)
 | .pick c a L=>(match cW X c with
  | .bool t=>cond t (aF (cW X a)) (aF (cW X L))
  | _=>False)
 | .load t a=>(match cW X a,look E.types t with
  | .pointer (some aE),some O=>uV O Z aE aF
  | _,_=>False)
 | .binOp op t N aP _=>uS E op t (cW X N) (cW X aP) aF
 | .unOp op _ N=>uT op (cW X N) aF
 | .convert aH aV N=>(match look E.types aH,look E.types aV,cW X N with
  | some ⟨.int _,_,_⟩,some ⟨.int S,_,_⟩,.int _ n=>a5 (S.wrap n) fun n=>aF (.int S n)
  | _,_,_=>False)
 | .indexAddr t N O=>(match look E.types t,cW X N,cW X O with
  | some ⟨.slice R,_,_⟩,.slice a l _,.int _ n=>(match look E.types R with
   | some b=>c7 a l n b.leaves.length fun aE=>aF (.pointer (some aE))
   | none=>False)
  | _,.pointer (some aE),.int _ n=>(match look E.AS t with
   | some (m,R)=>(match look E.types R with
    | some b=>c7 (some aE) m n b.leaves.length fun aE=>aF (.pointer (some aE))
    | none=>False)
   | none=>False)
  | _,_,_=>False)
 | .index t N O=>(match look E.types t,cW X N,cW X O with
  | some ⟨.str,_,_⟩,.string aH,.int _ n=>wQ aH n fun L=>aF (.int .u8 L)
  | _,_,_=>False)
 | .extract N O=>(match cW X N with
  | .tuple bV=>(match bV.toList[O]? with
   | some v=>aF v
   | none=>False)
  | _=>False)
 | .fieldAddr aH N f=>(match cW X N,look E.types aH with
  | .pointer (some aE),some ⟨.struct eL,_,_⟩=>(match eL[f]? with
   | some (off,t)=>(match look E.types t with
    | some O=>bif Nat.beq O.leaves.length 0 then False else aF (.pointer (some (aE.add off)))
    | none=>False)
   | none=>False)
  | _,_=>False)
 | .field t N f=>(match cW X N,look E.types t with
  | .agg c2,some ⟨.struct eL,_,_⟩=>(match eL[f]? with
   | some (off,d)=>(match look E.types d with
    | some ⟨.struct _,fW,_⟩=>aF (.agg ((c2.toList.drop off).take fW.length).toArray)
    | some ⟨.tuple _,_,_⟩=>False
    | some _=>(match c2.toList[off]? with
     | some v=>aF v
     | none=>False)
    | none=>False)
   | none=>False)
  | _,_=>False)
 | .build t parts=>(match look E.types t with
  | some ⟨.struct eL,fW,_⟩=>bif !eL.isEmpty && sQ E eL then(match uW (AW E eL) (fW.map hS.zero) (parts.toList.map fun (O,N)=>(O,cW X N)) with
   | some cells=>aF (.agg cells.toArray)
   | none=>False) else False
  | _=>False)
 | .nilCheck N=>(match cW X N with
  | .pointer (some aE)=>aF (.pointer (some aE))
  | _=>False)
 | .slice t N bY a4 d=>(match look E.types t,cW X N with
  | some ⟨.slice R,_,_⟩,.slice a l c=>(match look E.types R with
   | some b=>iD b.leaves.length a l c (bY.map (cW X)) (a4.map (cW X)) (d.map (cW X)) fun a l c=>aF (.slice a l c)
   | none=>False)
  | some ⟨.str,_,_⟩,.string aH=>(match d with
   | none=>wR aH (bY.map (cW X)) (a4.map (cW X)) fun aH=>aF (.string aH)
   | some _=>False)
  | _,_=>False)
 | .call c=>uX E c X aF
 | _=>False
def h6(a6:List Value):Nat→List Value
 | 0=>[]
 | n+1=>a6 ++ h6 a6 n
def dQ.a6(O:dQ):List Value:=O.leaves.map hS.zero
def dN(Z:U)(R:TypeId)(cells:List Value)(aF:Addr→U→Prop):Prop:=aF ⟨Z.size,0,none⟩ (Z.push (.cells cells.toArray R (0,0)))
def iI(Z:U)(R:TypeId)(O:dQ)(n m:Int)(aF:Addr→U→Prop):Prop:=
 (0≤n∧n≤m∧1≤O.bytes∧(O.bytes:Int)*m≤281474976710656)∧
  aF ⟨Z.size,0,none⟩ (Z.push (.cells (h6 O.a6 m.toNat).toArray R (0,0)))
def m2:Value→Bool
 | .agg _ | .tuple _=>false
 | _=>true
def cC(Z:U)(aE:Addr)(v:Value)(aF:U→Prop):Prop:=
 ((∃ aN,gP Z aE=some aN)∧mB Z aE=false)∧aF (gQ Z aE v)
def sR(Z:U)(aE:Addr):Nat→List Value→(U→Prop)→Prop
 | _,[],aF=>aF Z
 | O,v :: bV,aF=>bif m2 v then cC Z (aE.add O) v fun K=>sR K aE (O+1) bV aF else False
def uY(O:dQ)(Z:U)(aE:Addr)(v:Value)(aF:U→Prop):Prop:=
 match v with
 | .agg c2=>bif Nat.beq c2.toList.length O.leaves.length then sR Z aE 0 c2.toList aF else False
 | .tuple _=>False
 | v=>bif Nat.beq 1 O.leaves.length then cC Z aE v aF else False
def wT(Z:U)(fI:Nat)(N:Value)(n:Nat)(c2:List Value):Prop:=
 c2.length=n*fI∧(∀ v ∈ c2,m2 v=true)∧match N with
  | .slice (some L) _ _=>j1 Z L 0 c2
  | .slice none _ _=>c2=[]
  | .string aH=>c2=(aH.extract 0 n).data.toList.map fun L=>.int .u8 L.toNat
  | _=>False
def yZ:Value→Option Nat
 | .slice _ n _=>some n
 | .string aH=>some aH.size
 | _=>none
def hF(Z:U)(R:TypeId)(O:dQ)(a:M)(l c:Nat)(N:Value)(aF:M→Nat→Nat→U→Prop):Prop:=
 ∃ n c2,yZ N=some n∧wT Z O.leaves.length N n c2∧
  (l+n≤c→match a with
   | some p=>pA Z (p.add (l*O.leaves.length)) 0 c2.length∧aF a (l+n) c (j0 Z (p.add (l*O.leaves.length)) 0 c2)
   | none=>aF a (l+n) c Z)∧
  (¬ l+n≤c→Builtin.nextslicecap (l+n) c*O.bytes≤281474976710656∧1≤O.bytes∧l+n≤9223372036854775807∧
   ∃ b,wT Z O.leaves.length (.slice a l c) l b∧
    ∀ d,l+n≤d→aF (some ⟨Z.size,0,none⟩) (l+n) d (Z.push (.cells (b ++ (c2 ++ h6 O.a6 (d - (l+n)))).toArray R (0,0))))
def m3(Z:U)(fI:Nat)(a:M)(l:Nat)(N:Value)(aF:Int→U→Prop):Prop:=
 ∃ n c2,yZ N=some n∧wT Z fI N (Nat.min n l) c2∧match a with
  | some p=>pA Z p 0 c2.length∧aF (Nat.min n l:Int) (j0 Z p 0 c2)
  | none=>aF (Nat.min n l:Int) Z
def y0(Z:U)(O:dQ)(a:M)(l:Nat)(aF:U→Prop):Prop:=
 match a,l with
 | none,_=>aF Z
 | some _,0=>aF Z
 | some p,l+1=>pA Z p 0 ((l+1)*O.leaves.length)∧aF (j0 Z p 0 (h6 O.a6 (l+1)))
def uZ(E:Env)(t:TypeId):Bool:=
 match look E.types t with
 | some ⟨.slice _,_,_⟩=>true
 | some ⟨.str,_,_⟩=>true
 | _=>false
def HB(Z:U)(aH:ByteArray)(aF:Addr→U→Prop):Prop:=aF ⟨Z.size,0,none⟩ (Z.push (.stringIter aH 0))
def C5(Z:U)(L:Nat)(aH:ByteArray)(pos:Nat):U:=Z.setIfInBounds L (.stringIter aH pos)
def y1(Z:U)(aE:Addr)(a:Int→Int→U→Prop)(b:Prop):Prop:=
 aE.off=0∧∃ aH pos,Z[aE.block]?=some (.stringIter aH pos)∧(pos < aH.size→a (pos:Int) ((Utf8.decode aH pos).1:Int) (C5 Z aE.block aH (pos+(Utf8.decode aH pos).2)))∧(¬ pos < aH.size→b)
def y2(Z:U)(a:M)(l:Nat)(aF:ByteArray→Prop):Prop:=
 match a with
 | none=>aF ByteArray.empty
 | some p=>∃ b:List UInt8,b.length=l∧j1 Z p 0 (b.map fun L=>.int .u8 L.toNat)∧aF ⟨b.toArray⟩
def jF(P:Program)(E:Env)(op:Op)(t0:TypeId)(X:Fr)(Z:U)(aF:Value→U→Prop):Prop:=
 match op with
 | .range t N=>(match look E.types t,cW X N with
  | some ⟨.str,_,_⟩,.string aH=>HB Z aH fun p K=>aF (.pointer (some p)) K
  | _,_=>False)
 | .next b L=>cond L (match cW X b with
  | .pointer (some aE)=>y1 Z aE (fun O c K=>aF (.tuple #[.bool true,.int .i64 O,.int .i32 c]) K) (aF (.tuple #[.bool false]) Z)
  | _=>False) False
 | .convert aH aV N=>(match look E.types aH,look E.types aV,cW X N with
  | some ⟨.slice R,_,_⟩,some ⟨.str,_,_⟩,.slice a l _=>(match look E.types R with
   | some ⟨.int .u8,_,_⟩=>y2 Z a l fun t=>aF (.string t) Z
   | _=>False)
  | _,_,_=>False)
 | .store t N v=>(match cW X N,look E.types t with
  | .pointer (some aE),some O=>uY O Z aE (cW X v) (fun K=>aF undef K)
  | _,_=>False)
 | .box R v=>dN Z R (cW X v).cells.toList fun p K=>aF (.pointer (some p)) K
 | .alloc R=>(match look E.types R with
  | some ⟨.tuple _,_,_⟩=>False
  | some O=>dN Z R O.a6 fun p K=>aF (.pointer (some p)) K
  | none=>False)
 | .makeSlice t l c=>(match look E.types t,cW X l,cW X c with
  | some ⟨.slice R,_,_⟩,.int _ n,.int _ m=>(match look E.types R with
   | some ⟨.tuple _,_,_⟩=>False
   | some O=>iI Z R O n m fun p K=>aF (.slice (some p) n.toNat m.toNat) K
   | none=>False)
  | _,_,_=>False)
 | .buildSlice t n parts=>(match look E.types t with
  | some ⟨.slice R,_,_⟩=>(match look E.types R with
   | some ⟨.tuple _,_,_⟩=>False
   | some O=>bif Nat.ble (n*O.leaves.length) 16777216 then(match uW (fun aC=>some (aC*O.leaves.length,O.leaves.length)) (h6 O.a6 n) (parts.toList.map fun (aC,N)=>(aC,cW X N)) with
    | some cells=>dN Z R cells fun p K=>aF (.slice (some p) n n) K
    | none=>False) else False
   | none=>False)
  | _=>False)
 | .call c=>(match c.callee with
  | .builtin .append=>(match c.args.toList,c.argTypes.toList with
   | [aH,N],[t,d]=>bif uZ E d then(match look E.types t,cW X aH with
    | some ⟨.slice R,_,_⟩,.slice a l e=>(match look E.types R with
     | some ⟨.tuple _,_,_⟩=>False
     | some O=>hF Z R O a l e (cW X N) fun a l c K=>aF (.slice a l c) K
     | none=>False)
    | _,_=>False) else False
   | _,_=>False)
  | .builtin .copy=>(match c.args.toList,c.argTypes.toList with
   | [aV,N],t :: _=>(match look E.types t,cW X aV with
    | some ⟨.slice R,_,_⟩,.slice a l _=>(match look E.types R with
     | some ⟨.tuple _,_,_⟩=>False
     | some O=>m3 Z O.leaves.length a l (cW X N) fun n K=>aF (.int .i64 n) K
     | none=>False)
    | _,_=>False)
   | _,_=>False)
  | .builtin .clear=>(match c.args.toList,c.argTypes.toList with
   | [aV],[t]=>(match look E.types t,cW X aV with
    | some ⟨.slice R,_,_⟩,.slice a l _=>(match look E.types R with
     | some ⟨.tuple _,_,_⟩=>False
     | some O=>y0 Z O a l fun K=>aF (.tuple #[]) K
     | none=>False)
    | _,_=>False)
   | _,_=>False)
  | .value (.func f)=>(match look E.fns f with
   | some .body=>mZ P f (c.args.toList.map (cW X)).toArray Z fun v K=>rC E t0 v fun g=>aF g K
   | _=>False)
  | _=>False)
 | _=>False
def C6(P:Program)(f:FuncId)(args:Array Value)(Z:U)(aF:Value→Prop):Prop:=∃ v,mZ P f args Z (fun a K=>a=v∧K=Z)∧aF v
def sS(P:Program)(E:Env)(op:Op)(t0:TypeId)(X:Fr)(Z:U)(aF:Value→Prop):Prop:=
 match op with
 | .call c=>(match c.callee with
  | .value (.func f)=>C6 P f (c.args.toList.map (cW X)).toArray Z fun v=>rC E t0 v aF
  | _=>False)
 | _=>False
inductive AX where
 | pure | load | quiet | call | act
def gI(E:Env):Op→AX
 | .load ..=>.load
 | .move _ | .assign _ | .pick .. | .binOp .. | .unOp .. | .indexAddr .. | .index .. | .extract .. | .fieldAddr .. | .field .. | .build .. | .nilCheck _ | .slice ..=>.pure
 | .convert aH _ _=>(match look E.types aH with
  | some ⟨.slice _,_,_⟩=>.act
  | _=>.pure)
 | .call c=>(match c.callee with
  | .builtin .len | .builtin .max | .builtin .min=>.pure
  | .value (.func f)=>(match look E.fns f with
   | some .qA | some .qB=>.pure
   | some .quiet=>.quiet
   | _=>.call)
  | _=>.act)
 | .alloc _ | .box .. | .makeSlice .. | .buildSlice ..=>.call
 | _=>.act
def eT(c0:Nat)(Z K:U):Prop:=∀ L,L < c0→K[L]?=Z[L]?
def HC(c0:Nat)(N:Value):Prop:=match N with | .pointer (some aE)=>aE.block < c0 | _=>False
def m4(P:Program)(E:Env)(md:Bool)(c0:Nat)(aN:Oper)(X:Fr)(Z:U)(aF:Value→U→Prop):Prop:=
 match gI E aN.op with
 | .pure=>h5 E aN.op X Z (fun v=>aF v Z)
 | .load=>cond md (match aN.op with
  | .load _ a=>HC c0 (cW X a)∧h5 E aN.op X Z (fun v=>aF v Z)
  | _=>False) (h5 E aN.op X Z (fun v=>aF v Z))
 | .quiet=>sS P E aN.op aN.type X Z (fun v=>aF v Z)
 | .call=>cond md (jF P E aN.op aN.type X Z fun v K=>eT c0 Z K∧aF v K) (jF P E aN.op aN.type X Z aF)
 | .act=>jF P E aN.op aN.type X Z aF
def wU(all:List Oper)(aC:Nat):Option Nat:=match all[aC]? with | some aN=>aN.dst | none=>none
def jG(P:Program)(E:Env)(md:Bool)(c0:Nat)(all:List Oper):List Oper→Fr→U→(Fr→U→Prop)→Prop
 | [],X,Z,aF=>aF X Z
 | aN :: rest,X,Z,aF=>
  match aN.guard with
  | none=>m4 P E md c0 aN X Z fun v K=>jG P E md c0 all rest (kZ X aN.dst v) K aF
  | some (aC,want)=>
   match wU all aC with
   | none=>False
   | some t=>
    match X t with
    | .bool L=>cond L
      (cond want (m4 P E md c0 aN (kC X t (.bool true)) Z fun v K=>jG P E md c0 all rest (kZ (kC X t (.bool true)) aN.dst v) K aF)
       (jG P E md c0 all rest (kZ (kC X t (.bool true)) aN.dst undef) Z aF))
      (cond want (jG P E md c0 all rest (kZ (kC X t (.bool false)) aN.dst undef) Z aF)
       (m4 P E md c0 aN (kC X t (.bool false)) Z fun v K=>jG P E md c0 all rest (kZ (kC X t (.bool false)) aN.dst v) K aF))
    | .tuple _=>jG P E md c0 all rest (kZ X aN.dst undef) Z aF
    | _=>False
def kD(md:Bool):AX→AX→Bool
 | .pure,_ | _,.pure=>true
 | .load,.load | .quiet,.quiet=>true
 | .load,.quiet | .quiet,.load=>true
 | .load,.call | .call,.load=>md
 | _,_=>false
def pD(a:List Nat):List Edge→Nat
 | []=>0
 | R :: l=>bif Region.binds .any R then(2 ^ R.on ||| a.getD R.on 0) ||| pD a l else pD a l
def k0(a:List Nat):List Oper→List Nat
 | []=>a
 | aN :: l=>k0 (a ++ [pD a aN.after.toList]) l
def sT(ops:List Oper):Bool:=(List.range ops.length).all fun O=>match ops[O]? with
 | some aN=>aN.after.toList.all fun R=>!Region.binds .any R || Nat.blt R.on O
 | none=>true
def C7(E:Env)(md:Bool)(ops:List Oper)(a:List Nat)(O aC:Nat):Bool:=
 match ops[O]?,ops[aC]? with
 | some b,some c=>(a.getD O 0).testBit aC || (c.apart ops.toArray b && kD md (gI E c.op) (gI E b.op))
 | _,_=>true
def sU(E:Env)(md:Bool)(ops:List Oper):Bool:=
 Region.noSelect ops.toArray && sT ops && (List.range ops.length).all fun O=>(List.range O).all fun aC=>C7 E md ops (k0 [] ops) O aC
def qD(E:Env)(draw:Bool)(ops:List Oper):Bool:=draw && !sU E false ops
def wV(E:Env)(draw:Bool)(ops:List Oper):Bool:=draw && !sU E false ops && !sU E true ops
def pE(a:List Nat)(todo:List Nat)(O:Nat):Bool:=todo.all fun aC=>!(a.getD O 0).testBit aC
def C8(E:Env)(all:List Oper)(a:List Nat)(todo:List Nat)(O:Nat):Bool:=
 pE a todo O && todo.all fun aC=>Nat.beq aC O || (a.getD aC 0).testBit O || (match all[O]?,all[aC]? with
  | some a,some b=>a.apart all.toArray b && kD true (gI E a.op) (gI E b.op)
  | _,_=>false)
def del(todo:List Nat)(O:Nat):List Nat:=todo.filter fun aC=>!Nat.beq aC O
def wW(f:Nat→Prop):List Nat→Prop
 | []=>True
 | [O]=>f O
 | O :: aC :: l=>f O∧wW f (aC :: l)
def rE(P:Program)(E:Env)(c0:Nat)(all:List Oper)(O:Nat)(X:Fr)(Z:U)(aF:Fr→U→Prop):Prop:=
 match all[O]? with
 | some aN=>jG P E true c0 all [aN] X Z aF
 | none=>False
def pF(P:Program)(E:Env)(c0:Nat)(all:List Oper)(a:List Nat):Nat→List Nat→Fr→U→(Fr→U→Prop)→Prop
 | 0,_,X,Z,aF=>aF X Z
 | n+1,todo,X,Z,aF=>match todo.find? (C8 E all a todo) with
  | some O=>rE P E c0 all O X Z fun X Z=>pF P E c0 all a n (del todo O) X Z aF
  | none=>wW (fun O=>rE P E c0 all O X Z fun X Z=>pF P E c0 all a n (del todo O) X Z aF) (todo.filter (pE a todo))
inductive a1 where
 | normal | exit (id:Nat) | ret
def a1.then(next:Fr→U→Prop)(Q:a1→Fr→U→Prop):a1→Fr→U→Prop
 | .normal=>next
 | .exit id=>Q (.exit id)
 | .ret=>Q .ret
def a1.inBlock(id:Nat)(Q:a1→Fr→U→Prop):a1→Fr→U→Prop
 | .exit a=>bif Nat.beq a id then Q .normal else Q (.exit a)
 | .normal=>Q .normal
 | .ret=>Q .ret
def iter(bC:(Fr→U→Prop)→Fr→U→Prop):Nat→Fr→U→Prop
 | 0=>fun _ _=>False
 | n+1=>bC (iter bC n)
def den(P:Program)(E:Env):Code→(a1→Fr→U→Prop)→Fr→U→Prop
 | .skip,Q,X,Z=>Q .normal X Z
 | .region _ ops draw,Q,X,Z=>bif wV E draw ops.toList then pF P E Z.size ops.toList (k0 [] ops.toList) ops.toList.length (List.range ops.toList.length) X Z (Q .normal)
   else jG P E (qD E draw ops.toList) Z.size ops.toList ops.toList X Z (Q .normal)
 | .seq a L,Q,X,Z=>den P E a (a1.then (den P E L Q) Q) X Z
 | .cond c a L,Q,X,Z=>match cW X c with
  | .bool t=>cond t (den P E a Q (wN X c true) Z) (den P E L Q (wN X c false) Z)
  | _=>False
 | .block id c,Q,X,Z=>den P E c (a1.inBlock id Q) X Z
 | .loop c,Q,X,Z=>∃ n,iter (fun b=>den P E c (a1.then b Q)) n X Z
 | .exit id,Q,X,Z=>Q (.exit id) X Z
 | .ret,Q,X,Z=>Q .ret X Z
 | .rangeFunc ..,_,_,_=>False
 | .scope c,Q,X,Z=>den P E c Q X Z
 | .label _,Q,X,Z=>Q .normal X Z
 | .goto _,_,_,_=>False
 | .refuse _,_,_,_=>False
def u0(args:List Value):Fr:=fun t=>match args[t]? with | some v=>v | none=>undef
def pG(E:Env)(X:Fr)(Z:U):List ResultVar→(List Value→Prop)→Prop
 | [],aF=>aF []
 | .tmp t :: l,aF=>pG E X Z l fun bV=>aF (X t :: bV)
 | .cell a t :: l,aF=>match X a,look E.types t with
  | .pointer (some aE),some O=>uV O Z aE fun v=>pG E X Z l fun bV=>aF (v :: bV)
  | _,_=>False
def u1:List Value→Value
 | [v]=>v
 | bV=>.tuple bV.toArray
def dK(f:Func):Code:=match f.body with | some c=>c | none=>.skip
def a3:Code→List Bool→Code
 | c,[]=>c
 | .seq a _,false :: p=>a3 a p
 | .seq _ L,true :: p=>a3 L p
 | .cond _ a _,false :: p=>a3 a p
 | .cond _ _ L,true :: p=>a3 L p
 | .block _ c,_ :: p=>a3 c p
 | .loop c,_ :: p=>a3 c p
 | .scope c,_ :: p=>a3 c p
 | _,_ :: _=>.skip
def pH(n:Nat)(aN:Oper):Bool:=match aN.dst with | some aV=>Nat.blt aV n | none=>true
def sV(a:Env)(n:Nat)(ops:Array Oper)(draw:Bool):Bool:=
 ops.toList.all (pH n) && (!draw || (Region.noSelect ops.toList.toArray && sT ops.toList))
def nT(E:Env)(n:Nat):Code→Bool
 | .region _ ops draw=>sV E n ops draw
 | .seq a L=>nT E n a && nT E n L
 | .cond _ a L=>nT E n a && nT E n L
 | .block _ c=>nT E n c
 | .loop c=>nT E n c
 | .scope c=>nT E n c
 | .skip | .exit _ | .ret | .label _=>true
 | _=>false
set_option linter.unusedSimpArgs false
def wX(P:Program)(f:FuncId):rB→Prop
 | .body | .quiet=>True
 | .qA=>∃ fn,P.funcs[f]?=some fn∧Extern.findNext fn=none∧Extern.find fn=some add64Entry
 | .qB=>∃ fn,P.funcs[f]?=some fn∧Extern.findNext fn=none∧Extern.find fn=some AR
structure hT(P:Program)(E:Env):Prop where
 ty:∀ t O,look E.types t=some O→kS P t O=true
 fn:∀ f S,look E.fns f=some S→AU P f S=true
 ext:∀ f S,look E.fns f=some S→wX P f S
 mixed:P.follows .mixedOrders=true
 arr:∀ t p,look E.AS t=some p→P.underlying t=some (.array p.1 p.2)
def rB.HD:rB→Bool
 | .body | .quiet=>false
 | _=>true
theorem HE{P:Program}{l:List (Nat × rB)}{r:List (Nat × rB)}(R:l.filter (fun p=>p.2.HD)=r)(Z:∀ p ∈ r,wX P p.1 p.2):∀ p ∈ l,wX P p.1 p.2:=by
 intro p a
 obtain⟨f,S⟩:=p
 cases S with
 | body=>trivial
 | quiet=>trivial
 | qA=>exact Z (f,.qA) (by rw [← R];exact List.mem_filter.2 ⟨a,rfl⟩)
 | qB=>exact Z (f,.qB) (by rw [← R];exact List.mem_filter.2 ⟨a,rfl⟩)
theorem hT.mk'{P:Program}{E:Env}(Z:C3 P E=true)(b:∀ p ∈ E.fns,wX P p.1 p.2)(c:P.follows .mixedOrders=true):hT P E:=by
 simp only [C3,Bool.and_eq_true,List.all_eq_true] at Z
 refine⟨fun t O a4=>Z.1.1 (t,O) (yU a4),fun f S a=>Z.1.2 (f,S) (yU a),fun f S a=>b (f,S) (yU a),c,fun t p d=>?_⟩
 have:=Z.2 (t,p) (yU d)
 unfold C2 at this
 split at this
 ·rename_i n R hu
  simp only [Bool.and_eq_true] at this
  rw [hu,Nat.eq_of_beq_eq_true this.1,Nat.eq_of_beq_eq_true this.2]
 ·cases this
section facts
variable {P:Program} {t R:TypeId} {fW:List hS} {L:Nat}
theorem u2{O:dQ}(Z:kS P t O=true):pB (P.underlying t) O.ty=true:=by
 simp only [kS,Bool.and_eq_true] at Z;exact Z.1
theorem AY{S:IntKind}(Z:kS P t ⟨.int S,fW,L⟩=true):P.underlying t=some (.int S):=by
 have K:=u2 Z
 simp only at K
 unfold pB at K
 split at K <;> simp_all
 exact yV K
theorem HF(Z:kS P t ⟨.bool,fW,L⟩=true):P.underlying t=some .bool:=by
 have K:=u2 Z
 simp only at K
 unfold pB at K
 split at K <;> simp_all
theorem u3(Z:kS P t ⟨.str,fW,L⟩=true):P.underlying t=some .string:=by
 have K:=u2 Z
 simp only at K
 unfold pB at K
 split at K <;> simp_all
theorem oK(Z:kS P t ⟨.slice R,fW,L⟩=true):P.underlying t=some (.slice R):=by
 have K:=u2 Z
 simp only at K
 unfold pB at K
 split at K <;> simp_all
theorem C9{eL:List (Nat × TypeId)}(Z:kS P t ⟨.struct eL,fW,L⟩=true):(∃ a,P.underlying t=some (.struct a)∧a.toList.map (fun f=>(f.offset,f.type))=eL)∨(eL=[]∧∃ n R,P.underlying t=some (.array n R)):=by
 have K:=u2 Z
 simp only at K
 unfold pB at K
 split at K <;> simp_all
theorem AZ{eL:List (Nat × TypeId)}(b:eL ≠ [])(Z:kS P t ⟨.struct eL,fW,L⟩=true):∃ a,P.underlying t=some (.struct a)∧a.toList.map (fun f=>(f.offset,f.type))=eL:=by
 rcases C9 Z with Z | Z
 ·exact Z
 ·exact absurd Z.1 b
def p9.isTuple:p9→Bool
 | .tuple _=>true
 | _=>false
def p9.u4:p9→Bool
 | .struct _=>true
 | _=>false
theorem pI{O:dQ}(Z:kS P t O=true):∃ inf,P.info? t=some inf∧inf.size=O.leaves.length∧inf.bytes=O.bytes:=by
 simp only [kS,Bool.and_eq_true] at Z
 obtain⟨_,Z⟩:=Z
 split at Z
 ·rename_i inf a4
  simp only [Bool.and_eq_true] at Z
  exact⟨inf,a4,Nat.eq_of_beq_eq_true Z.1.1,Nat.eq_of_beq_eq_true Z.1.2⟩
 ·simp at Z
theorem u5{O:dQ}(Z:kS P t O=true)(b:O.ty.isTuple=false):
  ∃ inf,P.info? t=some inf∧inf.size=O.leaves.length∧inf.bytes=O.bytes∧∃ bI,inf.zero=some bI∧bI.cells.toList=O.a6:=by
 simp only [kS,Bool.and_eq_true] at Z
 obtain⟨_,Z⟩:=Z
 split at Z
 ·rename_i inf a4
  simp only [Bool.and_eq_true] at Z
  obtain⟨⟨aZ,c⟩,a⟩:=Z
  split at a
  ·rename_i R;rw [R] at b;simp [p9.isTuple] at b
  ·split at a
   ·rename_i bI d
    exact⟨inf,a4,Nat.eq_of_beq_eq_true aZ,Nat.eq_of_beq_eq_true c,bI,d,C1 a⟩
   ·simp at a
 ·simp at Z
theorem HG{O:dQ}(Z:kS P t O=true)(bM:O.ty.u4=false):∃ aV,P.underlying t=some aV∧(∀ eL,aV ≠ .struct eL)∧(∀ n R,aV ≠ .array n R):=by
 have K:=u2 Z
 cases hu:P.underlying t with
 | none=>rw [hu] at K;cases O.ty <;> simp [pB] at K
 | some aV=>
  rw [hu] at K
  refine⟨aV,rfl,?_,?_⟩
  ·rintro eL rfl
   cases a:O.ty <;> rw [a] at K bM <;> simp [pB,p9.u4] at K bM
  ·rintro n R rfl
   cases a:O.ty <;> rw [a] at K bM <;> simp [pB,p9.u4] at K bM
end facts
section runs
variable {P:Program} {t:TypeId}
theorem g0{aV:TypeDesc}(Z:P.underlying t=some aV)(aB:World):(underlying t).run P aB=.ok aV aB:=run_underlying Z aB
theorem k1{inf:TypeInfo}(Z:P.info? t=some inf)(aB:World):(sizeOf t).run P aB=.ok inf.size aB:=by simp [sizeOf,typeInfo,Z]
theorem A0{inf:TypeInfo}(Z:P.info? t=some inf)(aB:World):(typeInfo t).run P aB=.ok inf aB:=by simp [typeInfo,Z]
theorem u6{inf:TypeInfo}{bI:Value}(Z:P.info? t=some inf)(a:inf.zero=some bI)(aB:World):(zeroValue t).run P aB=.ok bI aB:=by simp [zeroValue,typeInfo,Z,a]
theorem Da{O:dQ}(Z:kS P t O=true)(bM:O.ty.u4=false)(aB:World):(isAgg t).run P aB=.ok false aB:=by
 obtain⟨aV,a,aZ,b⟩:=HG Z bM
 unfold isAgg
 rw [Sem.run_bind,g0 a]
 cases aV <;> first | rfl | exact absurd rfl (aZ _) | exact absurd rfl (b _ _)
theorem Db{eL:List (Nat × TypeId)}{fW:List hS}{L:Nat}(Z:kS P t ⟨.struct eL,fW,L⟩=true)(aB:World):(isAgg t).run P aB=.ok true aB:=by
 rcases C9 Z with ⟨b,a,_⟩ | ⟨_,n,R,a⟩ <;>
 ·unfold isAgg
  rw [Sem.run_bind,g0 a]
  rfl
theorem y3:∀ (bV:List Value) (aE:Addr) (O:Nat) (a:Array Value) (aB:World),j1 aB.heap aE O bV→(loadCellsFrom aE O bV.length a).run P aB=.ok (a ++ bV.toArray) aB
 | [],aE,O,a,aB,_=>by simp [loadCellsFrom]
 | v :: bV,aE,O,a,aB,Z=>by
  have aX:aB.cell? (aE.add O)=some v:=Z.1
  have bU:=y3 bV aE (O+1) (a.push v) aB Z.2
  simp only [List.length_cons,loadCellsFrom,Sem.run_bind,run_load,aX,Result.andThen,bU]
  simp
theorem HH{v:Value}(Z:m2 v=true):v.oneCell'=true:=by cases v <;> first | rfl | cases Z
theorem A1{aE:Addr}{v:Value}{aB:World}(aZ:∃ aN,gP aB.heap aE=some aN)(a:mB aB.heap aE=false)(b:m2 v=true):(store aE v).run P aB=.ok () (aB.setCell aE v):=by
 obtain⟨aN,c⟩:=aZ
 have d:aB.cell? aE=some aN:=c
 have e:aB.frozen? aE=false:=a
 rw [run_store P aB aE v _ (HH b),d]
 simp [e]
end runs
theorem iP{v:Value}{aF:Bool→Prop}(Z:eS v aF):∃ L,v=.bool L∧aF L:=by
 cases v <;> first | exact⟨_,rfl,Z⟩ | cases Z
theorem bN{S:IntKind}{v:Value}{aF:Int→Prop}(Z:aW S v aF):∃ n,v=.int S n∧aF n:=by
 cases v with
 | int cS n=>
  unfold aW at Z
  cases R:qC S cS with
  | false=>simp [R] at Z
  | true=>simp [R] at Z;obtain rfl:=yV R;exact⟨n,rfl,Z⟩
 | _=>cases Z
theorem Dc{v:Value}{aF:ByteArray→Prop}(Z:yW v aF):∃ aH,v=.string aH∧aF aH:=by
 cases v <;> first | exact⟨_,rfl,Z⟩ | cases Z
theorem b4{v:Value}{aF:M→Nat→Nat→Prop}(Z:aQ v aF):∃ a l c,v=.slice a l c∧aF a l c:=by
 cases v <;> first | exact⟨_,_,_,rfl,Z⟩ | cases Z
theorem Dd{v:Value}{aF:M→Prop}(Z:yX v aF):∃ a,v=.pointer a∧aF a:=by
 cases v <;> first | exact⟨_,rfl,Z⟩ | cases Z
theorem y4{S:hS}{v:Value}{aF:Value→Prop}(Z:sO S v aF):aF v∧m2 v=true:=by
 cases S with
 | int S=>obtain⟨n,R,g⟩:=bN (show aW S v _ from Z);subst R;exact⟨g,rfl⟩
 | bool=>obtain⟨n,R,g⟩:=iP (show eS v _ from Z);subst R;exact⟨g,rfl⟩
 | str=>obtain⟨n,R,g⟩:=Dc (show yW v _ from Z);subst R;exact⟨g,rfl⟩
 | slice=>obtain⟨a,l,c,R,g⟩:=b4 (show aQ v _ from Z);subst R;exact⟨g,rfl⟩
 | ptr=>obtain⟨n,R,g⟩:=Dd (show yX v _ from Z);subst R;exact⟨g,rfl⟩
theorem e7{l:List Value}{aF:Value→List Value→Prop}(Z:cQ l aF):∃ v bV,l=v :: bV∧aF v bV:=by
 cases l <;> first | exact⟨_,_,rfl,Z⟩ | cases Z
theorem hU{l:List Value}{aF:Prop}(Z:b5 l aF):l=[]∧aF:=by
 cases l <;> first | exact⟨rfl,Z⟩ | cases Z
theorem De:∀ {a:List hS} {l:List Value} {aF:List Value→Prop},wP a l aF→aF l
 | [],l,aF,Z=>by obtain⟨R,g⟩:=hU Z;subst R;exact g
 | S :: a,l,aF,Z=>by
  obtain⟨v,bV,R,g⟩:=e7 Z
  subst R
  exact De (aF:=fun b=>aF (v :: b)) (y4 g).1
theorem A2{v:Value}{aF:List Value→Prop}(Z:eG v aF):∃ c2,v=.agg c2∧aF c2.toList:=by
 cases v <;> first | exact⟨_,rfl,Z⟩ | cases Z
theorem Df{v:Value}{aF:List Value→Prop}(Z:cT v aF):∃ c2,v=.tuple c2∧aF c2.toList:=by
 cases v <;> first | exact⟨_,rfl,Z⟩ | cases Z
theorem Dg{O:dQ}{v:Value}{aF:Value→Prop}(Z:sP O v aF):aF v:=by
 unfold sP at Z
 split at Z
 ·obtain⟨c2,R,g⟩:=A2 Z
  subst R
  have:=De g
  simpa using this
 ·split at Z
  ·exact(y4 Z).1
  ·cases Z
theorem Dh{E:Env}:∀ {jD:List TypeId} {l:List Value} {aF:List Value→Prop},uQ E jD l aF→aF l
 | [],l,aF,Z=>by obtain⟨R,g⟩:=hU Z;subst R;exact g
 | t :: jD,l,aF,Z=>by
  obtain⟨v,bV,R,g⟩:=e7 Z
  subst R
  split at g
  ·exact Dh (aF:=fun a=>aF (v :: a)) (Dg g)
  ·cases g
theorem A3{E:Env}{t:TypeId}{v:Value}{aF:Value→Prop}(Z:rC E t v aF):aF v:=by
 unfold rC at Z
 split at Z
 ·split at Z
  ·obtain⟨c2,R,g⟩:=Df Z
   subst R
   have:=Dh g
   simpa using this
  ·exact Dg Z
 ·exact Z
section still
variable {P:Program} {E:Env}
theorem HI{op:BinOp}{S:IntKind}{a L:Int}{aF:Value→Prop}{t:TypeId}(Z:yY op S a L aF)(aZ:op ≠ .shl)(b:op ≠ .shr):
  ∃ v,aF v∧∀ aB,(binOp op t (.int S a) (.int S L)).run P aB=.ok v aB:=by
 cases op with
 | shl=>exact absurd rfl aZ
 | shr=>exact absurd rfl b
 | add=>exact⟨_,Z.out,fun aB=>by simp [binOp,Op.intArith]⟩
 | sub=>exact⟨_,Z.out,fun aB=>by simp [binOp,Op.intArith]⟩
 | mul=>exact⟨_,Z.out,fun aB=>by simp [binOp,Op.intArith]⟩
 | quo=>exact⟨_,Z.2.out,fun aB=>by simp [binOp,Op.intDiv,Z.1]⟩
 | rem=>exact⟨_,Z.2.out,fun aB=>by simp [binOp,Op.intDiv,Z.1]⟩
 | and=>exact⟨_,Z.out,fun aB=>by rw [binOp_and];rfl⟩
 | or=>exact⟨_,Z.out,fun aB=>by rw [binOp_or];rfl⟩
 | xor=>exact⟨_,Z.out,fun aB=>by rw [binOp_xor];rfl⟩
 | andNot=>exact⟨_,Z.out,fun aB=>by rw [binOp_andNot];rfl⟩
 | eql=>exact⟨_,Z,fun aB=>by rw [binOp_eql];rfl⟩
 | neq=>exact⟨_,Z,fun aB=>by rw [binOp_neq];rfl⟩
 | lss=>exact⟨_,Z,fun aB=>by rw [binOp_lss];rfl⟩
 | leq=>exact⟨_,Z,fun aB=>by rw [binOp_leq];rfl⟩
 | gtr=>exact⟨_,Z,fun aB=>by rw [binOp_gtr];rfl⟩
 | geq=>exact⟨_,Z,fun aB=>by rw [binOp_geq];rfl⟩
theorem Di{t:TypeId}(Z:P.underlying t=some .bool)(a L:Bool)(aB:World):(Op.equal t (.bool a) (.bool L)).run P aB=.ok (a == L) aB:=by
 have b:Op.maxDepth=9999+1:=rfl
 rw [Op.equal,b,Op.equalIn,Sem.run_bind,g0 Z]
 rfl
theorem Dj{t R:TypeId}(Z:P.underlying t=some (.slice R))(a:M)(l c b dF:Nat)(aB:World):(Op.equal t (.slice a l c) (.slice none b dF)).run P aB=.ok a.isNone aB:=by
 have d:Op.maxDepth=9999+1:=rfl
 rw [Op.equal,d,Op.equalIn,Sem.run_bind,g0 Z]
 cases a <;> rfl
theorem HJ(e:hT P E){op:BinOp}{t:TypeId}{a2 bK:Operand}{N aP:Value}{aF:Value→Prop}(Z:uS E op t N aP aF):
  ∃ v,aF v∧∀ aB,(do eqGuard op t a2 bK N aP;binOp op t N aP:Sem Value).run P aB=.ok v aB:=by
 unfold uS at Z
 split at Z
 ·rename_i S a cS L
  have b:eqGuard op t a2 bK (.int S a) (.int cS L)=pure ():=eqGuard_at_int ..
  split at Z
  ·exact⟨_,Z.2.out,fun aB=>by
    rw [b]
    have:¬ L < 0:=by omega
    simp [binOp,Op.shift,h4,this]⟩
  ·exact⟨_,Z.2.out,fun aB=>by
    rw [b]
    have:¬ L < 0:=by omega
    simp [binOp,Op.shift,g6,this]⟩
  ·rename_i aZ f
   cases R:qC S cS with
   | false=>simp [R] at Z
   | true=>
    simp only [R,cond_true] at Z
    obtain rfl:=yV R
    obtain⟨v,bW,g⟩:=HI (P:=P) (t:=t) Z aZ f
    exact⟨v,bW,fun aB=>by rw [b];simp [g aB]⟩
 ·rename_i a L
  have b:eqGuard op t a2 bK (.string a) (.string L)=pure ():=eqGuard_at_string ..
  split at Z
  ·refine⟨_,Z.2,fun aB=>?_⟩
   rw [b]
   have aZ:¬ ((a.size+L.size:Nat):Int) > IntKind.i64.max:=by rw [IntKind.max_i64];omega
   simp only [binOp,Op.stringOp,pure_bind]
   rw [if_neg aZ]
   rfl
  ·exact⟨_,Z,fun aB=>by rw [b];simp [binOp,Op.stringOp]⟩
  ·exact⟨_,Z,fun aB=>by rw [b];simp [binOp,Op.stringOp]⟩
  ·cases Z
 ·rename_i a L
  have b:eqGuard op t a2 bK (.bool a) (.bool L)=pure ():=eqGuard_at_bool ..
  split at Z
  ·rename_i fW hV d
   have hu:=HF (e.ty _ _ d)
   split at Z
   ·exact⟨_,Z,fun aB=>by rw [b];simp [binOp,Di hu]⟩
   ·exact⟨_,Z,fun aB=>by rw [b];simp [binOp,Di hu]⟩
   ·cases Z
  ·cases Z
 ·rename_i a l c h dF
  have b:eqGuard op t a2 bK (.slice a l c) (.slice none h dF)=pure ():=eqGuard_at_slice ..
  split at Z
  ·rename_i R fW hV d
   have hu:=oK (e.ty _ _ d)
   split at Z
   ·exact⟨_,Z,fun aB=>by rw [b];simp [binOp,Dj hu]⟩
   ·exact⟨_,Z,fun aB=>by rw [b];simp [binOp,Dj hu]⟩
   ·cases Z
  ·cases Z
 ·cases Z
theorem HK{op:UnOp}{N:Value}{aF:Value→Prop}(Z:uT op N aF):∃ v,aF v∧∀ aB,(Op.unary op N).run P aB=.ok v aB:=by
 unfold uT at Z
 split at Z
 ·exact⟨_,Z.out,fun aB=>by simp [Op.unary,Op.intArith]⟩
 ·rename_i S n
  refine⟨_,Z.out,fun aB=>?_⟩
  have R:(if S.signed=true then(-1:Int) else S.max)=bif S.signed then -1 else S.max:=by cases S.signed <;> rfl
  simp only [Op.unary,R]
  rfl
 ·exact⟨_,Z,fun aB=>by simp [Op.unary]⟩
 ·cases Z
theorem Dk{Z:U}{aE:Addr}:∀ {b:List hS} {O:Nat} {aF:List Value→Prop},uU Z aE O b aF→∃ bV,aF bV∧j1 Z aE O bV∧bV.length=b.length
 | [],O,aF,a=>⟨[],a,trivial,rfl⟩
 | S :: b,O,aF,a=>by
  unfold uU fG at a
  split at a
  ·rename_i v bW
   obtain⟨bV,aZ,c,d⟩:=Dk (aF:=fun bV=>aF (v :: bV)) (y4 a).1
   exact⟨v :: bV,aZ,⟨bW,c⟩,by simp [d]⟩
  ·cases a
theorem rF{Z K:U}{aE:Addr}(R:K[aE.block]?=Z[aE.block]?):gP K aE=gP Z aE:=by unfold gP;rw [R]
theorem pJ(aE:Addr)(O:Nat):(aE.add O).block=aE.block:=by unfold Addr.add;split <;> rfl
theorem Dl{Z K:U}{aE:Addr}(R:K[aE.block]?=Z[aE.block]?):∀ {bV:List Value} {O:Nat},j1 Z aE O bV→j1 K aE O bV
 | [],_,_=>trivial
 | v :: bV,O,a=>⟨(rF (Z:=Z) (K:=K) (aE:=aE.add O) (by rw [pJ];exact R)).trans a.1,Dl R a.2⟩
theorem Dm(e:hT P E){t:TypeId}{O:dQ}(f:look E.types t=some O){Z:U}{aE:Addr}{aF:Value→Prop}(a:uV O Z aE aF):
  ∃ v,aF v∧∀ aB:World,aB.heap[aE.block]?=Z[aE.block]?→(Instr.loadAt t (.pointer (some aE))).run P aB=.ok v aB:=by
 have b:=e.ty _ _ f
 obtain⟨ty,fW,L⟩:=O
 unfold uV at a
 split at a
 ·rename_i eL R
  simp only at R a
  subst R
  obtain⟨bV,aZ,c,g⟩:=Dk a
  refine⟨_,aZ,fun aB d=>?_⟩
  obtain⟨inf,a4,bM,_⟩:=pI b
  have h:=y3 (P:=P) bV aE 0 #[] aB (Dl d c)
  simp only at bM
  simp only [Instr.loadAt,Instr.sureAddr,pure_bind,loadVar,Sem.run_bind,Db b,Result.andThen,if_true,k1 a4,loadCells,bM,← g,h]
  simp
 ·cases a
 ·rename_i aZ c
  simp only at a aZ c
  split at a
  ·rename_i S
   unfold fG at a
   split at a
   ·rename_i v bW
    refine⟨v,(y4 a).1,fun aB d=>?_⟩
    have bM:(dQ.mk ty [S] L).ty.u4=false:=by
     cases ty <;> first | rfl | exact absurd rfl (aZ _)
    have i:aB.cell? aE=some v:=by rw [C0,rF d];exact bW
    simp [Instr.loadAt,Instr.sureAddr,loadVar,Da b bM,i]
   ·cases a
  ·cases a
theorem HL{t R:TypeId}{inf:TypeInfo}(hu:P.underlying t=some (.slice R))(a4:P.info? R=some inf){a:M}{l c:Nat}{S:IntKind}{n:Int}{aF:Addr→Prop}
  (b:c7 a l n inf.size aF):∃ aE,aF aE∧∀ aB,(Instr.indexAt t (.slice a l c) (.int S n)).run P aB=.ok (.pointer (some aE)) aB:=by
 obtain⟨⟨aX,aZ⟩,b⟩:=b
 split at b
 ·rename_i p
  refine⟨_,b,fun aB=>?_⟩
  simp only [Instr.indexAt,asIntOf,pure_bind,Sem.run_bind,g0 hu,Result.andThen]
  simp [aX,aZ,k1 a4]
 ·cases b
theorem HM{t R:TypeId}{inf:TypeInfo}{m:Nat}(hu:P.underlying t=some (.array m R))(a4:P.info? R=some inf){p:Addr}{S:IntKind}{n:Int}{aF:Addr→Prop}
  (a:c7 (some p) m n inf.size aF):∃ aE,aF aE∧∀ aB,(Instr.indexAt t (.pointer (some p)) (.int S n)).run P aB=.ok (.pointer (some aE)) aB:=by
 obtain⟨⟨aX,aZ⟩,a⟩:=a
 refine⟨_,a,fun aB=>?_⟩
 simp only [Instr.indexAt,asIntOf,pure_bind,Sem.run_bind,g0 hu,Result.andThen,Instr.sureAddr]
 simp [aX,aZ,k1 a4,g0 hu]
theorem wY{P:Program}{v:Option Value}{b aP:Nat}{aF:Nat→Prop}(Z:pC v b aP aF):
  ∃ m,aF m∧(v=none→m=b)∧∀ N,v=some N→∀ code (aB:World),(Instr.sliceBound N aP code).run P aB=.ok m aB:=by
 unfold pC at Z
 split at Z
 ·exact⟨_,Z,⟨fun _=>rfl,fun N a=>(by cases a)⟩⟩
 ·rename_i S O
  refine⟨O.toNat,Z.2,⟨fun a=>(by cases a),fun N a code aB=>?_⟩⟩
  obtain rfl:=Option.some.inj a
  exact run_sliceBound aB S O aP code Z.1.1 Z.1.2
 ·cases Z
theorem HN{t R:TypeId}{inf:TypeInfo}(hu:P.underlying t=some (.slice R))(a4:P.info? R=some inf){a:M}{l c:Nat}{bY d e:Option Value}{aF:Value→Prop}
  (b:iD inf.size a l c bY d e fun a l c=>aF (.slice a l c)):∃ v,aF v∧∀ aB,(Instr.sliceAt t (.slice a l c) bY d e).run P aB=.ok v aB:=by
 unfold iD at b
 split at b
 ·cases b
 ·rename_i j
  obtain⟨m,b,k,i⟩:=wY (P:=P) b
  obtain⟨n,b,aX,f⟩:=wY (P:=P) b
  obtain⟨o,b,g,h⟩:=wY (P:=P) b
  refine⟨_,b,fun aB=>?_⟩
  have p:(Instr.sliceBounds true l c bY d e).run P aB=.ok (o,n,m) aB:=by
   unfold Instr.sliceBounds
   cases e with
   | none=>
    obtain rfl:=k rfl
    cases d with
    | none=>
     obtain rfl:=aX rfl
     cases bY with
     | none=>obtain rfl:=g rfl;rfl
     | some N=>simp [h N rfl]
    | some aP=>
     cases bY with
     | none=>obtain rfl:=g rfl;simp [f aP rfl]
     | some N=>simp [h N rfl,f aP rfl]
   | some bI=>
    cases d with
    | none=>exact absurd rfl (j bI rfl)
    | some aP=>
     cases bY with
     | none=>obtain rfl:=g rfl;simp [f aP rfl,i bI rfl]
     | some N=>simp [h N rfl,f aP rfl,i bI rfl]
  simp only [Instr.sliceAt,Sem.run_bind,g0 hu,Result.andThen,Instr.slice,p,k1 a4,iY]
  rfl
theorem HO{t:TypeId}(hu:P.underlying t=some .string){aH:ByteArray}{bY b:Option Value}{aF:Value→Prop}
  (a:wR aH bY b fun aH=>aF (.string aH)):∃ v,aF v∧∀ aB,(Instr.sliceAt t (.string aH) bY b none).run P aB=.ok v aB:=by
 unfold wR at a
 obtain⟨f,a,aX,c⟩:=wY (P:=P) a
 obtain⟨g,a,d,e⟩:=wY (P:=P) a
 refine⟨_,a,fun aB=>?_⟩
 have h:(Instr.sliceBounds false aH.size aH.size bY b none).run P aB=.ok (g,f,aH.size) aB:=by
  unfold Instr.sliceBounds
  cases b with
  | none=>
   obtain rfl:=aX rfl
   cases bY with
   | none=>obtain rfl:=d rfl;rfl
   | some N=>simp [e N rfl]
  | some aP=>
   cases bY with
   | none=>obtain rfl:=d rfl;simp [c aP rfl]
   | some N=>simp [e N rfl,c aP rfl]
 simp only [Instr.sliceAt,Sem.run_bind,g0 hu,Result.andThen,Instr.slice,Option.isSome_none,Bool.false_eq_true,if_false,h]
 rfl
theorem Dn:∀ (l:List Value) (off S:Nat) (cells:Array Value),off+S+l.length≤cells.size→
  (l.zipIdx S).foldl (fun c2 p=>c2.setIfInBounds (off+p.2) p.1) cells=(cells.toList.take (off+S) ++ (l ++ cells.toList.drop (off+S+l.length))).toArray
 | [],off,S,cells,Z=>by simp
 | v :: l,off,S,cells,Z=>by
  have a:off+S < cells.size:=by simp at Z;omega
  have bU:=Dn l off (S+1) (cells.setIfInBounds (off+S) v) (by simp at Z ⊢;omega)
  simp only [List.zipIdx_cons,List.foldl_cons,bU]
  congr 1
  have b:(cells.setIfInBounds (off+S) v).toList=cells.toList.set (off+S) v:=by simp
  rw [b]
  have c:off+(S+1)=off+S+1:=by omega
  have d:off+(S+1)+l.length=off+S+(l.length+1):=by omega
  have e:off+S < cells.toList.length:=by simpa using a
  rw [d,c,List.length_cons,List.take_succ_eq_append_getElem (by simpa using a)]
  rw [List.getElem_set_self,List.take_set_of_le (Nat.le_refl _),List.drop_set_of_lt (by omega)]
  simp
theorem A4{A5 place:Nat→Option (Nat × Nat)}(a:∀ O,A5 O=place O):∀ (parts:List (Nat × Value)) (cells out:List Value),uW place cells parts=some out→
  Instr.fill A5 cells.toArray parts=some out.toArray
 | [],cells,out,Z=>by simp only [uW,Option.some.injEq] at Z;subst Z;rfl
 | (O,v) :: rest,cells,out,Z=>by
  unfold uW at Z
  unfold Instr.fill
  rw [a O]
  split at Z
  ·cases Z
  ·rename_i off size R
   rw [R]
   simp only
   cases aG:Nat.beq v.cells.toList.length size with
   | false=>rw [aG] at Z;cases Z
   | true=>
    cases bG:Nat.ble (off+v.cells.toList.length) cells.length with
    | false=>rw [aG,bG] at Z;cases Z
    | true=>
     rw [aG,bG] at Z
     simp only [Bool.and_self,cond_true] at Z
     have d1:v.cells.size=size:=by simpa using Nat.eq_of_beq_eq_true aG
     have d2:off+v.cells.size≤cells.length:=by simpa using Nat.le_of_ble_eq_true bG
     have b:=Dn v.cells.toList off 0 cells.toArray (by simpa using d2)
     have bU:=A4 a rest _ out Z
     have c:(v.cells.zipIdx.foldl (fun c2 (p:Value × Nat)=>c2.setIfInBounds (off+p.2) p.1) cells.toArray)=(AV cells off v.cells.toList).toArray:=by
      rw [← Array.foldl_toList,Array.toList_zipIdx,b]
      simp [AV]
     have cR:¬ (v.cells.size ≠ size || off+v.cells.size > cells.toArray.size)=true:=by simp;omega
     rw [if_neg cR]
     rw [← bU]
     congr 1
theorem HP{a:List Field}(Z:∀ f ∈ a,∃ inf,P.info? f.type=some inf)(aB:World):
  (a.mapM fun (f:Field)=>(do pure (f.offset,← sizeOf f.type):Sem (Nat × Nat))).run P aB=.ok (a.map fun f=>(f.offset,P.cellsOf f.type)) aB:=by
 induction a with
 | nil=>rfl
 | cons f l bU=>
  obtain⟨inf,a4⟩:=Z f (by simp)
  have b:=bU fun g c=>Z g (by simp [c])
  rw [List.mapM_cons]
  simp only [Sem.run_bind,k1 a4,Result.andThen,Sem.run_pure,b,List.map_cons,Program.cellsOf,a4]
  rfl
theorem Dp:∀ {eL:List (Nat × TypeId)},sQ E eL=true→∀ p ∈ eL,∃ O,look E.types p.2=some O
 | [],_,p,a=>by cases a
 | (off,t) :: l,Z,p,a=>by
  unfold sQ at Z
  split at Z
  ·rename_i O a4
   rcases List.mem_cons.1 a with rfl | a
   ·exact⟨O,a4⟩
   ·exact Dp Z p a
  ·cases Z
theorem HQ{t:TypeId}{O:dQ}(Z:kS P t O=true):P.cellsOf t=O.leaves.length:=by
 obtain⟨inf,a4,bM,_⟩:=pI Z
 simp [Program.cellsOf,a4,bM]
theorem Dq:∀ {rest:List Value} {N:Value} {aF:Value→Prop},m0 N rest aF→∃ v,aF v∧∀ aB,(rest.foldlM Builtin.max2 N:Sem Value).run P aB=.ok v aB
 | [],N,aF,Z=>by unfold m0 at Z;exact⟨N,Z,fun aB=>rfl⟩
 | aP :: rest,N,aF,Z=>by
  cases N with
  | int S a=>
   cases aP with
   | int cS L=>
    unfold m0 at Z
    obtain⟨v,bW,b⟩:=Dq Z
    exact⟨v,bW,fun aB=>by simp only [List.foldlM_cons,Builtin.max2,pure_bind];exact b aB⟩
   | _=>simp [m0] at Z
  | _=>cases aP <;> simp [m0] at Z
theorem Dr:∀ {rest:List Value} {N:Value} {aF:Value→Prop},m1 N rest aF→∃ v,aF v∧∀ aB,(rest.foldlM Builtin.min2 N:Sem Value).run P aB=.ok v aB
 | [],N,aF,Z=>by unfold m1 at Z;exact⟨N,Z,fun aB=>rfl⟩
 | aP :: rest,N,aF,Z=>by
  cases N with
  | int S a=>
   cases aP with
   | int cS L=>
    unfold m1 at Z
    obtain⟨v,bW,b⟩:=Dr Z
    exact⟨v,bW,fun aB=>by simp only [List.foldlM_cons,Builtin.min2,pure_bind];exact b aB⟩
   | _=>simp [m1] at Z
  | _=>cases aP <;> simp [m1] at Z
theorem HR(N aP c:Int)(b:0≤N)(d:0≤aP)(e:0≤c)(h:c≤1)(i:aP < 18446744073709551616)(aB:World):
  (AR #[.int .u64 N,.int .u64 aP,.int .u64 c]).run P aB=
   .ok (.tuple #[.int .u64 ((N - aP - c) % 18446744073709551616),.int .u64 (if N < aP+c then 1 else 0)]) aB:=by
 have key:∀ S:Nat,S≤1→(AR #[.int .u64 N,.int .u64 aP,.int .u64 (S:Int)]).run P aB=
   .ok (Extern.MathBitsCarry.pair ((N.toNat+Extern.MathBitsCarry.m64 - aP.toNat - S) % Extern.MathBitsCarry.m64) (if N.toNat < aP.toNat+S then 1 else 0)) aB:=by
  intro S j
  have:S=0∨S=1:=by omega
  rcases this with rfl | rfl <;> rfl
 obtain⟨S,rfl⟩:=Int.eq_ofNat_of_zero_le e
 rw [key S (by omega)]
 obtain⟨a2,rfl⟩:=Int.eq_ofNat_of_zero_le b
 obtain⟨bK,rfl⟩:=Int.eq_ofNat_of_zero_le d
 simp only [Extern.MathBitsCarry.pair,Extern.MathBitsCarry.m64,Int.toNat_natCast]
 have f:Int.ofNat ((a2+2 ^ 64 - bK - S) % 2 ^ 64)=((a2:Int) - bK - S) % 18446744073709551616:=by
  simp;omega
 have g:Int.ofNat (if a2 < bK+S then 1 else 0)=if (a2:Int) < bK+S then 1 else 0:=by
  by_cases a:a2 < bK+S
  ·rw [if_pos a,if_pos (by omega)];rfl
  ·rw [if_neg a,if_neg (by omega)];rfl
 rw [f,g]
theorem y5(a:hT P E){f:FuncId}{S:rB}(b:look E.fns f=some S):∃ fn,P.funcs[f]?=some fn∧(fn.name == "runtime.NumGoroutine")=false∧(S=.body∨S=.quiet→fn.body.isSome=true)∧(S=.qA∨S=.qB→fn.body.isNone=true):=by
 have Z:=a.fn _ _ b
 unfold AU at Z
 split at Z
 ·rename_i fn c
  refine⟨fn,c,?_⟩
  cases S <;> simp only [Bool.and_eq_true,Bool.not_eq_true'] at Z <;> simp [Z]
 ·cases Z
theorem HS(e:hT P E){c:Call}{X:Fr}{t0:TypeId}{aF:Value→Prop}(Z:uX E c X aF):
  ∃ v,aF v∧∀ aB,(do let aV ← resolve (cW X) c t0;invoke aV.target aV.args:Sem Next).run P aB=.ok (.value v) aB:=by
 obtain⟨callee,⟨args⟩,⟨pK⟩⟩:=c
 unfold uX at Z
 simp only at Z
 split at Z
 ·
  split at Z
  ·rename_i N aA t jD
   unfold wS at Z
   split at Z
   ·rename_i R fW L a n x b bW
    have hu:=oK (e.ty _ _ b)
    refine⟨_,Z,fun aB=>?_⟩
    simp [resolve,invoke,builtin,Builtin.len_,bW,g0 hu,goInt]
   ·rename_i fW L aH b bW
    have hu:=u3 (e.ty _ _ b)
    refine⟨_,Z,fun aB=>?_⟩
    simp [resolve,invoke,builtin,Builtin.len_,bW,g0 hu,goInt]
   ·cases Z
  ·cases Z
 ·
  split at Z
  ·rename_i N rest R
   obtain⟨v,bW,j⟩:=Dq (P:=P) Z
   refine⟨v,bW,fun aB=>?_⟩
   have d:(List.map (cW X) args)=N :: rest:=R
   simp [resolve,invoke,builtin,Builtin.max_,d,j]
  ·cases Z
 ·
  split at Z
  ·rename_i N rest R
   obtain⟨v,bW,j⟩:=Dr (P:=P) Z
   refine⟨v,bW,fun aB=>?_⟩
   have d:(List.map (cW X) args)=N :: rest:=R
   simp [resolve,invoke,builtin,Builtin.min_,d,j]
  ·cases Z
 ·
  rename_i f
  split at Z
  ·rename_i b
   split at Z
   ·rename_i N aP bI R
    obtain⟨⟨aZ,k,l,m⟩,Z⟩:=Z
    refine⟨_,Z,fun aB=>?_⟩
    obtain⟨fn,g,o,_,p⟩:=y5 e b
    obtain⟨q,h,r,s⟩:=e.ext _ _ b
    obtain rfl:fn=q:=by rw [g] at h;exact Option.some.inj h
    have d:(List.map (cW X) args)=[.int .u64 N,.int .u64 aP,.int .u64 bI]:=R
    have i:=run_callFunc_extern (P:=P) g o (p (by simp)) r s #[.int .u64 N,.int .u64 aP,.int .u64 bI] aB
    rw [run_add64 N aP bI aZ k l m] at i
    simp only [resolve,Deferred.ofValue,cW,pure_bind,invoke]
    have u:(#[] ++ Array.map (cW X) { toList:=args } ++ #[]:Array Value)=#[.int .u64 N,.int .u64 aP,.int .u64 bI]:=by simp [d]
    rw [u,i]
    rfl
   ·cases Z
  ·rename_i b
   split at Z
   ·rename_i N aP bI R
    obtain⟨⟨aZ,k,l,m,w⟩,Z⟩:=Z
    refine⟨_,Z,fun aB=>?_⟩
    obtain⟨fn,g,o,_,p⟩:=y5 e b
    obtain⟨q,h,r,s⟩:=e.ext _ _ b
    obtain rfl:fn=q:=by rw [g] at h;exact Option.some.inj h
    have d:(List.map (cW X) args)=[.int .u64 N,.int .u64 aP,.int .u64 bI]:=R
    have i:=run_callFunc_extern (P:=P) g o (p (by simp)) r s #[.int .u64 N,.int .u64 aP,.int .u64 bI] aB
    rw [HR N aP bI aZ k l m w] at i
    simp only [resolve,Deferred.ofValue,cW,pure_bind,invoke]
    have u:(#[] ++ Array.map (cW X) { toList:=args } ++ #[]:Array Value)=#[.int .u64 N,.int .u64 aP,.int .u64 bI]:=by simp [d]
    rw [u,i]
    rfl
   ·cases Z
  ·cases Z
 ·cases Z
end still
set_option linter.unusedSimpArgs false
structure gB(n:Nat)(X:Fr)(a:Act):Prop where
 size:a.tmps.size=n
 defers:a.defers=[]
 get:∀ t,a.tmps.getD t undef=X t
theorem gB.cW{n:Nat}{X:Fr}{a:Act}(Z:gB n X a):a.eval=cW X:=by
 funext N
 cases N with
 | tmp t=>exact Z.get t
 | _=>rfl
theorem gB.put{n:Nat}{X:Fr}{a:Act}(Z:gB n X a){aN:Oper}(b:pH n aN=true)(v:Value):gB n (kZ X aN.dst v) (a.put aN.dst v):=by
 unfold pH at b
 cases R:aN.dst with
 | none=>exact Z
 | some aV=>
  rw [R] at b
  have d:aV < n:=by simpa [Nat.blt_eq] using b
  refine⟨by simp [Act.put,Z.size],by simp [Act.put,Z.defers],fun t=>?_⟩
  simp only [Act.put,kZ,kC]
  rw [Array.getD_eq_getD_getElem?,Array.getElem?_setIfInBounds]
  cases c:Nat.beq t aV with
  | true=>
   obtain rfl:=Nat.eq_of_beq_eq_true c
   have:t < a.tmps.size:=by rw [Z.size];exact d
   simp [this]
  | false=>
   have:aV ≠ t:=fun R=>by subst R;simp at c
   rw [if_neg this,← Array.getD_eq_getD_getElem?,Z.get t]
   rfl
section
variable {P:Program} {E:Env}
theorem A6(d:hT P E){aN:Oper}{X:Fr}{Z:U}{aF:Value→Prop}(b:h5 E aN.op X Z aF):
  ∃ v,aF v∧∀ aB:World,(∀ t a aE,aN.op=.load t a→cW X a=.pointer (some aE)→aB.heap[aE.block]?=Z[aE.block]?)→(execOp (cW X) aN).run P aB=.ok (.value v) aB:=by
 obtain⟨dst,op,type,pos,after,guard⟩:=aN
 simp only at b
 cases op with
 | move N=>exact⟨_,b,fun aB _=>rfl⟩
 | assign N=>exact⟨_,b,fun aB _=>rfl⟩
 | pick c a L=>
  simp only [h5] at b
  split at b
  ·rename_i t o
   cases t with
   | true=>exact⟨_,b,fun aB _=>by simp [execOp,o,Go.asBool]⟩
   | false=>exact⟨_,b,fun aB _=>by simp [execOp,o,Go.asBool]⟩
  ·cases b
 | load t a=>
  simp only [h5] at b
  split at b
  ·rename_i aE O D r
   obtain⟨v,bW,g⟩:=Dm d r b
   exact⟨v,bW,fun aB I=>by simp [execOp,D,g aB (I _ _ _ rfl D)]⟩
  ·cases b
 | binOp op t N aP PG=>
  obtain⟨v,bW,g⟩:=HJ d (a2:=N) (bK:=aP) b
  exact⟨v,bW,fun aB _=>by
   have:=g aB
   simp only [execOp,Sem.run_bind] at this ⊢
   rw [this];rfl⟩
 | unOp op t N=>
  obtain⟨v,bW,g⟩:=HK (P:=P) b
  exact⟨v,bW,fun aB _=>by simp [execOp,g aB]⟩
 | convert aH aV N=>
  simp only [h5] at b
  split at b
  ·rename_i PH PI PJ S fW L cS n aZ h p
   have eE:=AY (d.ty _ _ aZ)
   have J:=AY (d.ty _ _ h)
   exact⟨_,b.out,fun aB _=>by simp [execOp,convert,g0 eE,g0 J,p,Conv.intToInt]⟩
  ·cases b
 | indexAddr t N O=>
  simp only [h5] at b
  split at b
  ·rename_i R fW L a l c S n aZ h p
   split at b
   ·rename_i F s
    have eE:=oK (d.ty _ _ aZ)
    obtain⟨inf,a4,bM,_⟩:=pI (d.ty _ _ s)
    rw [← bM] at b
    obtain⟨aE,y,g⟩:=HL eE a4 (c:=c) (S:=S) b
    exact⟨_,y,fun aB _=>by simp [execOp,h,p,g aB]⟩
   ·cases b
  ·rename_i aE S n h p
   split at b
   ·rename_i m R Q
    split at b
    ·rename_i F s
     have eE:=d.arr _ _ Q
     obtain⟨inf,a4,bM,_⟩:=pI (d.ty _ _ s)
     rw [← bM] at b
     obtain⟨PK,y,g⟩:=HM eE a4 (S:=S) b
     exact⟨_,y,fun aB _=>by simp [execOp,h,p,g aB]⟩
    ·cases b
   ·cases b
  ·cases b
 | index t N O=>
  simp only [h5] at b
  split at b
  ·rename_i fW L aH S n aZ h p
   have eE:=u3 (d.ty _ _ aZ)
   obtain⟨aX,b⟩:=b
   split at b
   ·rename_i c z
    exact⟨_,b,fun aB _=>by simp [execOp,h,p,Instr.index,asIntOf,g0 eE,aX,z]⟩
   ·cases b
  ·cases b
 | extract N O=>
  simp only [h5] at b
  split at b
  ·rename_i bV A
   split at b
   ·rename_i v bW
    have B:bV[O]?=some v:=by simpa using bW
    exact⟨v,b,fun aB _=>by simp [execOp,A,Instr.extract,B]⟩
   ·cases b
  ·cases b
 | fieldAddr aH N f=>
  simp only [h5] at b
  split at b
  ·rename_i aE eL fW L aZ h
   split at b
   ·rename_i off t i
    split at b
    ·rename_i O a4
     cases q:Nat.beq O.leaves.length 0 with
     | true=>simp [q] at b
     | false=>
      simp only [q,cond_false] at b
      obtain⟨j,cU,R⟩:=AZ (by rintro rfl;simp at i) (d.ty _ _ h)
      subst R
      have C:∃ e,j[f]?=some e∧e.offset=off∧e.type=t:=by
       rw [List.getElem?_map] at i
       cases k:j.toList[f]? with
       | none=>simp [k] at i
       | some e=>simp [k] at i;exact⟨e,by simpa using k,i.1,i.2⟩
      obtain⟨e,x,rfl,rfl⟩:=C
      exact⟨_,b,fun aB _=>by
       obtain⟨inf,u,bM,_⟩:=pI (d.ty _ _ a4)
       have T:¬ inf.size=0:=by rw [bM];intro V;rw [V] at q;simp at q
       simp [execOp,aZ,Instr.fieldAt,g0 cU,x,Instr.sureAddr,fieldPlace,k1 u,T]⟩
    ·cases b
   ·cases b
  ·cases b
 | field t N f=>
  simp only [h5] at b
  split at b
  ·rename_i c2 eL fW L aZ h
   split at b
   ·rename_i off Pt i
    obtain⟨j,cU,R⟩:=AZ (by rintro rfl;simp at i) (d.ty _ _ h)
    subst R
    have C:∃ e,j[f]?=some e∧e.offset=off∧e.type=Pt:=by
     rw [List.getElem?_map] at i
     cases k:j.toList[f]? with
     | none=>simp [k] at i
     | some e=>simp [k] at i;exact⟨e,by simpa using k,i.1,i.2⟩
    obtain⟨e,x,rfl,rfl⟩:=C
    split at b
    ·rename_i PL G eM r
     have o:=d.ty _ _ r
     obtain⟨inf,u,bM,_⟩:=pI o
     refine⟨_,b,fun aB _=>?_⟩
     simp only at bM
     have Pu:c2.extract e.offset (e.offset+inf.size)=((c2.toList.drop e.offset).take G.length).toArray:=by
      apply Array.ext'
      simp [bM]
     simp [execOp,aZ,Instr.field,g0 cU,x,eG,part,Db o,k1 u,Pu,Go.asAgg]
    ·cases b
    ·rename_i O Pv PM r
     split at b
     ·rename_i v bW
      have B:c2[e.offset]?=some v:=by simpa using bW
      have bM:O.ty.u4=false:=by
       obtain⟨ty,G,eM⟩:=O
       cases ty <;> first | rfl | exact absurd rfl (Pv _ _ _)
      refine⟨v,b,fun aB _=>?_⟩
      simp [execOp,aZ,Instr.field,g0 cU,x,part,Da (d.ty _ _ r) bM,B,Go.asAgg]
     ·cases b
    ·cases b
   ·cases b
  ·cases b
 | build t parts=>
  simp only [h5] at b
  split at b
  ·rename_i eL fW L aZ
   cases w:(!eL.isEmpty && sQ E eL) with
   | false=>simp [w] at b
   | true=>
    simp only [w,cond_true] at b
    have Pw:sQ E eL=true:=by simp only [Bool.and_eq_true] at w;exact w.2
    have Px:eL ≠ []:=by rintro rfl;simp at w
    split at b
    ·rename_i cells z
     refine⟨_,b,fun aB _=>?_⟩
     have o:=d.ty _ _ aZ
     obtain⟨j,cU,R⟩:=AZ Px o
     subst R
     obtain⟨inf,a4,bM,PN,bI,q,Py⟩:=u5 o rfl
     have H:=Dp Pw
     have Pz:∀ f ∈ j.toList,∃ inf,P.info? f.type=some inf:=by
      intro f i
      obtain⟨O,a4⟩:=H (f.offset,f.type) (List.mem_map.2 ⟨f,i,rfl⟩)
      obtain⟨inf,aZ,_⟩:=pI (d.ty _ _ a4)
      exact⟨inf,aZ⟩
     have PA:=HP (P:=P) Pz aB
     have PB:(j.mapM fun (f:Field)=>(do pure (f.offset,← sizeOf f.type):Sem (Nat × Nat))).run P aB=.ok (j.toList.map fun f=>(f.offset,P.cellsOf f.type)).toArray aB:=by
      rw [Array.mapM_eq_mapM_toList,Sem.run_map,PA];rfl
     have PC:∀ aC,((j.toList.map fun f=>(f.offset,P.cellsOf f.type)).toArray)[aC]?=AW E (j.toList.map fun f=>(f.offset,f.type)) aC:=by
      intro aC
      unfold AW
      rw [List.getElem?_map]
      cases k:j.toList[aC]? with
      | none=>simpa using k
      | some f=>
       obtain⟨O,a4⟩:=H (f.offset,f.type) (List.mem_map.2 ⟨f,List.mem_of_getElem? k,rfl⟩)
       have:P.cellsOf f.type=O.leaves.length:=HQ (d.ty _ _ a4)
       simp at k
       simp [k,a4,this]
     have PD:=A4 PC _ _ _ z
     simp only [execOp,Sem.run_bind,Instr.build,u6 a4 q,Result.andThen,g0 cU,PB]
     have PE:bI.cells=(fW.map hS.zero).toArray:=by apply Array.ext';simpa [dQ.a6] using Py
     rw [PE]
     have PF:(Array.map (fun (N:Nat × Operand)=>match N with | (O,N)=>(O,cW X N)) parts).toList=parts.toList.map fun (O,N)=>(O,cW X N):=by simp
     rw [PF,PD]
     rfl
    ·cases b
  ·cases b
 | nilCheck N=>
  simp only [h5] at b
  split at b
  ·rename_i aE A
   exact⟨_,b,fun aB _=>by simp [execOp,A]⟩
  ·cases b
 | slice t N bY a4 PO=>
  simp only [h5] at b
  split at b
  ·rename_i R fW L a l c aZ h
   split at b
   ·rename_i F s
    have eE:=oK (d.ty _ _ aZ)
    obtain⟨inf,u,bM,_⟩:=pI (d.ty _ _ s)
    rw [← bM] at b
    obtain⟨v,bW,g⟩:=HN eE u b
    exact⟨v,bW,fun aB _=>by simp [execOp,h,g aB]⟩
   ·cases b
  ·rename_i fW L aH aZ h
   split at b
   ·have eE:=u3 (d.ty _ _ aZ)
    obtain⟨v,bW,g⟩:=HO eE b
    exact⟨v,bW,fun aB _=>by simp [execOp,h,g aB]⟩
   ·cases b
  ·cases b
 | call c=>
  obtain⟨v,bW,g⟩:=HS d (t0:=type) b
  exact⟨v,bW,fun aB _=>g aB⟩
 | _=>exact b.elim
end
set_option linter.unusedSimpArgs false
theorem add_zero(aE:Addr):aE.add 0=aE:=by simp [Addr.add]
theorem HT{Z:U}{a aE:Addr}{v aN:Value}(b:gP Z aE=some aN):∃ fO,gP (gQ Z a v) aE=some fO:=by
 unfold gP gQ at *
 rw [Array.getElem?_modify]
 split at b
 ·rename_i c R f e
  by_cases g:a.block=aE.block
  ·rw [if_pos g,e]
   simp only [Option.map_some]
   by_cases bM:aE.spot.isSome=true
   ·simp [bM] at b
   ·simp only [bM] at b ⊢
    have h:aE.off < c.size:=by
     rcases Nat.lt_or_ge aE.off c.size with d | d
     ·exact d
     ·simp [Array.getElem?_eq_none d] at b
    cases a.spot.isSome with
    | true=>exact⟨aN,by simpa using b⟩
    | false=>simp only [Bool.false_eq_true,if_false];rw [Array.getElem?_setIfInBounds];split <;> simp_all
  ·rw [if_neg g,e];exact⟨aN,b⟩
 ·cases b
theorem HU(Z:U)(a aE:Addr)(v:Value):mB (gQ Z a v) aE=mB Z aE:=by
 unfold mB gQ
 rw [Array.getElem?_modify]
 by_cases b:a.block=aE.block
 ·rw [if_pos b]
  cases d:Z[aE.block]? with
  | none=>rfl
  | some c=>cases c <;> rfl
 ·rw [if_neg b]
theorem Ds{Z:U}{p a:Addr}{v:Value}:∀ {n O:Nat},pA Z p O n→pA (gQ Z a v) p O n
 | 0,_,_=>trivial
 | n+1,O,bM=>by
  obtain⟨⟨⟨aN,b⟩,c⟩,d⟩:=bM
  exact⟨⟨HT b,by rw [HU];exact c⟩,Ds d⟩
section
variable {P:Program} {E:Env}
theorem Dt{aE:Addr}:∀ {l:List Value} {O:Nat} {aB:World} {aF:U→Prop},sR aB.heap aE O l aF→∃ cI,(storeCells aE l O).run P aB=.ok () cI∧eR aB cI∧aF cI.heap
 | [],O,aB,aF,Z=>⟨aB,rfl,eR.refl aB,Z⟩
 | v :: bV,O,aB,aF,Z=>by
  unfold sR at Z
  cases a:m2 v with
  | false=>simp [a] at Z
  | true=>
   simp only [a,cond_true] at Z
   obtain⟨⟨aZ,b⟩,c⟩:=Z
   have d:=A1 (P:=P) aZ b a
   obtain⟨cI,r,aH,S⟩:=Dt (aB:=aB.setCell (aE.add O) v) c
   exact⟨cI,by simp only [storeCells,Sem.run_bind,d,Result.andThen,r],eR.trans (L:=aB.setCell _ v) ⟨rfl,rfl,rfl⟩ aH,S⟩
theorem y6{p:Addr}:∀ {bV:List Value} {O:Nat} {aB:World},pA aB.heap p O bV.length→(∀ v ∈ bV,m2 v=true)→
  ∃ cI,(storeCells p bV O).run P aB=.ok () cI∧eR aB cI∧cI.heap=j0 aB.heap p O bV
 | [],O,aB,_,_=>⟨aB,rfl,eR.refl aB,rfl⟩
 | v :: bV,O,aB,Z,a=>by
  obtain⟨⟨aZ,b⟩,c⟩:=Z
  have d:=A1 (P:=P) aZ b (a v (by simp))
  obtain⟨cI,r,aH,S⟩:=y6 (aB:=aB.setCell (p.add O) v) (O:=O+1) (bV:=bV) (Ds c) (fun N e=>a N (by simp [e]))
  exact⟨cI,by simp only [storeCells,Sem.run_bind,d,Result.andThen,r],eR.trans (L:=aB.setCell _ v) ⟨rfl,rfl,rfl⟩ aH,S⟩
theorem wZ(a6:List Value):∀ n,(h6 a6 n).length=n*a6.length
 | 0=>by simp [h6]
 | n+1=>by simp [h6,wZ a6 n,Nat.succ_mul];omega
theorem Du(a6:List Value):∀ n O,O < n*a6.length→(h6 a6 n)[O]?=a6[O % a6.length]?
 | 0,O,Z=>by simp at Z
 | n+1,O,Z=>by
  simp only [h6]
  by_cases a4:O < a6.length
  ·rw [List.getElem?_append_left a4,Nat.mod_eq_of_lt a4]
  ·have a:a6.length≤O:=by omega
   rw [List.getElem?_append_right a,Du a6 n (O - a6.length) (by rw [Nat.succ_mul] at Z;omega)]
   congr 1
   rw [Nat.mod_eq_sub_mod a]
theorem A7(a6:List Value)(n m:Nat)(c:m=n*a6.length)(bI:Array Value)(d:bI=a6.toArray):(Array.range m).map (fun O=>bI[O % bI.size]!)=(h6 a6 n).toArray:=by
 subst d;subst c
 apply Array.ext
 ·simp [wZ]
 ·intro O aZ h
  simp only [Array.size_map,Array.size_range] at aZ
  simp only [Array.getElem_map,Array.getElem_range]
  have e:0 < a6.length:=by
   rcases Nat.eq_zero_or_pos a6.length with Z | Z
   ·rw [Z] at aZ;simp at aZ
   ·exact Z
  have a:O % a6.length < a6.length:=Nat.mod_lt _ e
  have b:=Du a6 n O aZ
  rw [List.getElem?_eq_getElem a,List.getElem?_eq_getElem (by rw [wZ];exact aZ)] at b
  have f:=Option.some.inj b
  have g:O % a6.toArray.size < a6.toArray.size:=by simpa using a
  rw [getElem!_pos a6.toArray _ g]
  simp [f]
theorem Dv(a6:List Value)(n m:Nat)(a:m=n*a6.length)(bI:Array Value)(b:m ≠ 0→bI=a6.toArray):(Array.range m).map (fun O=>bI[O % bI.size]!)=(h6 a6 n).toArray:=by
 by_cases aX:m=0
 ·subst aX
  have:(h6 a6 n).length=0:=by rw [wZ];exact a.symm
  rw [List.length_eq_zero_iff] at this
  rw [this];simp
 ·exact A7 a6 n m a bI (b aX)
theorem A8(O:dQ):O.a6.length=O.leaves.length:=by simp [dQ.a6]
theorem y7{aB:World}{fI:Nat}{N:Value}{n:Nat}{c2:List Value}(Z:wT aB.heap fI N n c2):(Builtin.firstCells fI n N).run P aB=.ok c2.toArray aB:=by
 obtain⟨a,_,Z⟩:=Z
 split at Z
 ·have b:=y3 (P:=P) c2 _ 0 #[] aB Z
  simp only [Builtin.firstCells,loadCells,← a,b]
  simp
 ·subst Z;rfl
 ·subst Z
  simp only [Builtin.firstCells,Sem.run_pure]
  congr 1
  apply Array.ext'
  simp
 ·cases Z
theorem Dw{N:Value}{n:Nat}(Z:yZ N=some n)(aB:World):(Builtin.lenOf N).run P aB=.ok n aB:=by
 unfold yZ at Z
 split at Z <;> simp_all [Builtin.lenOf]
theorem HV(b:hT P E){t:TypeId}(Z:uZ E t=true):(∃ R,P.underlying t=some (.slice R))∨P.underlying t=some .string:=by
 unfold uZ at Z
 split at Z
 ·rename_i a;exact .inl ⟨_,oK (b.ty _ _ a)⟩
 ·rename_i a;exact .inr (u3 (b.ty _ _ a))
 ·cases Z
set_option maxHeartbeats 2000000 in
theorem HW(h:hT P E){t o R ty:TypeId}{O:dQ}{fW:List hS}{L:Nat}(aZ:look E.types t=some ⟨.slice R,fW,L⟩)(y:look E.types R=some O)(z:uZ E o=true)
  (A:O.ty.isTuple=false) {a:M} {l c:Nat} {N:Value} {aB:World} {aF:Value→U→Prop} (B:hF aB.heap R O a l c N fun a l c K=>aF (.slice a l c) K) :
  ∃ v cI,(Builtin.append_ #[t,o] ty #[.slice a l c,N]).run P aB=.ok v cI∧eR aB cI∧aF v cI.heap:=by
 have eE:=oK (h.ty _ _ aZ)
 obtain⟨inf,a4,bM,q,bI,C,D⟩:=u5 (h.ty _ _ y) A
 have s:bI.cells=O.a6.toArray:=by apply Array.ext';simpa using D
 have i:=HV h z
 obtain⟨n,c2,F,j,f,G⟩:=B
 have k:=fun H=>Dw (P:=P) F H
 by_cases e:l+n≤c
 ·have f:=f e
  have g:(Builtin.firstCells inf.size n N).run P aB=.ok c2.toArray aB:=y7 (by rw [bM];exact j)
  cases a with
  | none=>
   refine⟨_,aB,?_,eR.refl aB,f⟩
   rcases i with ⟨u,b⟩ | b <;>
    simp [Builtin.append_,g0 eE,g0 b,k1 a4,k,e,g]
  | some p=>
   obtain⟨I,m⟩:=f
   obtain⟨cI,r,aH,J⟩:=y6 (P:=P) I j.2.1
   refine⟨_,cI,?_,aH,by rw [J];exact m⟩
   rw [← bM] at r
   rcases i with ⟨u,b⟩ | b <;>
    simp [Builtin.append_,g0 eE,g0 b,k1 a4,k,e,g,r]
 ·obtain⟨Px,Py,Pz,w,Q,m⟩:=G e
  have g:(Builtin.firstCells inf.size n N).run P aB.drew=.ok c2.toArray aB.drew:=y7 (by rw [bM];exact j)
  have T:(Builtin.firstCells inf.size l (.slice a l c)).run P aB.drew=.ok w.toArray aB.drew:=y7 (by rw [bM];exact Q)
  have V:inf.bytes ≠ 0:=by rw [q];omega
  have Pt:¬ 281474976710656 < Builtin.nextslicecap (l+n) c*inf.bytes:=by rw [q];omega
  obtain⟨d,x⟩:∃ d,d=Question.cut (.appendCap (l+n) c R) (aB.tape aB.drawn (.appendCap (l+n) c R)):=⟨_,rfl⟩
  have Pu:l+n≤d:=by rw [x];simp only [Question.cut];omega
  have Pv:Builtin.zeroCells bI.cells (d - (l+n))=(h6 O.a6 (d - (l+n))).toArray:=by
   unfold Builtin.zeroCells
   exact A7 O.a6 _ _ (by rw [s];simp) _ s
  have Pw:(Question.appendCap (l+n) c R).forced=false:=rfl
  refine⟨_,aB.drew.alloc (.cells (w ++ (c2 ++ h6 O.a6 (d - (l+n)))).toArray R (0,0)),?_,⟨rfl,rfl,rfl⟩,m d Pu⟩
  rcases i with ⟨u,b⟩ | b <;>
   simp [Builtin.append_,g0 eE,g0 b,k1 a4,k,e,A0 a4,V,Pt,T,g,u6 a4 C,newRow,Pv,Pw,← x]
theorem HX(d:hT P E){t R ty:TypeId}{pK:List TypeId}{O:dQ}{fW:List hS}{L:Nat}(aZ:look E.types t=some ⟨.slice R,fW,L⟩)(i:look E.types R=some O)
  {a:M} {l c:Nat} {N:Value} {aB:World} {aF:Value→U→Prop} (b:m3 aB.heap O.leaves.length a l N fun n K=>aF (.int .i64 n) K) :
  ∃ v cI,(Builtin.copy_ (t :: pK).toArray ty #[.slice a l c,N]).run P aB=.ok v cI∧eR aB cI∧aF v cI.heap:=by
 have eE:=oK (d.ty _ _ aZ)
 obtain⟨inf,a4,bM,_⟩:=pI (d.ty _ _ i)
 obtain⟨n,c2,j,e,b⟩:=b
 have f:=fun k=>Dw (P:=P) j k
 have g:(Builtin.firstCells inf.size (Nat.min n l) N).run P aB=.ok c2.toArray aB:=y7 (by rw [bM];exact e)
 have h:min n l=Nat.min n l:=rfl
 cases a with
 | none=>
  refine⟨_,aB,?_,eR.refl aB,b⟩
  simp [Builtin.copy_,g0 eE,k1 a4,f,g,goInt,h]
 | some p=>
  obtain⟨m,o⟩:=b
  obtain⟨cI,r,aH,q⟩:=y6 (P:=P) m e.2.1
  refine⟨_,cI,?_,aH,by rw [q];exact o⟩
  simp [Builtin.copy_,g0 eE,k1 a4,f,g,goInt,r,h]
theorem HY(O:dQ):∀ v ∈ O.a6,m2 v=true:=by
 intro v bW
 obtain⟨S,_,rfl⟩:=List.mem_map.1 bW
 cases S <;> rfl
theorem Dx{a6:List Value}(Z:∀ v ∈ a6,m2 v=true):∀ n,∀ v ∈ h6 a6 n,m2 v=true
 | 0,v,bW=>by simp [h6] at bW
 | n+1,v,bW=>by
  simp only [h6,List.mem_append] at bW
  rcases bW with bW | bW
  ·exact Z v bW
  ·exact Dx Z n v bW
theorem HZ(d:hT P E){t R ty:TypeId}{O:dQ}{fW:List hS}{L:Nat}(aZ:look E.types t=some ⟨.slice R,fW,L⟩)(f:look E.types R=some O)(g:O.ty.isTuple=false)
  {a:M} {l c:Nat} {aB:World} {aF:Value→U→Prop} (b:y0 aB.heap O a l fun K=>aF (.tuple #[]) K) :
  ∃ v cI,(Builtin.clear_ #[t] ty #[.slice a l c]).run P aB=.ok v cI∧eR aB cI∧aF v cI.heap:=by
 have eE:=oK (d.ty _ _ aZ)
 obtain⟨inf,a4,bM,q,bI,h,i⟩:=u5 (d.ty _ _ f) g
 have e:bI.cells=O.a6.toArray:=by apply Array.ext';simpa using i
 cases a with
 | none=>exact⟨_,aB,by simp [Builtin.clear_,g0 eE],eR.refl aB,b⟩
 | some p=>
  cases l with
  | zero=>exact⟨_,aB,by simp [Builtin.clear_,g0 eE],eR.refl aB,b⟩
  | succ l=>
   obtain⟨j,k⟩:=b
   have m:(h6 O.a6 (l+1)).length=(l+1)*O.leaves.length:=by rw [wZ,A8]
   obtain⟨cI,r,aH,n⟩:=y6 (P:=P) (bV:=h6 O.a6 (l+1)) (by rw [m];exact j) (Dx (HY O) _)
   have o:Builtin.zeroCells bI.cells (l+1)=(h6 O.a6 (l+1)).toArray:=by
    unfold Builtin.zeroCells
    exact A7 O.a6 _ _ (by rw [e];simp) _ e
   refine⟨_,cI,?_,aH,by rw [n];exact k⟩
   simp [Builtin.clear_,g0 eE,u6 a4 h,o,r]
theorem H0(b:hT P E){t R:TypeId}{O:dQ}{fW:List hS}{L:Nat}(aZ:look E.types t=some ⟨.slice R,fW,L⟩)(g:look E.types R=some O)(h:O.ty.isTuple=false)
  {S cS:IntKind} {n m:Int} {aB:World} {aF:Value→U→Prop} (i:iI aB.heap R O n m fun p K=>aF (.slice (some p) n.toNat m.toNat) K) :
  ∃ v cI,(Instr.makeSlice t (.int S n) (.int cS m)).run P aB=.ok v cI∧eR aB cI∧aF v cI.heap:=by
 have eE:=oK (b.ty _ _ aZ)
 obtain⟨inf,a4,bM,j,bI,k,l⟩:=u5 (b.ty _ _ g) h
 have o:bI.cells=O.a6.toArray:=by apply Array.ext';simpa using l
 obtain⟨⟨w,q,x,y⟩,r⟩:=i
 have z:m≤281474976710656:=by
  have:(1:Int)*m≤(O.bytes:Int)*m:=Int.mul_le_mul_of_nonneg_right (by omega) (by omega)
  omega
 have A:¬ (O.bytes:Int)*n > 281474976710656:=by
  have:(O.bytes:Int)*n≤(O.bytes:Int)*m:=Int.mul_le_mul_of_nonneg_left q (by omega)
  omega
 have c:IntKind.i64.wrap n=n:=by simp [IntKind.wrap,IntKind.bits,IntKind.signed];omega
 have d:IntKind.i64.wrap m=m:=by simp [IntKind.wrap,IntKind.bits,IntKind.signed];omega
 have e:∀ aP:Array Value,(m.toNat*inf.size ≠ 0→aP=bI.cells)→(Array.range (m.toNat*inf.size)).map (fun aC=>aP[aC % aP.size]!)=(h6 O.a6 m.toNat).toArray:=by
  intro aP s
  exact Dv O.a6 _ _ (by rw [bM,A8]) _ fun Z=>by rw [s Z,o]
 refine⟨_,{ aB with heap:=aB.heap.push (.cells (h6 O.a6 m.toNat).toArray R (0,0)) },?_,⟨rfl,rfl,rfl⟩,r⟩
 have aG:¬ m < 0:=by omega
 have bG:¬ (281474976710656:Int) < (inf.bytes:Int)*m:=by rw [j];omega
 have cR:¬ n < 0:=by omega
 have eF:¬ n > m:=by omega
 have f:¬ m < n:=by omega
 by_cases aX:m.toNat*inf.size=0
 ·have a:=e #[] (fun Z=>absurd aX Z)
  rw [aX] at a
  have u:(h6 O.a6 m.toNat).toArray=#[]:=by rw [← a];simp
  simp only [Instr.makeSlice,Sem.run_bind,g0 eE,Result.andThen,Go.asInt,asIntOf,Sem.run_pure,A0 a4,c,d]
  simp [aG,bG,cR,eF,f,k1 a4,aX,newRow,u,Array.range_zero']
 ·have a:=e bI.cells (fun _=>rfl)
  simp only [Instr.makeSlice,Sem.run_bind,g0 eE,Result.andThen,Go.asInt,asIntOf,Sem.run_pure,A0 a4,c,d]
  simp [aG,bG,cR,eF,f,k1 a4,aX,u6 a4 k,newRow,a]
theorem H2{aB:World}{aE:Addr}{t0:TypeId}{d:Int→Int→U→Prop}{e:Prop}(f:y1 aB.heap aE d e):
  (∃ O c cI,(Instr.next (.pointer (some aE)) true t0).run P aB=.ok (.tuple #[.bool true,.int .i64 O,.int .i32 c]) cI∧eR aB cI∧d O c cI.heap)∨
  ((Instr.next (.pointer (some aE)) true t0).run P aB=.ok (.tuple #[.bool false]) aB∧e):=by
 obtain⟨L,off,h⟩:=aE
 obtain⟨aX,aH,pos,b,b3,g⟩:=f
 dsimp only at aX b b3
 subst aX
 by_cases a:pos < aH.size
 ·refine .inl ⟨_,_,{ aB with heap:=C5 aB.heap L aH (pos+(Utf8.decode aH pos).2) },?_,⟨rfl,rfl,rfl⟩,b3 a⟩
  simp only [Instr.next,getObj,setObj,Sem.run_bind,Sem.run,b,Result.andThen,a,if_true]
  rfl
 ·refine .inr ⟨?_,g a⟩
  simp [Instr.next,getObj,Sem.run,b,a]
theorem H3{aB:World}{a:M}{l c:Nat}{aF:ByteArray→Prop}(b:y2 aB.heap a l aF):∃ aH,(Conv.bytesToString (.slice a l c)).run P aB=.ok (.string aH) aB∧aF aH:=by
 cases a with
 | none=>exact⟨_,rfl,b⟩
 | some p=>
  obtain⟨d,e,f,g⟩:=b
  refine⟨_,?_,g⟩
  have aZ:=y3 (P:=P) (d.map fun L=>Value.int .u8 L.toNat) p 0 #[] aB f
  rw [List.length_map,e] at aZ
  have h:∀ (l:List UInt8) (aH:ByteArray),List.foldl (fun (L:ByteArray) (a:UInt8)=>L.push a) aH l=⟨aH.data ++ l.toArray⟩:=by
   intro l
   induction l with
   | nil=>intro aH;simp
   | cons N l bU=>intro aH;rw [List.foldl_cons,bU];simp [ByteArray.push]
  simp [Conv.bytesToString,loadCells,aZ,h]
def nU(P:Program)(aN:Oper)(a:Act)(aB:World)(v:Value):Prop:=(execOp a.eval aN).run P aB=.ok (.value v) aB
def A9(P:Program)(aN:Oper)(a:Act)(aB:World)(v:Value):Prop:=
 ∃ f args,(execOp a.eval aN).run P aB=.ok (.enter f args) aB∧Calls P f args aB (fun R cI=>R=.returned v∧eR aB cI∧cI.heap=aB.heap)
def mC(P:Program)(aN:Oper)(a:Act)(aB:World)(b:Value→U→Prop):Prop:=
 (∃ v cI,(execOp a.eval aN).run P aB=.ok (.value v) cI∧eR aB cI∧b v cI.heap)∨
 (∃ cI,(execOp a.eval aN).run P aB=.ok .skip cI∧eR aB cI∧b undef cI.heap)∨
 (∃ f args,(execOp a.eval aN).run P aB=.ok (.enter f args) aB∧Calls P f args aB (fun R cI=>∃ v,R=.returned v∧eR aB cI∧b v cI.heap))
theorem mC.mono{aN:Oper}{a:Act}{aB:World}{d e:Value→U→Prop}(b:∀ v Z,d v Z→e v Z)(Z:mC P aN a aB d):mC P aN a aB e:=by
 rcases Z with ⟨v,cI,r,aH,S⟩ | ⟨cI,r,aH,S⟩ | ⟨f,args,r,c⟩
 ·exact .inl ⟨v,cI,r,aH,b _ _ S⟩
 ·exact .inr (.inl ⟨cI,r,aH,b _ _ S⟩)
 ·exact .inr (.inr ⟨f,args,r,c.mono fun _ _ ⟨v,R,aH,S⟩=>⟨v,R,aH,b _ _ S⟩⟩)
theorem mC.some{aN:Oper}{a:Act}{aB:World}{b:Value→U→Prop}(Z:mC P aN a aB b):∃ v K,b v K:=by
 rcases Z with ⟨v,cI,r,aH,S⟩ | ⟨cI,r,aH,S⟩ | ⟨f,args,r,c⟩
 ·exact⟨v,_,S⟩
 ·exact⟨_,_,S⟩
 ·obtain⟨R,cI,X,⟨v,_,_,S⟩,_⟩:=c []
  exact⟨v,_,S⟩
theorem mC.wp{aN:Oper}{a:Act}{aB:World}{d:Value→U→Prop}(Z:mC P aN a aB d){next:Act→World→Prop}{Q:Exit→Act→World→Prop}
  (b:∀ v cI,eR aB cI→d v cI.heap→next (a.put aN.dst v) cI):aN.wp P a aB next Q:=by
 unfold Oper.wp
 rcases Z with ⟨v,cI,r,aH,S⟩ | ⟨cI,r,aH,S⟩ | ⟨f,args,r,c⟩
 ·rw [r];exact b v cI aH S
 ·rw [r];exact b _ cI aH S
 ·rw [r,Oper.upon_enter]
  refine c.mono ?_
  rintro R cI ⟨v,rfl,aH,S⟩
  exact b v cI aH S
theorem Ba(g:hT P E){aN:Oper}{X:Fr}{a:Act}(x:a.eval=cW X){aB:World}{aF:Value→U→Prop}(b:jF P E aN.op aN.type X aB.heap aF):mC P aN a aB aF:=by
 have value:∀ v cI,(execOp (cW X) aN).run P aB=.ok (.value v) cI→eR aB cI→aF v cI.heap→mC P aN a aB aF:=by
  intro v cI p aH S
  exact .inl ⟨v,cI,by rw [x];exact p,aH,S⟩
 obtain⟨dst,op,type,pos,after,guard⟩:=aN
 simp only at b
 cases op with
 | range t N=>
  simp only [jF] at b
  split at b
  ·rename_i fW L aH d k
   have eE:=u3 (g.ty _ _ d)
   refine value _ { aB with heap:=aB.heap.push (.stringIter aH 0) } ?_ ⟨rfl,rfl,rfl⟩ b
   simp [execOp,k,Instr.range,g0 eE]
  ·cases b
 | next N L=>
  cases L with
  | false=>exact b.elim
  | true=>
   simp only [jF,cond_true] at b
   split at b
   ·rename_i aE k
    rcases H2 (P:=P) (t0:=type) b with ⟨O,c,cI,r,aH,S⟩ | ⟨r,S⟩
    ·exact value _ cI (by simp [execOp,k,r]) aH S
    ·exact value _ aB (by simp [execOp,k,r]) ⟨rfl,rfl,rfl⟩ S
   ·cases b
 | convert aH aV N=>
  simp only [jF] at b
  split at b
  ·rename_i R fW L PK PL y l o J Q k
   split at b
   ·rename_i PM gN T
    have eE:=oK (g.ty _ _ J)
    have V:=u3 (g.ty _ _ Q)
    have Pt:=AY (g.ty _ _ T)
    obtain⟨aH,r,S⟩:=H3 (P:=P) (c:=o) b
    refine value _ aB ?_ ⟨rfl,rfl,rfl⟩ S
    simp [execOp,k,convert,g0 eE,g0 V,g0 Pt,r]
   ·cases b
  ·cases b
 | store t N v=>
  simp only [jF] at b
  split at b
  ·rename_i aE O k d
   obtain⟨inf,a4,bM,_⟩:=pI (g.ty _ _ d)
   have run:∀ cI,(storeCells aE (cW X v).cells.toList).run P aB=.ok () cI→(cW X v).cells.size=inf.size→eR aB cI→aF undef cI.heap→mC P ⟨dst,.store t N v,type,pos,after,guard⟩ a aB aF:=by
    intro cI p Pu aH S
    refine .inr (.inl ⟨cI,?_,aH,S⟩)
    rw [x]
    simp [execOp,k,Instr.storeAt,Instr.sureAddr,storeVar,k1 a4,Pu,p]
   unfold uY at b
   split at b
   ·rename_i c2 bW
    cases e:Nat.beq c2.toList.length O.leaves.length with
    | false=>rw [e] at b;cases b
    | true=>
     rw [e] at b
     simp only [cond_true] at b
     obtain⟨cI,r,aH,S⟩:=Dt (P:=P) b
     have:=Nat.eq_of_beq_eq_true e
     exact run cI (by rw [bW];exact r) (by rw [bW,bM,← this];simp [Value.cells]) aH S
   ·cases b
   ·rename_i PN s F
    cases e:Nat.beq 1 O.leaves.length with
    | false=>rw [e] at b;cases b
    | true=>
     rw [e] at b
     simp only [cond_true] at b
     obtain⟨⟨Pv,Pw⟩,Px⟩:=b
     have Py:m2 (cW X v)=true:=by
      cases R:cW X v <;> first | rfl | exact absurd R (s _) | exact absurd R (F _)
     have u:(cW X v).cells=#[cW X v]:=by
      cases R:cW X v <;> first | rfl | exact absurd R (s _) | exact absurd R (F _)
     have p:=A1 (P:=P) Pv Pw Py
     have:=Nat.eq_of_beq_eq_true e
     exact run (aB.setCell aE (cW X v)) (by rw [u];simp [storeCells,add_zero,p]) (by rw [u,bM,← this];rfl) ⟨rfl,rfl,rfl⟩ Px
  ·cases b
 | box R v=>
  simp only [jF,dN] at b
  refine value _ { aB with heap:=aB.heap.push (.cells (cW X v).cells R (0,0)) } ?_ ⟨rfl,rfl,rfl⟩ b
  simp [execOp,Instr.box,newVar,newRow]
 | alloc R=>
  simp only [jF] at b
  split at b
  ·cases b
  ·rename_i O h d
   have i:O.ty.isTuple=false:=by
    obtain⟨ty,fW,L⟩:=O
    cases ty <;> first | rfl | exact absurd rfl (h _ _ _)
   obtain⟨inf,a4,bM,e,bI,z,A⟩:=u5 (g.ty _ _ d) i
   have B:bI.cells=O.a6.toArray:=by apply Array.ext';simpa using A
   refine value _ { aB with heap:=aB.heap.push (.cells O.a6.toArray R (0,0)) } ?_ ⟨rfl,rfl,rfl⟩ b
   simp [execOp,Instr.alloc,newVar,newRow,u6 a4 z,B]
  ·cases b
 | makeSlice t l c=>
  simp only [jF] at b
  split at b
  ·rename_i R fW L eK n Pz m d PA PB
   split at b
   ·cases b
   ·rename_i O h j
    have i:O.ty.isTuple=false:=by
     obtain⟨ty,fW,L⟩:=O
     cases ty <;> first | rfl | exact absurd rfl (h _ _ _)
    obtain⟨v,cI,r,aH,S⟩:=H0 (P:=P) (S:=eK) (cS:=Pz) g d j i b
    refine value v cI ?_ aH S
    simp [execOp,PA,PB,r]
   ·cases b
  ·cases b
 | buildSlice t n parts=>
  simp only [jF] at b
  split at b
  ·rename_i R fW L d
   split at b
   ·cases b
   ·rename_i O h j
    have i:O.ty.isTuple=false:=by
     obtain⟨ty,fW,L⟩:=O
     cases ty <;> first | rfl | exact absurd rfl (h _ _ _)
    cases C:Nat.ble (n*O.leaves.length) 16777216 with
    | false=>rw [C] at b;cases b
    | true=>
     rw [C] at b
     simp only [cond_true] at b
     split at b
     ·rename_i cells u
      have eE:=oK (g.ty _ _ d)
      obtain⟨inf,a4,bM,e,bI,z,A⟩:=u5 (g.ty _ _ j) i
      have B:bI.cells=O.a6.toArray:=by apply Array.ext';simpa using A
      have PO:=Nat.le_of_ble_eq_true C
      have G:=A4 (A5:=fun aC=>some (aC*inf.size,inf.size)) (fun aC=>by rw [bM]) _ _ _ u
      refine value _ { aB with heap:=aB.heap.push (.cells cells.toArray R (0,0)) } ?_ ⟨rfl,rfl,rfl⟩ b
      have PC:¬ n*inf.size > 2 ^ 24:=by rw [bM];omega
      have H:(Array.map (fun (N:Nat × Operand)=>match N with | (O,N)=>(O,cW X N)) parts).toList=parts.toList.map fun (O,N)=>(O,cW X N):=by simp
      have I:∀ aP:Array Value,(n*inf.size ≠ 0→aP=bI.cells)→(Array.range (n*inf.size)).map (fun aC=>aP[aC % aP.size]!)=(h6 O.a6 n).toArray:=by
       intro aP PD
       exact Dv O.a6 _ _ (by rw [bM,A8]) _ fun Z=>by rw [PD Z,B]
      by_cases aX:n*inf.size=0
      ·have w:=I #[] (fun Z=>absurd aX Z)
       have PE:¬ (0:Nat) > 2 ^ 24:=by decide
       rw [aX] at w
       simp only [execOp,Sem.run_bind,Instr.buildSlice,g0 eE,Result.andThen,k1 a4,aX,if_neg PE,if_true,Sem.run_pure,w,H,G]
       rfl
      ·have w:=I bI.cells (fun _=>rfl)
       simp only [execOp,Sem.run_bind,Instr.buildSlice,g0 eE,Result.andThen,k1 a4,if_neg PC,aX,if_false,Sem.run_pure,u6 a4 z]
       simp only [w,H,G]
       rfl
     ·cases b
   ·cases b
  ·cases b
 | call c=>
  obtain⟨callee,⟨args⟩,⟨pK⟩⟩:=c
  simp only [jF] at b
  split at b
  ·
   split at b
   ·rename_i aH N t PF
    cases D:uZ E PF with
    | false=>rw [D] at b;cases b
    | true=>
     rw [D] at b
     simp only [cond_true] at b
     split at b
     ·rename_i R fW L y l o d bM
      split at b
      ·cases b
      ·rename_i O h j
       have i:O.ty.isTuple=false:=by
        obtain⟨ty,fW,L⟩:=O
        cases ty <;> first | rfl | exact absurd rfl (h _ _ _)
       obtain⟨v,cI,r,q,S⟩:=HW (P:=P) (ty:=type) g d j D i b
       refine value v cI ?_ q S
       simp [execOp,resolve,invoke,builtin,bM,r]
      ·cases b
     ·cases b
   ·cases b
  ·
   split at b
   ·rename_i aV N t jD
    split at b
    ·rename_i R fW L y l o d bM
     split at b
     ·cases b
     ·rename_i O h j
      obtain⟨v,cI,r,q,S⟩:=HX (P:=P) (ty:=type) (pK:=jD) (c:=o) g d j b
      refine value v cI ?_ q S
      simp [execOp,resolve,invoke,builtin,bM,r]
     ·cases b
    ·cases b
   ·cases b
  ·
   split at b
   ·rename_i aV t
    split at b
    ·rename_i R fW L y l o d bM
     split at b
     ·cases b
     ·rename_i O h j
      have i:O.ty.isTuple=false:=by
       obtain⟨ty,fW,L⟩:=O
       cases ty <;> first | rfl | exact absurd rfl (h _ _ _)
      obtain⟨v,cI,r,q,S⟩:=HZ (P:=P) (ty:=type) (c:=o) g d j i b
      refine value v cI ?_ q S
      simp [execOp,resolve,invoke,builtin,bM,r]
     ·cases b
    ·cases b
   ·cases b
  ·
   rename_i f
   split at b
   ·rename_i d
    obtain⟨fn,PG,s,e,_⟩:=y5 g d
    have e:=e (.inl rfl)
    have PH:(execOp (cW X) ⟨dst,.call ⟨.value (.func f),⟨args⟩,⟨pK⟩⟩,type,pos,after,guard⟩).run P aB=.ok (.enter f (args.map (cW X)).toArray) aB:=by
     have PI:¬ fn.name="runtime.NumGoroutine":=by simpa using s
     have PJ:¬ fn.body=none:=by intro R;rw [R] at e;cases e
     simp [execOp,resolve,Deferred.ofValue,cW,invoke,callFunc,PG,PI,PJ]
    refine .inr (.inr ⟨f,_,by rw [x];exact PH,(b aB rfl).mono ?_⟩)
    rintro R cI ⟨v,rfl,aH,S⟩
    exact⟨v,rfl,aH,A3 S⟩
   ·cases b
  ·cases b
 | _=>exact b.elim
end
set_option linter.unusedSimpArgs false
section
variable {P:Program} {E:Env}
def e9(P:Program)(E:Env)(md:Bool)(c0:Nat)(ops:Array Oper)(aN:Oper)(a:Act)(Z:U)(b:Value→U→Prop):Prop:=
 if Region.wanted aN (yielded ops a.tmps) then
  match gI E aN.op with
  | .pure=>∃ v,(∀ aB,nU P aN a aB v)∧b v Z
  | .load=>∃ v,(∀ aB:World,cond md (eT c0 Z aB.heap) (aB.heap=Z)→nU P aN a aB v)∧b v Z
  | .quiet=>∃ v,(∀ aB:World,aB.heap=Z→A9 P aN a aB v)∧b v Z
  | .call=>∀ aB:World,aB.heap=Z→mC P aN a aB fun v K=>(md=true→eT c0 Z K)∧b v K
  | .act=>∀ aB:World,aB.heap=Z→mC P aN a aB b
 else b undef Z
def u7(Z:U):World:={ heap:=Z,tape:=fun _ _=>0,drawn:=0,os:=default,output:=#[] }
theorem lD{md:Bool}{c0:Nat}{ops:Array Oper}{aN:Oper}{a:Act}{Z:U}{f g:Value→U→Prop}(c:∀ v Z,f v Z→g v Z)(bM:e9 P E md c0 ops aN a Z f):e9 P E md c0 ops aN a Z g:=by
 unfold e9 at *
 split
 ·rename_i b
  rw [if_pos b] at bM
  cases d:gI E aN.op with
  | pure=>simp only [d] at bM ⊢;obtain⟨v,aZ,e⟩:=bM;exact⟨v,aZ,c _ _ e⟩
  | load=>simp only [d] at bM ⊢;obtain⟨v,aZ,e⟩:=bM;exact⟨v,aZ,c _ _ e⟩
  | quiet=>simp only [d] at bM ⊢;obtain⟨v,aZ,e⟩:=bM;exact⟨v,aZ,c _ _ e⟩
  | call=>simp only [d] at bM ⊢;exact fun aB b=>(bM aB b).mono fun v K S=>⟨S.1,c _ _ S.2⟩
  | act=>simp only [d] at bM ⊢;exact fun aB b=>(bM aB b).mono c
 ·rename_i b;rw [if_neg b] at bM;exact c _ _ bM
theorem Dy{md:Bool}{c0:Nat}{ops:Array Oper}{aN:Oper}{a:Act}{Z:U}{d:Value→U→Prop}(bM:e9 P E md c0 ops aN a Z d):∃ v K,d v K:=by
 unfold e9 at bM
 split at bM
 ·cases b:gI E aN.op with
  | pure=>simp only [b] at bM;obtain⟨v,aZ,c⟩:=bM;exact⟨_,_,c⟩
  | load=>simp only [b] at bM;obtain⟨v,aZ,c⟩:=bM;exact⟨_,_,c⟩
  | quiet=>simp only [b] at bM;obtain⟨v,aZ,c⟩:=bM;exact⟨_,_,c⟩
  | call=>simp only [b] at bM;obtain⟨v,K,S⟩:=(bM (u7 Z) rfl).some;exact⟨v,K,S.2⟩
  | act=>simp only [b] at bM;exact(bM (u7 Z) rfl).some
 ·exact⟨_,_,bM⟩
theorem nU.inj{aN:Oper}{a:Act}{aB:World}{v b:Value}(Z:nU P aN a aB v)(K:nU P aN a aB b):v=b:=by
 unfold nU at *
 rw [Z] at K
 cases K
 rfl
theorem eT.refl(c0:Nat)(Z:U):eT c0 Z Z:=fun _ _=>rfl
theorem eT.symm{c0:Nat}{Z K:U}(p:eT c0 Z K):eT c0 K Z:=fun L a=>(p L a).symm
theorem eT.trans{c0:Nat}{a L c:U}(p:eT c0 a L)(aE:eT c0 L c):eT c0 a c:=fun O a4=>(aE O a4).trans (p O a4)
theorem Dz{md:Bool}{c0:Nat}{ops:Array Oper}{aN:Oper}{a:Act}(b:gI E aN.op=.pure∨¬ Region.wanted aN (yielded ops a.tmps)=true){Z:U}{e:Value→U→Prop}(bM:e9 P E md c0 ops aN a Z e):
  ∃ v,∀ K c,e9 P E md c0 ops aN a K c↔c v K:=by
 by_cases d:Region.wanted aN (yielded ops a.tmps)=true
 ·rcases b with b | b
  ·simp only [e9,if_pos d,b] at bM
   obtain⟨v,aZ,_⟩:=bM
   refine⟨v,fun K c=>?_⟩
   simp only [e9,if_pos d,b]
   constructor
   ·rintro⟨i,f,h⟩
    have:=(aZ (u7 K)).inj (f (u7 K))
    subst this
    exact h
   ·intro g;exact⟨v,aZ,g⟩
  ·exact absurd d b
 ·exact⟨undef,fun K c=>by simp only [e9,if_neg d]⟩
theorem DA{md:Bool}{c0:Nat}{ops:Array Oper}{aN:Oper}{a:Act}(b:gI E aN.op=.load∨gI E aN.op=.quiet∨gI E aN.op=.pure){Z:U}{d:Value→U→Prop}(bM:e9 P E md c0 ops aN a Z d):
  ∃ v,d v Z∧∀ c:Value→U→Prop,c v Z→e9 P E md c0 ops aN a Z c:=by
 by_cases e:Region.wanted aN (yielded ops a.tmps)=true
 ·rcases b with b | b | b <;> simp only [e9,if_pos e,b] at bM ⊢ <;> obtain⟨v,aZ,f⟩:=bM <;> exact⟨v,f,fun c S=>⟨v,aZ,S⟩⟩
 ·simp only [e9,if_neg e] at bM ⊢;exact⟨undef,bM,fun c S=>S⟩
theorem DB{c0:Nat}{ops:Array Oper}{aN:Oper}{a:Act}(d:gI E aN.op=.load){Z:U}{f:Value→U→Prop}(bM:e9 P E true c0 ops aN a Z f):
  ∃ v,∀ K c,eT c0 Z K→(e9 P E true c0 ops aN a K c↔c v K):=by
 by_cases b:Region.wanted aN (yielded ops a.tmps)=true
 ·simp only [e9,if_pos b,d,cond_true] at bM
  obtain⟨v,aZ,_⟩:=bM
  refine⟨v,fun K c e=>?_⟩
  simp only [e9,if_pos b,d,cond_true]
  constructor
  ·rintro⟨j,h,i⟩
   have:=(aZ (u7 K) e).inj (h (u7 K) (eT.refl _ _))
   subst this
   exact i
  ·intro g;exact⟨v,fun aB b=>aZ aB (e.trans b),g⟩
 ·exact⟨undef,fun K c _=>by simp only [e9,if_neg b]⟩
theorem DC{c0:Nat}{ops:Array Oper}{aN:Oper}{a:Act}(d:gI E aN.op=.call){Z:U}{c:Value→U→Prop}(bM:e9 P E true c0 ops aN a Z c):
  e9 P E true c0 ops aN a Z fun v K=>eT c0 Z K∧c v K:=by
 by_cases b:Region.wanted aN (yielded ops a.tmps)=true
 ·simp only [e9,if_pos b,d] at bM ⊢
  exact fun aB b=>(bM aB b).mono fun v K S=>⟨S.1,S.1 trivial,S.2⟩
 ·simp only [e9,if_neg b] at bM ⊢;exact⟨eT.refl _ _,bM⟩
theorem DD{md:Bool}{c0:Nat}{ops:Array Oper}{O aC:Oper}{a:Act}(b:kD md (gI E O.op) (gI E aC.op)=true){Z:U}{e:Value→Value→U→Prop}
  (bM:e9 P E md c0 ops O a Z fun v K=>e9 P E md c0 ops aC a K fun cU d=>e v cU d):e9 P E md c0 ops aC a Z fun cU K=>e9 P E md c0 ops O a K fun v d=>e v cU d:=by
 have l:gI E O.op=.pure→e9 P E md c0 ops aC a Z fun cU K=>e9 P E md c0 ops O a K fun v d=>e v cU d:=by
  intro h
  obtain⟨v,bW⟩:=Dz (.inl h) bM
  have aZ:=(bW _ _).1 bM
  exact lD (fun cU K S=>(bW K _).2 S) aZ
 have f:gI E aC.op=.pure→e9 P E md c0 ops aC a Z fun cU K=>e9 P E md c0 ops O a K fun v d=>e v cU d:=by
  intro h
  obtain⟨m,aX,i⟩:=Dy bM
  obtain⟨cU,hu⟩:=Dz (.inl h) i
  exact(hu Z _).2 (lD (fun v K S=>(hu K _).1 S) bM)
 have g:(gI E O.op=.load∨gI E O.op=.quiet∨gI E O.op=.pure)→(gI E aC.op=.load∨gI E aC.op=.quiet∨gI E aC.op=.pure)→e9 P E md c0 ops aC a Z fun cU K=>e9 P E md c0 ops O a K fun v d=>e v cU d:=by
  intro aZ n
  obtain⟨v,bW,o⟩:=DA aZ bM
  obtain⟨cU,hu,p⟩:=DA n bW
  exact p _ (o _ hu)
 cases a4:gI E O.op with
 | pure=>exact l a4
 | load=>
  cases c:gI E aC.op with
  | pure=>exact f c
  | load=>exact g (.inl a4) (.inl c)
  | quiet=>exact g (.inl a4) (.inr (.inl c))
  | call=>
   rw [a4,c] at b
   simp only [kD] at b
   subst b
   obtain⟨v,bW⟩:=DB a4 bM
   have aZ:=(bW Z _ (eT.refl _ _)).1 bM
   exact lD (fun cU K S=>(bW K _ S.1).2 S.2) (DC c aZ)
  | act=>rw [a4,c] at b;simp [kD] at b
 | quiet=>
  cases c:gI E aC.op with
  | pure=>exact f c
  | load=>exact g (.inr (.inl a4)) (.inl c)
  | quiet=>exact g (.inr (.inl a4)) (.inr (.inl c))
  | call=>rw [a4,c] at b;simp [kD] at b
  | act=>rw [a4,c] at b;simp [kD] at b
 | call=>
  cases c:gI E aC.op with
  | pure=>exact f c
  | load=>
   rw [a4,c] at b
   simp only [kD] at b
   subst b
   have j:=DC a4 bM
   obtain⟨m,aX,k,i⟩:=Dy j
   obtain⟨cU,hu⟩:=DB c i
   refine(hu Z _ k.symm).2 (lD (fun v K S=>?_) j)
   exact(hu K _ (k.symm.trans S.1)).1 S.2
  | quiet=>rw [a4,c] at b;simp [kD] at b
  | call=>rw [a4,c] at b;simp [kD] at b
  | act=>rw [a4,c] at b;simp [kD] at b
 | act=>
  cases c:gI E aC.op with
  | pure=>exact f c
  | load=>rw [a4,c] at b;simp [kD] at b
  | quiet=>rw [a4,c] at b;simp [kD] at b
  | call=>rw [a4,c] at b;simp [kD] at b
  | act=>rw [a4,c] at b;simp [kD] at b
theorem y8{md:Bool}{c0:Nat}{ops:Array Oper}{aN:Oper}{a:Act}{aV:Option Tmp}{cU:Value}(d:∀ c2 L,aN.op ≠ .select c2 L)(b:∀ t,aV=some t→t ∉ aN.looksAt ops){Z:U}{c:Value→U→Prop}:
  e9 P E md c0 ops aN (a.put aV cU) Z c=e9 P E md c0 ops aN a Z c:=by
 have e:=execOp_put aN d a aV cU b
 have f:=wanted_put aN a aV cU b
 unfold e9 nU A9 mC
 rw [e,f]
def iQ(P:Program)(E:Env)(md:Bool)(c0:Nat)(ops:Array Oper)(aF:Act→U→Prop):List Nat→Act→U→Prop
 | [],a,Z=>aF a Z
 | O :: l,a,Z=>match ops[O]? with
  | some aN=>e9 P E md c0 ops aN a Z fun v K=>iQ P E md c0 ops aF l (a.put aN.dst v) K
  | none=>iQ P E md c0 ops aF l a Z
theorem H4{md:Bool}{c0:Nat}{ops:Array Oper}{aF:Act→U→Prop}{O aC:Nat}{b c:Oper}(a4:ops[O]?=some b)(e:ops[aC]?=some c)(f:b.apart ops c=true)
  (g:∀ c2 L,b.op ≠ .select c2 L) (h:∀ c2 L,c.op ≠ .select c2 L) (i:kD md (gI E b.op) (gI E c.op)=true) {l:List Nat} {a:Act} {Z:U}
  (bM:iQ P E md c0 ops aF (O :: aC :: l) a Z):iQ P E md c0 ops aF (aC :: O :: l) a Z:=by
 obtain⟨aZ,j,k⟩:=Oper.apart_spec f
 simp only [iQ,a4,e] at bM ⊢
 have m:e9 P E md c0 ops b a Z fun v K=>e9 P E md c0 ops c a K fun cU d=>iQ P E md c0 ops aF l ((a.put b.dst v).put c.dst cU) d:=
  lD (fun v K S=>by rw [y8 h aZ] at S;exact S) bM
 have:=DD i m
 refine lD (fun cU K S=>?_) this
 rw [y8 g k]
 refine lD (fun v d cS=>?_) S
 rw [Act.put_comm a v cU j] at cS
 exact cS
theorem H5{md:Bool}{c0:Nat}{ops:Array Oper}{b c:Oper}(f:b.apart ops c=true)
  (g:∀ c2 L,b.op ≠ .select c2 L) (h:∀ c2 L,c.op ≠ .select c2 L) (i:kD md (gI E b.op) (gI E c.op)=true) {e:Act→U→Prop} {a:Act} {Z:U}
  (bM:e9 P E md c0 ops b a Z fun v K=>e9 P E md c0 ops c (a.put b.dst v) K fun cU d=>e ((a.put b.dst v).put c.dst cU) d) :
  e9 P E md c0 ops c a Z fun cU K=>e9 P E md c0 ops b (a.put c.dst cU) K fun v d=>e ((a.put c.dst cU).put b.dst v) d:=by
 obtain⟨aZ,j,k⟩:=Oper.apart_spec f
 have l:e9 P E md c0 ops b a Z fun v K=>e9 P E md c0 ops c a K fun cU d=>e ((a.put b.dst v).put c.dst cU) d:=
  lD (fun v K S=>by rw [y8 h aZ] at S;exact S) bM
 have:=DD i l
 refine lD (fun cU K S=>?_) this
 rw [y8 g k]
 refine lD (fun v d cS=>?_) S
 rw [Act.put_comm a v cU j] at cS
 exact cS
theorem y9{todo:List Nat}{O aC:Nat}:aC ∈ del todo O↔aC ∈ todo∧aC ≠ O:=by
 unfold del
 rw [List.mem_filter]
 refine and_congr Iff.rfl ?_
 constructor
 ·intro Z R;subst R;simp at Z
 ·intro Z
  cases a:Nat.beq aC O with
  | true=>exact absurd (Nat.eq_of_beq_eq_true a) Z
  | false=>rfl
theorem DE{todo:List Nat}{O:Nat}(Z:todo.Nodup):(del todo O).Nodup:=Z.filter _
theorem H6(todo:List Nat)(O aC:Nat):del (del todo O) aC=del (del todo aC) O:=by
 unfold del
 rw [List.filter_filter,List.filter_filter]
 apply List.filter_congr
 intro N _
 rw [Bool.and_comm]
theorem DF:∀ {todo:List Nat} {O:Nat},O ∉ todo→del todo O=todo:=by
 intro todo O Z
 unfold del
 rw [List.filter_eq_self]
 intro N a
 cases b:Nat.beq N O with
 | true=>obtain rfl:=Nat.eq_of_beq_eq_true b;exact absurd a Z
 | false=>rfl
theorem DG{aI bZ:List Nat}{O:Nat}(Z:(aI ++ O :: bZ).Nodup):del (aI ++ O :: bZ) O=aI ++ bZ:=by
 have aZ:O ∉ aI:=fun a=>by
  have:=List.nodup_append.1 Z
  exact this.2.2 O a O List.mem_cons_self rfl
 have b:O ∉ bZ:=(List.nodup_cons.1 (List.nodup_append.1 Z).2.1).1
 have R:del (aI ++ O :: bZ) O=del aI O ++ del (O :: bZ) O:=by unfold del;rw [List.filter_append]
 have c:del (O :: bZ) O=del bZ O:=by unfold del;rw [List.filter_cons];simp
 rw [R,c,DF aZ,DF b]
theorem DH{todo:List Nat}{O:Nat}(Z:todo.Nodup)(a4:O ∈ todo):(del todo O).length+1=todo.length:=by
 obtain⟨aI,bZ,rfl⟩:=List.append_of_mem a4
 rw [DG Z]
 simp;omega
def anyS(P:Program)(E:Env)(md:Bool)(c0:Nat)(ops:Array Oper)(b:List Nat)(aF:Act→U→Prop):Nat→List Nat→Act→U→Prop
 | 0,_,a,Z=>aF a Z
 | n+1,todo,a,Z=>∀ O aN,O ∈ todo→pE b todo O=true→ops[O]?=some aN→e9 P E md c0 ops aN a Z fun v K=>anyS P E md c0 ops b aF n (del todo O) (a.put aN.dst v) K
theorem DI{a todo:List Nat}{O aC:Nat}(Z:pE a todo O=true):pE a (del todo aC) O=true:=by
 unfold pE at *
 rw [List.all_eq_true] at *
 exact fun N b=>Z N (y9.1 b).1
theorem H7{md:Bool}{c0:Nat}{ops:Array Oper}{e:List Nat}{aF:Act→U→Prop}(l:∀ (aC:Nat) (aN:Oper) c2 L,ops[aC]?=some aN→aN.op ≠ .select c2 L){O:Nat}{b:Oper}(i:ops[O]?=some b):∀ {n:Nat} {todo:List Nat},todo.length=n+1→todo.Nodup→O ∈ todo→pE e todo O=true→
  (∀ aC ∈ todo,aC ≠ O→(e.getD aC 0).testBit O=true∨∃ c,ops[aC]?=some c∧b.apart ops c=true∧kD md (gI E b.op) (gI E c.op)=true)→∀ {a:Act} {Z:U},
  (e9 P E md c0 ops b a Z fun v K=>anyS P E md c0 ops e aF n (del todo O) (a.put b.dst v) K)→anyS P E md c0 ops e aF (n+1) todo a Z:=by
 intro n
 induction n with
 | zero=>
  intro todo m j a4 o k a Z bM aC c f g d
  have:aC=O:=by
   obtain⟨N,rfl⟩:=List.length_eq_one_iff.1 m
   simp at a4 f
   rw [a4,f]
  subst this
  rw [i] at d
  cases d
  exact bM
 | succ n bU=>
  intro todo m j a4 o k a Z bM aC c f g d
  by_cases h:aC=O
  ·subst h
   rw [i] at d
   cases d
   exact bM
  ·have q:(e.getD aC 0).testBit O ≠ true:=by
    unfold pE at g
    rw [List.all_eq_true] at g
    have:=g O a4
    intro R
    rw [R] at this
    cases this
   rcases k aC f h with r | ⟨z,p,s,t⟩
   ·exact absurd r q
   ·rw [d] at p
    cases p
    have aZ:e9 P E md c0 ops b a Z fun v K=>e9 P E md c0 ops c (a.put b.dst v) K fun cU u=>(fun a Z=>anyS P E md c0 ops e aF n (del (del todo O) aC) a Z) ((a.put b.dst v).put c.dst cU) u:=
     lD (fun v K S=>S aC c (y9.2 ⟨f,h⟩) (DI g) d) bM
    have w:=H5 s (fun c2 L=>l O b c2 L i) (fun c2 L=>l aC c c2 L d) t aZ
    refine lD (fun cU K S=>?_) w
    refine bU (todo:=del todo aC) ?_ (DE j) (y9.2 ⟨a4,fun R=>h R.symm⟩) (DI o) (fun N x y=>k N (y9.1 x).1 y) ?_
    ·have:=DH j f;omega
    ·rw [H6];exact S
theorem H8{md:Bool}{c0:Nat}{ops:Array Oper}{aF:Act→U→Prop}{O:Nat}{l c:List Nat}(d:∀ a Z,iQ P E md c0 ops aF l a Z→iQ P E md c0 ops aF c a Z){a:Act}{Z:U}
  (bM:iQ P E md c0 ops aF (O :: l) a Z):iQ P E md c0 ops aF (O :: c) a Z:=by
 simp only [iQ] at *
 split
 ·rename_i aN b
  simp only [b] at bM
  exact lD (fun v K S=>d _ _ S) bM
 ·rename_i b
  simp only [b] at bM
  exact d _ _ bM
def free(E:Env)(md:Bool)(ops:Array Oper)(O aC:Nat):Prop:=
 ∃ a b,ops[O]?=some a∧ops[aC]?=some b∧a.apart ops b=true∧(∀ c2 L,a.op ≠ .select c2 L)∧(∀ c2 L,b.op ≠ .select c2 L)∧kD md (gI E a.op) (gI E b.op)=true
theorem DJ{md:Bool}{c0:Nat}{ops:Array Oper}{aF:Act→U→Prop}{aC:Nat}{bZ:List Nat}:∀ {aI:List Nat},(∀ O ∈ aI,free E md ops O aC)→∀ {a:Act} {Z:U},iQ P E md c0 ops aF (aI ++ aC :: bZ) a Z→iQ P E md c0 ops aF (aC :: (aI ++ bZ)) a Z
 | [],_,a,Z,bM=>bM
 | O :: aI,b,a,Z,bM=>by
  have bU:=fun {a Z}=>DJ (c0:=c0) (aF:=aF) (bZ:=bZ) (aI:=aI) (fun N c=>b N (List.mem_cons_of_mem _ c)) (a:=a) (Z:=Z)
  have aZ:iQ P E md c0 ops aF (O :: aC :: (aI ++ bZ)) a Z:=H8 (fun a Z=>bU) bM
  obtain⟨j,k,d,e,f,g,h,i⟩:=b O List.mem_cons_self
  exact H4 d e f g h i aZ
end
set_option linter.unusedSimpArgs false
section
variable {P:Program} {E:Env}
theorem H9(h:hT P E){aN:Oper}{X:Fr}{a:Act}(i:a.eval=cW X)(d:gI E aN.op=.quiet){Z:U}{aF:Value→Prop}(b:sS P E aN.op aN.type X Z aF):
  ∃ v,aF v∧∀ aB:World,aB.heap=Z→A9 P aN a aB v:=by
 obtain⟨dst,op,type,pos,after,guard⟩:=aN
 simp only at b d
 cases op with
 | call c=>
  obtain⟨callee,⟨args⟩,pK⟩:=c
  simp only [sS] at b
  split at b
  ·rename_i f
   obtain⟨v,aZ,j⟩:=b
   refine⟨v,A3 j,fun aB g=>?_⟩
   have k:look E.fns f=some .quiet:=by
    simp only [gI] at d
    split at d <;> first | assumption | cases d
   obtain⟨fn,l,m,e,_⟩:=y5 h k
   have e:=e (.inr rfl)
   refine⟨f,(args.map (cW X)).toArray,?_,(aZ aB g).mono ?_⟩
   ·have n:¬ fn.name="runtime.NumGoroutine":=by simpa using m
    have o:¬ fn.body=none:=by intro R;rw [R] at e;cases e
    rw [i]
    simp [execOp,resolve,Deferred.ofValue,cW,invoke,callFunc,l,n,o]
   ·rintro R cI ⟨p,rfl,aH,rfl,S⟩
    exact⟨rfl,aH,by rw [S,g]⟩
  ·cases b
 | _=>simp [sS] at b
theorem Bb(d:hT P E){md:Bool}{c0:Nat}{ops:Array Oper}{aN:Oper}{X:Fr}{a:Act}(e:a.eval=cW X){Z:U}{h:Value→U→Prop}(b:m4 P E md c0 aN X Z h)
  (k:Region.wanted aN (yielded ops a.tmps)=true):e9 P E md c0 ops aN a Z h:=by
 unfold m4 at b
 unfold e9
 rw [if_pos k]
 cases c:gI E aN.op with
 | pure=>
  simp only [c] at b ⊢
  obtain⟨v,bW,f⟩:=A6 d b
  exact⟨v,fun aB=>by unfold nU;rw [e];exact f aB fun t N aE R _=>by rw [R] at c;simp [gI] at c,bW⟩
 | load=>
  simp only [c] at b ⊢
  cases md with
  | false=>
   simp only [cond_false] at b ⊢
   obtain⟨v,bW,f⟩:=A6 d b
   exact⟨v,fun aB g=>by unfold nU;rw [e];exact f aB fun t N aE R _=>by rw [g],bW⟩
  | true=>
   simp only [cond_true] at b ⊢
   split at b
   ·rename_i t N R
    obtain⟨i,b⟩:=b
    obtain⟨v,bW,f⟩:=A6 d b
    refine⟨v,fun aB l=>?_,bW⟩
    unfold nU
    rw [e]
    refine f aB fun n o aE j m=>?_
    rw [R] at j
    cases j
    rw [m] at i
    exact l _ i
   ·cases b
 | quiet=>
  simp only [c] at b ⊢
  obtain⟨v,bW,f⟩:=H9 d e c b
  exact⟨v,f,bW⟩
 | call=>
  simp only [c] at b ⊢
  cases md with
  | false=>
   intro aB g
   subst g
   simp only [cond_false] at b
   exact(Ba d e b).mono fun v K S=>⟨fun R=>(by cases R),S⟩
  | true=>
   intro aB g
   subst g
   simp only [cond_true] at b
   exact(Ba d e b).mono fun v K S=>⟨fun _=>S.1,S.2⟩
 | act=>
  simp only [c] at b ⊢
  intro aB g
  subst g
  exact Ba d e b
theorem DK{all:List Oper}{n:Nat}{X:Fr}{a:Act}(d:gB n X a){aN:Oper}{aC t:Nat}{want L:Bool}(e:aN.guard=some (aC,want))(b:wU all aC=some t)(f:X t=.bool L):
  Region.wanted aN (yielded all.toArray a.tmps)=(L == want):=by
 have aZ:a.tmps[t]?=some (.bool L):=by
  have:=d.get t
  rw [f,Array.getD_eq_getD_getElem?] at this
  cases c:a.tmps[t]? with
  | none=>rw [c] at this;simp [undef] at this
  | some v=>rw [c] at this;simp at this;rw [this]
 have g:((all.toArray[aC]?).bind (·.dst)).bind (a.tmps[·]?)=some (.bool L):=by
  unfold wU at b
  split at b
  ·rename_i i h
   simp [h,b,aZ]
  ·cases b
 unfold Region.wanted yielded
 rw [e]
 simp only [g]
 cases L <;> cases want <;> rfl
theorem DL{all:List Oper}{n:Nat}{X:Fr}{a:Act}(c:gB n X a){aN:Oper}{aC t:Nat}{want:Bool}{bV:Array Value}(d:aN.guard=some (aC,want))(b:wU all aC=some t)(e:X t=.tuple bV):
  Region.wanted aN (yielded all.toArray a.tmps)=false:=by
 have aZ:a.tmps[t]?=none∨a.tmps[t]?=some (.tuple bV):=by
  have:=c.get t
  rw [e,Array.getD_eq_getD_getElem?] at this
  cases f:a.tmps[t]? with
  | none=>exact .inl rfl
  | some v=>rw [f] at this;simp at this;rw [this];exact .inr rfl
 have g:(all.toArray[aC]?).bind (·.dst)=some t:=by
  unfold wU at b
  split at b
  ·rename_i i h
   simp [h,b]
  ·cases b
 unfold Region.wanted yielded
 rw [d]
 simp only [g,Option.bind_some]
 rcases aZ with aZ | aZ <;> rw [aZ] <;> rfl
theorem zA(o:hT P E){md:Bool}{c0 n:Nat}{all:List Oper}:∀ {l:List Oper} {S:Nat} {X:Fr} {a:Act} {Z:U} {aF:Fr→U→Prop},(∀ aC,l[aC]?=all[S+aC]?)→l.all (pH n)=true→gB n X a→
  jG P E md c0 all l X Z aF→iQ P E md c0 all.toArray (fun f K=>∃ d,gB n d f∧aF d K) (List.range' S l.length) a Z
 | [],S,X,a,Z,aF,_,_,g,b=>⟨X,g,b⟩
 | aN :: rest,S,X,a,Z,aF,p,q,g,b=>by
  simp only [List.all_cons,Bool.and_eq_true] at q
  obtain⟨s,u⟩:=q
  have w:all.toArray[S]?=some aN:=by have:=p 0;simp at this;simpa using this.symm
  have x:∀ aC,rest[aC]?=all[S+1+aC]?:=fun aC=>by have:=p (aC+1);simpa [Nat.add_assoc,Nat.add_comm 1 aC] using this
  simp only [List.length_cons,List.range'_succ,iQ,w]
  have next:∀ c,gB n c a→∀ v K,jG P E md c0 all rest (kZ c aN.dst v) K aF→iQ P E md c0 all.toArray (fun f K=>∃ d,gB n d f∧aF d K) (List.range' (S+1) rest.length) (a.put aN.dst v) K:=
   fun c h v K i=>zA o x u (h.put s v) i
  have run:∀ c,gB n c a→Region.wanted aN (yielded all.toArray a.tmps)=true→m4 P E md c0 aN c Z (fun v K=>jG P E md c0 all rest (kZ c aN.dst v) K aF)→
    e9 P E md c0 all.toArray aN a Z fun v K=>iQ P E md c0 all.toArray (fun f K=>∃ d,gB n d f∧aF d K) (List.range' (S+1) rest.length) (a.put aN.dst v) K:=
   fun c h e i=>lD (fun v K cS=>next c h v K cS) (Bb o h.cW i e)
  have skip:∀ c,gB n c a→Region.wanted aN (yielded all.toArray a.tmps)=false→jG P E md c0 all rest (kZ c aN.dst undef) Z aF→
    e9 P E md c0 all.toArray aN a Z fun v K=>iQ P E md c0 all.toArray (fun f K=>∃ d,gB n d f∧aF d K) (List.range' (S+1) rest.length) (a.put aN.dst v) K:=by
   intro c h e i
   unfold e9
   rw [if_neg (by rw [e];decide)]
   exact next c h undef Z i
  unfold jG at b
  split at b
  ·rename_i j
   exact run X g (by simp [Region.wanted,j]) b
  ·rename_i aC want j
   split at b
   ·cases b
   ·rename_i t r
    split at b
    ·rename_i L k
     have e:=DK (all:=all) g j r k
     have m:gB n (kC X t (.bool L)) a:=by rw [wO k];exact g
     cases L <;> cases want <;> simp only [cond_true,cond_false] at b
     ·exact run _ m (by rw [e];rfl) b
     ·exact skip _ m (by rw [e];rfl) b
     ·exact skip _ m (by rw [e];rfl) b
     ·exact run _ m (by rw [e];rfl) b
    ·rename_i bV k
     exact skip X g (DL (all:=all) g j r k) b
    ·cases b
theorem Ia(o:hT P E){c0 n:Nat}{all:List Oper}{O:Nat}{aN:Oper}(p:all[O]?=some aN)(l:pH n aN=true){X:Fr}{a:Act}{Z:U}{aF:Fr→U→Prop}(f:gB n X a)
  (b:jG P E true c0 all [aN] X Z aF):e9 P E true c0 all.toArray aN a Z fun v K=>∃ c,gB n c (a.put aN.dst v)∧aF c K:=by
 have run:∀ d,gB n d a→Region.wanted aN (yielded all.toArray a.tmps)=true→m4 P E true c0 aN d Z (fun v K=>jG P E true c0 all [] (kZ d aN.dst v) K aF)→
   e9 P E true c0 all.toArray aN a Z fun v K=>∃ c,gB n c (a.put aN.dst v)∧aF c K:=
  fun d g e k=>lD (fun v K cS=>⟨_,g.put l v,cS⟩) (Bb o g.cW k e)
 have skip:∀ d,gB n d a→Region.wanted aN (yielded all.toArray a.tmps)=false→jG P E true c0 all [] (kZ d aN.dst undef) Z aF→
   e9 P E true c0 all.toArray aN a Z fun v K=>∃ c,gB n c (a.put aN.dst v)∧aF c K:=by
  intro d g e k
  unfold e9
  rw [if_neg (by rw [e];decide)]
  exact⟨_,g.put l undef,k⟩
 unfold jG at b
 split at b
 ·rename_i h
  exact run X f (by simp [Region.wanted,h]) b
 ·rename_i aC want h
  split at b
  ·cases b
  ·rename_i t m
   split at b
   ·rename_i L i
    have e:=DK (all:=all) f h m i
    have j:gB n (kC X t (.bool L)) a:=by rw [wO i];exact f
    cases L <;> cases want <;> simp only [cond_true,cond_false] at b
    ·exact run _ j (by rw [e];rfl) b
    ·exact skip _ j (by rw [e];rfl) b
    ·exact skip _ j (by rw [e];rfl) b
    ·exact run _ j (by rw [e];rfl) b
   ·rename_i bV i
    exact skip X f (DL (all:=all) f h m i) b
   ·cases b
theorem DM{f:Nat→Prop}:∀ {l:List Nat},wW f l→∀ O ∈ l,f O
 | [O],Z,aC,a=>by simp at a;subst a;exact Z
 | O :: S :: l,Z,aC,a=>by
  rcases List.mem_cons.1 a with rfl | a
  ·exact Z.1
  ·exact DM Z.2 aC a
theorem Ib{ops:List Oper}(a:Region.noSelect ops.toArray=true):∀ (aC:Nat) (aN:Oper) c2 L,ops.toArray[aC]?=some aN→aN.op ≠ .select c2 L:=by
 intro aC aN c2 L b R
 have c:ops[aC]?=some aN:=by simpa using b
 have:=List.mem_of_getElem? c
 simp only [Region.noSelect,Array.all_eq_true',List.mem_toArray] at a
 have:=a aN this
 rw [R] at this
 simp at this
theorem Ic(q:hT P E){c0 n:Nat}{all:List Oper}(s:all.all (pH n)=true)(t:Region.noSelect all.toArray=true){f:List Nat}{aF:Fr→U→Prop}:∀ {m:Nat} {todo:List Nat} {X:Fr} {a:Act} {Z:U},todo.length=m→todo.Nodup→gB n X a→
  pF P E c0 all f m todo X Z aF→anyS P E true c0 all.toArray f (fun h K=>∃ d,gB n d h∧aF d K) m todo a Z:=by
 intro m
 induction m with
 | zero=>intro todo X a Z o g i b;exact⟨X,i,b⟩
 | succ m bU=>
  intro todo X a Z o g i b
  have at_:∀ O ∈ todo,∀ aN,all.toArray[O]?=some aN→rE P E c0 all O X Z (fun X Z=>pF P E c0 all f m (del todo O) X Z aF)→
    e9 P E true c0 all.toArray aN a Z fun v K=>anyS P E true c0 all.toArray f (fun h K=>∃ d,gB n d h∧aF d K) m (del todo O) (a.put aN.dst v) K:=by
   intro O a4 aN c b
   have e:all[O]?=some aN:=by simpa using c
   unfold rE at b
   rw [e] at b
   refine lD (fun v K S=>?_) (Ia q e (List.all_eq_true.1 s aN (List.mem_of_getElem? e)) i b)
   obtain⟨d,r,S⟩:=S
   refine bU ?_ (DE g) r S
   have:=DH g a4;omega
  unfold pF at b
  split at b
  ·rename_i O j
   have a4:=List.mem_of_find?_eq_some j
   have k:=List.find?_some j
   unfold C8 at k
   rw [Bool.and_eq_true] at k
   obtain⟨u,p⟩:=k
   rw [List.all_eq_true] at p
   cases c:all[O]? with
   | none=>unfold rE at b;rw [c] at b;cases b
   | some aN=>
    have e:all.toArray[O]?=some aN:=by simpa using c
    refine H7 (Ib t) e o g a4 u (fun aC w x=>?_) (at_ O a4 aN e b)
    have:=p aC w
    rw [Bool.or_eq_true,Bool.or_eq_true] at this
    rcases this with (aZ | aZ) | aZ
    ·exact absurd (Nat.eq_of_beq_eq_true aZ) x
    ·exact .inl aZ
    ·rw [c] at aZ
     cases l:all[aC]? with
     | none=>rw [l] at aZ;cases aZ
     | some y=>
      rw [l] at aZ
      simp only [Bool.and_eq_true] at aZ
      exact .inr ⟨y,by simpa using l,aZ.1,aZ.2⟩
  ·rename_i j
   intro O aN a4 z c
   exact at_ O a4 aN c (DM b O (List.mem_filter.2 ⟨a4,z⟩))
theorem Bc{md:Bool}{c0:Nat}{ops:Array Oper}{O:Nat}{aN:Oper}(i:ops[O]?=some aN){a:Act}{aB:World}{g:Value→U→Prop}(bM:e9 P E md c0 ops aN a aB.heap g)
  {aF:Act→World→Prop} {Q:Exit→Act→World→Prop} (b:∀ v cI,eR aB cI→g v cI.heap→aF (a.put aN.dst v) cI):wpOp P ops Q O aF a aB:=by
 unfold wpOp
 simp only [i]
 unfold e9 at bM
 by_cases h:Region.wanted aN (yielded ops a.tmps)=true
 ·rw [if_pos h] at bM ⊢
  refine .inl ?_
  have runs:∀ v,nU P aN a aB v→g v aB.heap→aN.wp P a aB aF Q:=by
   intro v j S
   unfold Oper.wp
   rw [j]
   exact b v aB (eR.refl aB) S
  cases d:gI E aN.op with
  | pure=>simp only [d] at bM;obtain⟨v,aZ,e⟩:=bM;exact runs v (aZ aB) e
  | load=>
   simp only [d] at bM
   obtain⟨v,aZ,e⟩:=bM
   refine runs v (aZ aB ?_) e
   cases md
   ·exact rfl
   ·exact eT.refl _ _
  | quiet=>
   simp only [d] at bM
   obtain⟨v,aZ,e⟩:=bM
   obtain⟨f,args,r,c⟩:=aZ aB rfl
   unfold Oper.wp
   rw [r,Oper.upon_enter]
   refine c.mono ?_
   rintro R cI ⟨rfl,aH,S⟩
   exact b v cI aH (by rw [S];exact e)
  | call=>simp only [d] at bM;exact(bM aB rfl).wp fun v cI aH S=>b v cI aH S.2
  | act=>simp only [d] at bM;exact(bM aB rfl).wp fun v cI aH S=>b v cI aH S
 ·rw [if_neg h] at bM ⊢
  exact b undef aB (eR.refl aB) bM
def rem(n:Nat)(a:Array Bool):List Nat:=(List.range n).filter fun O=>!a.getD O true
def zB(ops:Array Oper)(a:Array Bool):Prop:=∀ O aN,ops[O]?=some aN→a.getD O false=true→∀ R ∈ aN.after,Region.binds .any R=true→a.getD R.on false=true
theorem pL{n O:Nat}{a:Array Bool}:O ∈ rem n a↔O < n∧a.getD O true=false:=by simp [rem]
theorem Bd{d:List Nat}{aC:Nat}:∀ {l:List Edge},(pD d l).testBit aC=true→∃ R ∈ l,Region.binds .any R=true∧(R.on=aC∨(d.getD R.on 0).testBit aC=true)
 | [],Z=>by simp [pD] at Z
 | R :: l,Z=>by
  unfold pD at Z
  cases a:Region.binds .any R with
  | false=>
   rw [a] at Z
   obtain⟨b,aZ,c⟩:=Bd (l:=l) Z
   exact⟨b,List.mem_cons_of_mem _ aZ,c⟩
  | true=>
   rw [a] at Z
   simp only [cond_true,Nat.testBit_or,Bool.or_eq_true] at Z
   rcases Z with (Z | Z) | Z
   ·refine⟨R,List.mem_cons_self,a,.inl ?_⟩
    rw [Nat.testBit_two_pow] at Z
    simpa using Z
   ·exact⟨R,List.mem_cons_self,a,.inr Z⟩
   ·obtain⟨b,aZ,c⟩:=Bd (l:=l) Z
    exact⟨b,List.mem_cons_of_mem _ aZ,c⟩
theorem DN:∀ (l:List Oper) (a:List Nat),(∀ O,O < a.length→(k0 a l)[O]?=a[O]?)∧(∀ O aN,l[O]?=some aN→(k0 a l)[a.length+O]?=some (pD ((k0 a l).take (a.length+O)) aN.after.toList))
 | [],a=>⟨fun O _=>rfl,fun O aN Z=>by simp at Z⟩
 | aN :: l,a=>by
  obtain⟨aZ,c⟩:=DN l (a ++ [pD a aN.after.toList])
  simp only [List.length_append,List.length_cons,List.length_nil] at aZ c
  have R:k0 a (aN :: l)=k0 (a ++ [pD a aN.after.toList]) l:=rfl
  rw [R]
  refine⟨fun O a4=>?_,fun O fO b=>?_⟩
  ·rw [aZ O (by omega),List.getElem?_append_left a4]
  ·cases O with
   | zero=>
    simp at b
    subst b
    have d:(k0 (a ++ [pD a aN.after.toList]) l).take (a.length+0)=a:=by
     apply List.ext_getElem?
     intro aC
     rw [List.getElem?_take]
     split
     ·rename_i e
      rw [aZ aC (by omega),List.getElem?_append_left (by omega)]
     ·rename_i e
      rw [List.getElem?_eq_none (by omega)]
    rw [d,aZ _ (by omega)]
    simp
   | succ O=>
    have:=c O fO (by simpa using b)
    rw [show a.length+(O+1)=a.length+(0+1)+O by omega]
    exact this
theorem DO{ops:List Oper}{c:Array Bool}(k:zB ops.toArray c)(f:sT ops=true):∀ (O:Nat) (aN:Oper),ops[O]?=some aN→(∀ R ∈ aN.after,Region.binds .any R=true→c.getD R.on false=true)→
  ∀ aC,((k0 [] ops).getD O 0).testBit aC=true→c.getD aC false=true:=by
 intro O
 induction O using Nat.strongRecOn with
 | _ O bU=>
  intro aN a l aC d
  have bM:=(DN ops []).2 O aN a
  simp only [List.length_nil,Nat.zero_add] at bM
  rw [List.getD_eq_getElem?_getD,bM] at d
  simp only [Option.getD_some] at d
  obtain⟨R,aZ,g,b⟩:=Bd d
  have m:R ∈ aN.after:=by simpa using aZ
  have h:=l R m g
  rcases b with rfl | b
  ·exact h
  ·have i:R.on < O:=by
    simp only [sT,List.all_eq_true,List.mem_range] at f
    have a4:O < ops.length:=by
     rcases Nat.lt_or_ge O ops.length with Z | Z
     ·exact Z
     ·rw [List.getElem?_eq_none Z] at a;cases a
    have:=f O a4
    rw [a] at this
    simp only [List.all_eq_true] at this
    have:=this R aZ
    rw [g] at this
    simpa [Nat.blt_eq] using this
   have n:((k0 [] ops).take O).getD R.on 0=(k0 [] ops).getD R.on 0:=by
    rw [List.getD_eq_getElem?_getD,List.getD_eq_getElem?_getD,List.getElem?_take,if_pos i]
   rw [n] at b
   cases e:ops[R.on]? with
   | none=>
    have o:ops.length≤R.on:=by simpa using e
    have a4:O < ops.length:=by
     rcases Nat.lt_or_ge O ops.length with Z | Z
     ·exact Z
     ·rw [List.getElem?_eq_none Z] at a;cases a
    omega
   | some j=>exact bU R.on i j e (k R.on j (by simpa using e) h) aC b
theorem DP{n O:Nat}{a:Array Bool}(bM:a.size=n)(a4:O ∈ rem n a):
  ∃ aI bZ,rem n a=aI ++ O :: bZ∧rem n (a.setIfInBounds O true)=aI ++ bZ∧(∀ aC ∈ aI,aC < O∧aC < n∧a.getD aC true=false):=by
 have e:=(pL.1 a4)
 have c:List.range n=List.range O ++ O :: List.range' (O+1) (n - O - 1):=by
  rw [List.range_eq_range',List.range_eq_range',show n=O+(1+(n - O - 1)) by omega,← List.range'_append_1,← List.range'_append_1]
  simp
 refine⟨(List.range O).filter fun aC=>!a.getD aC true,(List.range' (O+1) (n - O - 1)).filter fun aC=>!a.getD aC true,?_,?_,?_⟩
 ·unfold rem
  rw [c,List.filter_append,List.filter_cons,e.2]
  simp
 ·unfold rem
  rw [c,List.filter_append,List.filter_cons]
  have aZ:(a.setIfInBounds O true).getD O true=true:=by
   rw [Array.getD_eq_getD_getElem?,Array.getElem?_setIfInBounds]
   simp
   split <;> rfl
  rw [aZ]
  have d:∀ aC,aC ≠ O→(a.setIfInBounds O true).getD aC true=a.getD aC true:=by
   intro aC b
   rw [Array.getD_eq_getD_getElem?,Array.getElem?_setIfInBounds,if_neg (fun R=>b R.symm),← Array.getD_eq_getD_getElem?]
  simp only [Bool.not_true,Bool.false_eq_true,if_false]
  congr 1
  ·apply List.filter_congr
   intro aC b
   rw [d aC (by simp at b;omega)]
  ·apply List.filter_congr
   intro aC b
   rw [d aC (by simp [List.mem_range'_1] at b;omega)]
 ·intro aC b
  simp only [List.mem_filter,List.mem_range,Bool.not_eq_true'] at b
  exact⟨b.1,by omega,b.2⟩
theorem Ie{md:Bool}{c0:Nat}{ops:List Oper}(Px:sU E md ops=true){aF:Act→U→Prop}{Q:Exit→Act→World→Prop}{iE:World}
  (A:∀ a aB,eR iE aB→aF a aB.heap→Q .normal a aB):∀ (k:Nat) (b:Array Bool) (a:Act) (aB:World),b.size=ops.length→zB ops.toArray b→(rem ops.length b).length≤k→eR iE aB→
   iQ P E md c0 ops.toArray aF (rem ops.length b) a aB.heap→wpAny P .any ops.toArray Q k b a aB:=by
 have B:=Px
 simp only [sU,Bool.and_eq_true,List.all_eq_true,List.mem_range] at B
 obtain⟨⟨C,r⟩,Py⟩:=B
 have D:∀ (aC:Nat) (aN:Oper) c2 L,ops[aC]?=some aN→aN.op ≠ .select c2 L:=by
  intro aC aN c2 L n R
  have:=List.mem_of_getElem? n
  simp only [Region.noSelect,Array.all_eq_true',List.mem_toArray] at C
  have:=C aN this
  rw [R] at this
  simp at this
 have F:∀ b:Array Bool,∀ O ∈ Region.ready .any ops.toArray b,O ∈ rem ops.length b∧∃ aN,ops[O]?=some aN∧∀ R ∈ aN.after,Region.binds .any R=true→b.getD R.on false=true:=by
  intro b O a4
  simp only [Region.ready,List.size_toArray,List.mem_filter,List.mem_range,Bool.and_eq_true,Bool.not_eq_true'] at a4
  obtain⟨aZ,Pz,s⟩:=a4
  refine⟨pL.2 ⟨aZ,Pz⟩,?_⟩
  have c:ops.toArray[O]?=some ops[O]:=by simp [aZ]
  rw [c] at s
  simp only [Option.map_some,Option.getD_some,Array.all_eq_true',Bool.or_eq_true,Bool.not_eq_true'] at s
  refine⟨ops[O],by simp [aZ],fun R f d=>?_⟩
  rcases s R f with Z | Z
  ·rw [Z] at d;cases d
  ·exact Z
 have PA:∀ b:Array Bool,b.size=ops.length→∀ O l,rem ops.length b=O :: l→O ∈ Region.ready .any ops.toArray b:=by
  intro b bM O l g
  have a4:O ∈ rem ops.length b:=by rw [g];exact List.mem_cons_self
  have m:=pL.1 a4
  have PB:∀ aC,aC < O→b.getD aC true=true:=by
   intro aC n
   cases h:b.getD aC true with
   | true=>rfl
   | false=>
    have o:aC ∈ rem ops.length b:=pL.2 ⟨by omega,h⟩
    have G:(rem ops.length b).Pairwise (·< ·):=List.Pairwise.sublist List.filter_sublist List.pairwise_lt_range
    rw [g] at G o
    rcases List.mem_cons.1 o with rfl | o
    ·omega
    ·have:=(List.pairwise_cons.1 G).1 aC o
     omega
  simp only [Region.ready,List.size_toArray,List.mem_filter,List.mem_range,Bool.and_eq_true,Bool.not_eq_true']
  refine⟨m.1,m.2,?_⟩
  have c:ops.toArray[O]?=some ops[O]:=by simp [m.1]
  rw [c]
  simp only [Option.map_some,Option.getD_some,Array.all_eq_true',Bool.or_eq_true,Bool.not_eq_true']
  intro R f
  cases d:Region.binds .any R with
  | false=>exact .inl rfl
  | true=>
   refine .inr ?_
   simp only [sT,List.all_eq_true,List.mem_range] at r
   have:=r O m.1
   rw [show ops[O]?=some ops[O] by simp [m.1]] at this
   simp only [List.all_eq_true] at this
   have:=this R (by simpa using f)
   rw [d] at this
   have t:R.on < O:=by simpa [Nat.blt_eq] using this
   have aZ:=PB R.on t
   rw [Array.getD_eq_getD_getElem?] at aZ ⊢
   have u:R.on < b.size:=by rw [bM];omega
   rw [Array.getElem?_eq_getElem u] at aZ ⊢
   exact aZ
 intro k
 induction k with
 | zero=>
  intro b a aB bM w x p e
  have H:rem ops.length b=[]:=List.length_eq_zero_iff.1 (by omega)
  have g:Region.ready .any ops.toArray b=[]:=by
   cases q:Region.ready .any ops.toArray b with
   | nil=>rfl
   | cons O l=>
    have:=(F b O (by rw [q];exact List.mem_cons_self)).1
    rw [H] at this
    cases this
  rw [H] at e
  exact⟨g,A a aB p e⟩
 | succ k bU=>
  intro b a aB bM w x p e
  refine⟨fun g=>?_,fun O a4=>?_⟩
  ·cases q:rem ops.length b with
   | nil=>rw [q] at e;exact A a aB p e
   | cons O l=>
    have:=PA b bM O l q
    rw [g] at this
    cases this
  ·obtain⟨I,aN,c,J⟩:=F b O a4
   obtain⟨aI,bZ,T,V,aZ⟩:=DP bM I
   rw [T] at e
   have Pt:=(pL.1 I).1
   have PC:∀ aC ∈ aI,free E md ops.toArray aC O:=by
    intro aC n
    obtain⟨PD,y,h⟩:=aZ aC n
    have i:=Py O Pt aC PD
    have j:ops[aC]?=some ops[aC]:=by simp [y]
    unfold C7 at i
    rw [c,j] at i
    simp only [Bool.or_eq_true,Bool.and_eq_true] at i
    have PE:((k0 [] ops).getD O 0).testBit aC ≠ true:=by
     intro d
     have:=DO w r O aN c J aC d
     have u:aC < b.size:=by rw [bM];exact y
     rw [Array.getD_eq_getD_getElem?,Array.getElem?_eq_getElem u] at this h
     simp at this h
     rw [this] at h
     cases h
    rcases i with i | ⟨PF,PG⟩
    ·exact absurd i PE
    ·exact⟨ops[aC],aN,by simp [y],by simpa using c,PF,fun c2 L=>D aC _ c2 L j,fun c2 L=>D O _ c2 L c,PG⟩
   have Pu:=DJ PC e
   have z:ops.toArray[O]?=some aN:=by simpa using c
   simp only [iQ,z] at Pu
   refine Bc z Pu fun v cI aH S=>?_
   refine bU _ _ _ (by simp [bM]) ?_ ?_ (p.trans aH) (by rw [V];exact S)
   ·intro aC PH j Pv R f d
    by_cases Pw:aC=O
    ·subst Pw
     rw [z] at j
     cases j
     have:=J R f d
     rw [Array.getD_eq_getD_getElem?,Array.getElem?_setIfInBounds]
     rw [Array.getD_eq_getD_getElem?] at this
     split
     ·rename_i PI
      split <;> simp_all
     ·exact this
    ·have PJ:b.getD aC false=true:=by
      rw [Array.getD_eq_getD_getElem?,Array.getElem?_setIfInBounds,if_neg (fun R=>Pw R.symm),← Array.getD_eq_getD_getElem?] at Pv
      exact Pv
     have:=w aC PH j PJ R f d
     rw [Array.getD_eq_getD_getElem?,Array.getElem?_setIfInBounds]
     rw [Array.getD_eq_getD_getElem?] at this
     split
     ·rename_i PI
      split
      ·rfl
      ·rename_i t;exact absurd (by rw [bM];exact Pt) t
     ·exact this
   ·rw [V];rw [T] at x;simp at x ⊢;omega
theorem Ig{md:Bool}{c0:Nat}{ops:List Oper}(k:sT ops=true){aF:Act→U→Prop}{Q:Exit→Act→World→Prop}{iE:World}
  (y:∀ a aB,eR iE aB→aF a aB.heap→Q .normal a aB):∀ (i:Nat) (b:Array Bool) (a:Act) (aB:World),b.size=ops.length→zB ops.toArray b→(rem ops.length b).length≤i→eR iE aB→
   anyS P E md c0 ops.toArray (k0 [] ops) aF (rem ops.length b).length (rem ops.length b) a aB.heap→wpAny P .any ops.toArray Q i b a aB:=by
 have PD:=k
 have z:∀ b:Array Bool,∀ O ∈ Region.ready .any ops.toArray b,O ∈ rem ops.length b∧∃ aN,ops[O]?=some aN∧∀ R ∈ aN.after,Region.binds .any R=true→b.getD R.on false=true:=by
  intro b O a4
  simp only [Region.ready,List.size_toArray,List.mem_filter,List.mem_range,Bool.and_eq_true,Bool.not_eq_true'] at a4
  obtain⟨aZ,V,p⟩:=a4
  refine⟨pL.2 ⟨aZ,V⟩,?_⟩
  have f:ops.toArray[O]?=some ops[O]:=by simp [aZ]
  rw [f] at p
  simp only [Option.map_some,Option.getD_some,Array.all_eq_true',Bool.or_eq_true,Bool.not_eq_true'] at p
  refine⟨ops[O],by simp [aZ],fun R g c=>?_⟩
  rcases p R g with Z | Z
  ·rw [Z] at c;cases c
  ·exact Z
 have Pt:∀ b:Array Bool,b.size=ops.length→∀ O l,rem ops.length b=O :: l→O ∈ Region.ready .any ops.toArray b:=by
  intro b bM O l d
  have a4:O ∈ rem ops.length b:=by rw [d];exact List.mem_cons_self
  have j:=pL.1 a4
  have Pu:∀ aC,aC < O→b.getD aC true=true:=by
   intro aC A
   cases h:b.getD aC true with
   | true=>rfl
   | false=>
    have m:aC ∈ rem ops.length b:=pL.2 ⟨by omega,h⟩
    have B:(rem ops.length b).Pairwise (·< ·):=List.Pairwise.sublist List.filter_sublist List.pairwise_lt_range
    rw [d] at B m
    rcases List.mem_cons.1 m with rfl | m
    ·omega
    ·have:=(List.pairwise_cons.1 B).1 aC m
     omega
  simp only [Region.ready,List.size_toArray,List.mem_filter,List.mem_range,Bool.and_eq_true,Bool.not_eq_true']
  refine⟨j.1,j.2,?_⟩
  have f:ops.toArray[O]?=some ops[O]:=by simp [j.1]
  rw [f]
  simp only [Option.map_some,Option.getD_some,Array.all_eq_true',Bool.or_eq_true,Bool.not_eq_true']
  intro R g
  cases c:Region.binds .any R with
  | false=>exact .inl rfl
  | true=>
   refine .inr ?_
   simp only [sT,List.all_eq_true,List.mem_range] at k
   have:=k O j.1
   rw [show ops[O]?=some ops[O] by simp [j.1]] at this
   simp only [List.all_eq_true] at this
   have:=this R (by simpa using g)
   rw [c] at this
   have q:R.on < O:=by simpa [Nat.blt_eq] using this
   have aZ:=Pu R.on q
   rw [Array.getD_eq_getD_getElem?] at aZ ⊢
   have r:R.on < b.size:=by rw [bM];omega
   rw [Array.getElem?_eq_getElem r] at aZ ⊢
   exact aZ
 have Pv:∀ b:Array Bool,(rem ops.length b).Nodup:=fun b=>List.Nodup.sublist List.filter_sublist List.nodup_range
 intro i
 induction i with
 | zero=>
  intro b a aB bM s Pw n e
  have C:rem ops.length b=[]:=List.length_eq_zero_iff.1 (by omega)
  have d:Region.ready .any ops.toArray b=[]:=by
   cases o:Region.ready .any ops.toArray b with
   | nil=>rfl
   | cons O l=>
    have:=(z b O (by rw [o];exact List.mem_cons_self)).1
    rw [C] at this
    cases this
  rw [C] at e
  exact⟨d,y a aB n e⟩
 | succ i bU=>
  intro b a aB bM s Pw n e
  refine⟨fun d=>?_,fun O a4=>?_⟩
  ·cases o:rem ops.length b with
   | nil=>rw [o] at e;exact y a aB n e
   | cons O l=>
    have:=Pt b bM O l o
    rw [d] at this
    cases this
  ·obtain⟨t,aN,f,D⟩:=z b O a4
   obtain⟨aI,bZ,u,F,aZ⟩:=DP bM t
   have Px:=(pL.1 t).1
   have d:pE (k0 [] ops) (rem ops.length b) O=true:=by
    unfold pE
    rw [List.all_eq_true]
    intro aC A
    have G:=pL.1 A
    cases c:((k0 [] ops).getD O 0).testBit aC with
    | false=>rfl
    | true=>
     have:=DO s k O aN f D aC c
     have r:aC < b.size:=by rw [bM];exact G.1
     have h:=G.2
     rw [Array.getD_eq_getD_getElem?,Array.getElem?_eq_getElem r] at this h
     simp at this h
     rw [this] at h
     cases h
   have H:del (rem ops.length b) O=rem ops.length (b.setIfInBounds O true):=by
    have I:=Pv b
    rw [u] at I
    rw [F,u,DG I]
   have Py:(rem ops.length b).length=(rem ops.length (b.setIfInBounds O true)).length+1:=by rw [u,F];simp;omega
   rw [Py] at e
   have w:ops.toArray[O]?=some aN:=by simpa using f
   have Pz:=e O aN t d w
   refine Bc w Pz fun v cI aH S=>?_
   refine bU _ _ _ (by simp [bM]) ?_ (by omega) (n.trans aH) (by rw [← H];rw [← H] at S;exact S)
   intro aC PA x J R g c
   by_cases T:aC=O
   ·subst T
    rw [w] at x
    cases x
    have:=D R g c
    rw [Array.getD_eq_getD_getElem?,Array.getElem?_setIfInBounds]
    rw [Array.getD_eq_getD_getElem?] at this
    split
    ·rename_i PB
     split <;> simp_all
    ·exact this
   ·have PC:b.getD aC false=true:=by
     rw [Array.getD_eq_getD_getElem?,Array.getElem?_setIfInBounds,if_neg (fun R=>T R.symm),← Array.getD_eq_getD_getElem?] at J
     exact J
    have:=s aC PA x PC R g c
    rw [Array.getD_eq_getD_getElem?,Array.getElem?_setIfInBounds]
    rw [Array.getD_eq_getD_getElem?] at this
    split
    ·rename_i PB
     split
     ·rfl
     ·rename_i q;exact absurd (by rw [bM];exact Px) q
    ·exact this
theorem DQ(j:hT P E){id n:Nat}{ops:Array Oper}{draw:Bool}(f:sV E n ops draw=true){X:Fr}{a:Act}{aB:World}(o:gB n X a){aF:Fr→U→Prop}
  (g:bif wV E draw ops.toList then pF P E aB.heap.size ops.toList (k0 [] ops.toList) ops.toList.length (List.range ops.toList.length) X aB.heap aF
   else jG P E (qD E draw ops.toList) aB.heap.size ops.toList ops.toList X aB.heap aF) {Q:Exit→Act→World→Prop} (p:∀ b c cI,gB n b c→eR aB cI→aF b cI.heap→Q .normal c cI) :
  (Code.region id ops draw).wp P Q a aB:=by
 obtain⟨l⟩:=ops
 simp only [sV,Bool.and_eq_true] at f
 obtain⟨u,f⟩:=f
 have q:l.all (pH n)=true:=u
 cases draw with
 | false=>
  have w:jG P E (qD E false l) aB.heap.size l l X aB.heap aF:=g
  have s:=zA j (S:=0) (fun aC=>by simp) q o w
  refine wp_region ?_
  have key:∀ (h:List Nat) (a:Act) (e:World),eR aB e→iQ P E (qD E false l) aB.heap.size l.toArray (fun c K=>∃ b,gB n b c∧aF b K) h a e.heap→wpOps P l.toArray Q h a e:=by
   intro h
   induction h with
   | nil=>intro a e aH ⟨b,r,S⟩;exact p b a e r aH S
   | cons O h bU=>
    intro a e aH S
    rw [wpOps_cons]
    simp only [iQ] at S
    cases k:l.toArray[O]? with
    | none=>simp only [k] at S;unfold wpOp;simp only [k];exact bU a e aH S
    | some aN=>simp only [k] at S;exact Bc k S fun v cI x cS=>bU _ cI (aH.trans x) cS
  rw [List.range_eq_range']
  exact key _ a aB (eR.refl aB) (by simpa using s)
 | true=>
  simp only [Bool.not_true,Bool.false_or,Bool.and_eq_true] at f
  have t:eR aB { aB with drawn:=aB.drawn+1 }:=⟨rfl,rfl,rfl⟩
  refine wp_region_any j.mixed ?_
  have m:rem l.length (Array.replicate l.length false)=List.range' 0 l.length:=by
   unfold rem
   rw [List.range_eq_range',List.filter_eq_self]
   intro aC y
   rw [Array.getD_eq_getD_getElem?,Array.getElem?_replicate]
   have:aC < l.length:=by simpa [List.mem_range'_1] using y
   simp [this]
  have z:zB l.toArray (Array.replicate l.toArray.size false):=by
   intro O aN _ d
   rw [Array.getD_eq_getD_getElem?,Array.getElem?_replicate] at d
   simp only [List.size_toArray] at d
   split at d <;> simp at d
  cases i:wV E true l with
  | true=>
   rw [show({ toList:=l }:Array Oper).toList=l from rfl,i,cond_true] at g
   have A:=Ic j q (by simpa using f.1) (by simp) List.nodup_range o g
   refine Ig (E:=E) (md:=true) (c0:=aB.heap.size) f.2 (aF:=fun c K=>∃ b,gB n b c∧aF b K) (iE:=aB) ?_ _ _ _ _ (by simp) z ?_ t ?_
   ·rintro c cI aH ⟨b,r,S⟩
    exact p b c cI r aH S
   ·simp only [List.size_toArray];rw [m];simp
   ·simp only [List.size_toArray];rw [m,← List.range_eq_range',List.length_range];exact A
  | false=>
  rw [show({ toList:=l }:Array Oper).toList=l from rfl,i,cond_false] at g
  have s:=zA j (S:=0) (fun aC=>by simp) q o g
  have B:sU E (qD E true l) l=true:=by
   unfold wV at i
   unfold qD
   cases aZ:sU E false l with
   | true=>simp [aZ]
   | false=>simp [aZ] at i ⊢;exact i
  refine Ie (md:=qD E true l) (c0:=aB.heap.size) B (aF:=fun c K=>∃ b,gB n b c∧aF b K) (iE:=aB) ?_ _ _ _ _ (by simp) ?_ ?_ t ?_
  ·rintro c cI aH ⟨b,r,S⟩
   exact p b c cI r aH S
  ·intro O aN _ d
   rw [Array.getD_eq_getD_getElem?,Array.getElem?_replicate] at d
   simp only [List.size_toArray] at d
   split at d <;> simp at d
  ·simp only [List.size_toArray];rw [m];simp
  ·simp only [List.size_toArray];rw [m];exact s
def a1.up:a1→Exit
 | .normal=>.normal
 | .exit id=>.exit id
 | .ret=>.ret
theorem Ih(v:hT P E){n:Nat}:∀ {c:Code} {Q:a1→Fr→U→Prop} {X:Fr} {a:Act} {aB:World} {i:Exit→Act→World→Prop},nT E n c=true→gB n X a→den P E c Q X aB.heap→
  (∀ R g h cI,gB n g h→eR aB cI→Q R g cI.heap→i R.up h cI)→c.wp P i a aB:=by
 intro c
 induction c with
 | skip=>intro Q X a aB i f e b d;exact wp_skip (d .normal X a aB e (eR.refl aB) b)
 | label l=>intro Q X a aB i f e b d;exact wp_label (d .normal X a aB e (eR.refl aB) b)
 | ret=>intro Q X a aB i f e b d;exact wp_ret (d .ret X a aB e (eR.refl aB) b)
 | exit id=>intro Q X a aB i f e b d;exact wp_exit (d (.exit id) X a aB e (eR.refl aB) b)
 | region id ops draw=>
  intro Q X a aB i f e b d
  exact DQ v f e b fun g h cI r aH S=>d .normal g h cI r aH S
 | seq N aP o p=>
  intro Q X a aB i f e b d
  simp only [nT,Bool.and_eq_true] at f
  refine wp_seq (o f.1 e b fun R g h cI r aH S=>?_)
  cases R with
  | normal=>exact p f.2 r S fun w x bJ j y s2 z=>d w x bJ j y (aH.trans s2) z
  | exit id=>exact d (.exit id) g h cI r aH S
  | ret=>exact d .ret g h cI r aH S
 | cond c N aP o p=>
  intro Q X a aB i f e b d
  simp only [nT,Bool.and_eq_true] at f
  simp only [den] at b
  split at b
  ·rename_i t q
   have A:a.eval c=.bool t:=by rw [e.cW];exact q
   refine wp_cond A ?_
   cases t with
   | true=>simp only [cond_true,yT q] at b;exact o f.1 e b d
   | false=>simp only [cond_false,yT q] at b;exact p f.2 e b d
  ·cases b
 | block id c bU=>
  intro Q X a aB i f e b d
  refine wp_block (bU f e b fun R g h cI r aH S=>?_)
  cases R with
  | normal=>exact d .normal g h cI r aH S
  | ret=>exact d .ret g h cI r aH S
  | exit u=>
   simp only [a1.inBlock] at S
   simp only [a1.up,Exit.inBlock]
   cases k:Nat.beq u id with
   | true=>
    simp only [k,cond_true] at S
    rw [if_pos (Nat.eq_of_beq_eq_true k)]
    exact d .normal g h cI r aH S
   | false=>
    simp only [k,cond_false] at S
    rw [if_neg (fun R=>by subst R;simp at k)]
    exact d (.exit u) g h cI r aH S
 | scope c bU=>
  intro Q X a aB i f e b d
  refine wp_scope_straight (bU f e b fun R g h cI r aH S=>?_)
  cases R <;> exact d _ g h cI r aH S
 | loop c bU=>
  intro Q X a aB i f e b d
  obtain⟨m,b⟩:=b
  refine wp_loop_rounds m ?_
  have key:∀ m X a j,gB n X a→eR aB j→iter (fun B=>den P E c (a1.then B Q)) m X j.heap→Code.rounds P c i m a j:=by
   intro m
   induction m with
   | zero=>intro X a j _ _ Z;exact Z.elim
   | succ m C=>
    intro X a j e aH Z
    rw [rounds_succ]
    refine bU f e Z fun R g h cI r s S=>?_
    cases R with
    | normal=>exact C g h cI r (aH.trans s) S
    | exit id=>exact d (.exit id) g h cI r (aH.trans s) S
    | ret=>exact d .ret g h cI r (aH.trans s) S
  exact key m X a aB e (eR.refl aB) b
 | _=>intro Q X a aB i f e b d;exact b.elim
theorem Be(args:List Value)(n:Nat)(b:args.length≤n):gB n (u0 args) { tmps:=args.toArray ++ Array.replicate (n - args.length) undef,defers:=[] }:=by
 refine⟨by simp;omega,rfl,fun t=>?_⟩
 unfold u0
 rw [Array.getD_eq_getD_getElem?]
 by_cases Z:t < args.length
 ·rw [Array.getElem?_append_left (by simpa using Z)]
  simp [Z]
 ·rw [Array.getElem?_append_right (by simpa using Z)]
  have a:args[t]?=none:=by simp;omega
  rw [a]
  simp only [List.size_toArray]
  rw [Array.getElem?_replicate]
  split <;> rfl
def w0(tmps:Array Value):ResultVar→Sem Value
 | .tmp t=>pure (tmps.getD t undef)
 | .cell a t=>do loadVar t (← asAddr (tmps.getD a undef))
theorem zC(c:hT P E){n:Nat}{X:Fr}{a:Act}(b:gB n X a){aB:World}:∀ {l:List ResultVar} {aF:List Value→Prop},pG E X aB.heap l aF→∃ bV,aF bV∧(l.mapM (w0 a.tmps)).run P aB=Result.ok bV aB
 | [],aF,Z=>⟨[],Z,rfl⟩
 | .tmp t :: l,aF,Z=>by
  obtain⟨bV,aZ,d⟩:=zC c b (l:=l) Z
  refine⟨_,aZ,?_⟩
  rw [List.mapM_cons]
  simp only [w0,Sem.run_bind,Sem.run_pure,Result.andThen,d,b.get t]
 | .cell N t :: l,aF,Z=>by
  simp only [pG] at Z
  split at Z
  ·rename_i aE O f g
   obtain⟨v,aZ,d⟩:=Dm (P:=P) c g Z
   obtain⟨bV,h,i⟩:=zC c b (l:=l) aZ
   refine⟨_,h,?_⟩
   have e:=d aB rfl
   simp only [Instr.loadAt,Instr.sureAddr,pure_bind] at e
   rw [List.mapM_cons]
   simp only [w0,Sem.run_bind,Sem.run_pure,Result.andThen,i,b.get N,f,asAddr,e]
  ·cases Z
theorem Ii(e:hT P E){f:FuncId}{fn:Func}{c:Code}{dC:List ResultVar}(g:P.funcs[f]?=some fn)(h:fn.body=some c)(i:nT E fn.ntmps c=true)(j:fn.results.toList=dC)
  {args:List Value} (k:args.length≤fn.ntmps) {Z:U} {Y:Value→U→Prop}
  (l:den P E c (fun R X K=>match R with | .exit _=>False | _=>pG E X K dC fun bV=>Y (u1 bV) K) (u0 args) Z):mZ P f args.toArray Z Y:=by
 intro aB m
 subst m
 refine calls_of_wp g h ?_
 have n:=Be args fn.ntmps k
 have o:fn.ntmps - args.toArray.size=fn.ntmps - args.length:=by simp
 rw [o]
 refine Ih e i n l fun R p d cI r aH S=>?_
 have b:(pG E p cI.heap dC fun bV=>Y (u1 bV) cI.heap)→∃ v,(results fn d.tmps).run P cI=.ok v cI∧Y v cI.heap:=by
  intro S
  obtain⟨bV,aZ,a⟩:=zC e r S
  refine⟨_,?_,aZ⟩
  have b:results fn d.tmps=(fn.results.mapM (w0 d.tmps) >>= fun bV=>pure (if Z:bV.size=1 then bV[0] else .tuple bV)):=rfl
  rw [b,Sem.run_bind,Array.mapM_eq_mapM_toList,Sem.run_map,j,a]
  simp only [Result.andThen,Sem.run_pure]
  congr 1
  match bV with
  | []=>rfl
  | [t]=>rfl
  | t :: q :: jD=>simp [u1]
 cases R with
 | normal=>obtain⟨v,aZ,a⟩:=b S;exact⟨r.defers,v,aZ,v,rfl,aH,a⟩
 | ret=>obtain⟨v,aZ,a⟩:=b S;exact⟨r.defers,v,aZ,v,rfl,aH,a⟩
 | exit id=>exact S.elim
end
set_option linter.unusedSimpArgs false
theorem sW{n:Int}{aF a:Int→Prop}(b:∀ n,aF n→a n)(Z:a5 n aF):a5 n a:=⟨b _ Z.out⟩
theorem Ij{op:BinOp}{S:IntKind}{a L:Int}{aF c:Value→Prop}(b:∀ v,aF v→c v)(Z:yY op S a L aF):yY op S a L c:=by
 cases op <;> first
  | exact b _ Z
  | exact sW (fun n=>b _) Z
  | exact⟨Z.1,sW (fun n=>b _) Z.2⟩
  | exact Z
theorem Ik{E:Env}{op:BinOp}{t:TypeId}{N aP:Value}{aF c:Value→Prop}(b:∀ v,aF v→c v)(Z:uS E op t N aP aF):uS E op t N aP c:=by
 unfold uS at *
 split at Z
 ·rename_i S a cS L
  split at Z
  ·exact⟨Z.1,sW (fun n=>b _) Z.2⟩
  ·exact⟨Z.1,sW (fun n=>b _) Z.2⟩
  ·cases R:qC S cS with
   | false=>rw [R] at Z;cases Z
   | true=>rw [R] at Z;exact Ij b Z
 ·split at Z
  ·exact⟨Z.1,b _ Z.2⟩
  ·exact b _ Z
  ·exact b _ Z
  ·cases Z
 ·split at Z
  ·split at Z
   ·exact b _ Z
   ·exact b _ Z
   ·cases Z
  ·cases Z
 ·split at Z
  ·split at Z
   ·exact b _ Z
   ·exact b _ Z
   ·cases Z
  ·cases Z
 ·cases Z
theorem Il{op:UnOp}{N:Value}{aF b:Value→Prop}(a:∀ v,aF v→b v)(Z:uT op N aF):uT op N b:=by
 unfold uT at *
 split at Z
 ·exact sW (fun n=>a _) Z
 ·exact sW (fun n=>a _) Z
 ·exact a _ Z
 ·cases Z
theorem Im{eK:IntKind}{v:Value}{aF a:Int→Prop}(b:∀ n,aF n→a n)(Z:aW eK v aF):aW eK v a:=by
 obtain⟨m,R,g⟩:=bN Z
 subst R
 have this:∀ aC:IntKind,qC aC aC=true:=fun aC=>by cases aC <;> rfl
 simp only [aW,this,cond_true]
 exact b _ g
theorem zD{S:hS}{v:Value}{aF d:Value→Prop}(b:∀ v,aF v→d v)(Z:sO S v aF):sO S v d:=by
 cases S with
 | int S=>exact Im (fun n=>b _) Z
 | bool=>obtain⟨n,R,g⟩:=iP (show eS v _ from Z);subst R;exact b _ g
 | str=>obtain⟨n,R,g⟩:=Dc (show yW v _ from Z);subst R;exact b _ g
 | slice=>obtain⟨a,l,c,R,g⟩:=b4 (show aQ v _ from Z);subst R;exact b _ g
 | ptr=>obtain⟨n,R,g⟩:=Dd (show yX v _ from Z);subst R;exact b _ g
theorem DR:∀ {b:List hS} {l:List Value} {aF a:List Value→Prop},(∀ v,aF v→a v)→wP b l aF→wP b l a
 | [],l,aF,a,c,Z=>by obtain⟨R,g⟩:=hU Z;subst R;exact c _ g
 | S :: b,l,aF,a,c,Z=>by
  obtain⟨v,bV,R,g⟩:=e7 Z
  subst R
  exact zD (fun e d=>DR (fun f=>c _) d) g
theorem DS{O:dQ}{v:Value}{aF a:Value→Prop}(b:∀ v,aF v→a v)(Z:sP O v aF):sP O v a:=by
 unfold sP at *
 split at Z
 ·obtain⟨c2,R,g⟩:=A2 Z
  subst R
  rename_i R
  exact DR (fun bV=>b _) g
 ·split at Z
  ·rename_i c S R
   exact zD b Z
  ·cases Z
theorem DT{E:Env}:∀ {jD:List TypeId} {l:List Value} {aF a:List Value→Prop},(∀ v,aF v→a v)→uQ E jD l aF→uQ E jD l a
 | [],l,aF,a,b,Z=>by obtain⟨R,g⟩:=hU Z;subst R;exact b _ g
 | t :: jD,l,aF,a,b,Z=>by
  obtain⟨v,bV,R,g⟩:=e7 Z
  subst R
  unfold uQ cQ
  simp only
  split at g
  ·rename_i O R
   exact DS (fun d c=>DT (fun e=>b _) c) g
  ·cases g
theorem Bf{E:Env}{t:TypeId}{v:Value}{aF b:Value→Prop}(a:∀ v,aF v→b v)(Z:rC E t v aF):rC E t v b:=by
 unfold rC at *
 split at Z
 ·rename_i O R
  split at Z
  ·rename_i jD c
   obtain⟨c2,R,g⟩:=Df Z
   subst R
   exact DT (fun bV=>a _) g
  ·rename_i d
   exact DS a Z
 ·exact a _ Z
theorem DU{a:M}{l:Nat}{O:Int}{fI:Nat}{aF b:Addr→Prop}(c:∀ aE,aF aE→b aE)(Z:c7 a l O fI aF):c7 a l O fI b:=by
 obtain⟨aX,Z⟩:=Z
 refine⟨aX,?_⟩
 cases a with
 | none=>exact Z
 | some p=>exact c _ Z
theorem Io{aH:ByteArray}{O:Int}{aF a:Int→Prop}(b:∀ aE,aF aE→a aE)(Z:wQ aH O aF):wQ aH O a:=by
 obtain⟨aX,Z⟩:=Z
 refine⟨aX,?_⟩
 split at Z
 ·rename_i R;exact b _ Z
 ·cases Z
theorem DV{Z:U}{aE:Addr}{aF b:Value→Prop}(c:∀ v,aF v→b v)(a:fG Z aE aF):fG Z aE b:=by
 unfold fG at *
 split at a
 ·rename_i R;exact c _ a
 ·cases a
theorem DW{Z:U}{aE:Addr}:∀ {a:List hS} {O:Nat} {aF b:List Value→Prop},(∀ v,aF v→b v)→uU Z aE O a aF→uU Z aE O a b
 | [],O,aF,b,c,d=>c _ d
 | S :: a,O,aF,b,c,d=>DV (fun v g=>zD (fun a a=>DW (fun bV=>c _) a) g) d
theorem Ip{O:dQ}{Z:U}{aE:Addr}{aF b:Value→Prop}(c:∀ v,aF v→b v)(a:uV O Z aE aF):uV O Z aE b:=by
 obtain⟨ty,fW,L⟩:=O
 cases ty with
 | struct eL=>exact DW (fun bV=>c _) a
 | tuple jD=>exact a
 | _=>
  match fW,a with
  | [S],a=>exact DV (fun v g=>zD c g) a
theorem w1{v:Option Value}{aV aP:Nat}{aF a:Nat→Prop}(b:∀ n,aF n→a n)(Z:pC v aV aP aF):pC v aV aP a:=by
 unfold pC at *
 split at Z
 ·exact b _ Z
 ·exact⟨Z.1,b _ Z.2⟩
 ·cases Z
theorem Iq{fI:Nat}{a:M}{l c:Nat}{bY a4 b:Option Value}{aF d:M→Nat→Nat→Prop}(e:∀ a l c,aF a l c→d a l c)(Z:iD fI a l c bY a4 b aF):iD fI a l c bY a4 b d:=by
 unfold iD at *
 split at Z
 ·cases Z
 ·rename_i i
  exact w1 (fun m g=>w1 (fun K f=>w1 (fun l h=>e _ _ _ h) f) g) Z
theorem Ir{aH:ByteArray}{bY a4:Option Value}{aF a:ByteArray→Prop}(b:∀ aH,aF aH→a aH)(Z:wR aH bY a4 aF):wR aH bY a4 a:=
 w1 (fun K a=>w1 (fun l c=>b _ c) a) Z
theorem DX:∀ {rest:List Value} {N:Value} {aF b:Value→Prop},(∀ v,aF v→b v)→m0 N rest aF→m0 N rest b
 | [],N,aF,b,c,Z=>by unfold m0 at *;exact c _ Z
 | aP :: rest,N,aF,b,c,Z=>by
  cases N with
  | int S a=>
   cases aP with
   | int cS L=>unfold m0 at *;exact DX c Z
   | _=>simp [m0] at Z
  | _=>cases aP <;> simp [m0] at Z
theorem DY:∀ {rest:List Value} {N:Value} {aF b:Value→Prop},(∀ v,aF v→b v)→m1 N rest aF→m1 N rest b
 | [],N,aF,b,c,Z=>by unfold m1 at *;exact c _ Z
 | aP :: rest,N,aF,b,c,Z=>by
  cases N with
  | int S a=>
   cases aP with
   | int cS L=>unfold m1 at *;exact DY c Z
   | _=>simp [m1] at Z
  | _=>cases aP <;> simp [m1] at Z
theorem Is{E:Env}{t:TypeId}{v:Value}{aF a:Value→Prop}(b:∀ v,aF v→a v)(Z:wS E t v aF):wS E t v a:=by
 unfold wS at *
 split at Z
 ·rename_i R;exact b _ Z
 ·rename_i R;exact b _ Z
 ·cases Z
theorem It{E:Env}{c:Call}{X:Fr}{aF b:Value→Prop}(a:∀ v,aF v→b v)(Z:uX E c X aF):uX E c X b:=by
 obtain⟨callee,args,pK⟩:=c
 unfold uX at *
 simp only at *
 split at Z
 ·split at Z
  ·rename_i e d;exact Is a Z
  ·cases Z
 ·split at Z
  ·rename_i R;exact DX a Z
  ·cases Z
 ·split at Z
  ·rename_i R;exact DY a Z
  ·cases Z
 ·split at Z
  ·rename_i R
   split at Z
   ·rename_i d;exact⟨Z.1,a _ Z.2⟩
   ·cases Z
  ·rename_i R
   split at Z
   ·rename_i d;exact⟨Z.1,a _ Z.2⟩
   ·cases Z
  ·cases Z
 ·cases Z
theorem Bg{E:Env}{op:Op}{X:Fr}{Z:U}{aF j:Value→Prop}(d:∀ v,aF v→j v)(b:h5 E op X Z aF):h5 E op X Z j:=by
 cases op with
 | move N=>exact d _ b
 | assign N=>exact d _ b
 | pick c a L=>
  simp only [h5] at *
  split at b
  ·rename_i t R
   cases t <;> exact d _ b
  ·cases b
 | load t a=>
  simp only [h5] at *
  split at b
  ·rename_i e g;exact Ip d b
  ·cases b
 | binOp op t N aP o=>exact Ik d b
 | unOp op t N=>exact Il d b
 | convert aH aV N=>
  simp only [h5] at *
  split at b
  ·rename_i e g h;exact sW (fun n=>d _) b
  ·cases b
 | indexAddr t N O=>
  simp only [h5] at *
  split at b
  ·rename_i e g h
   split at b
   ·rename_i i;exact DU (fun aE=>d _) b
   ·cases b
  ·split at b
   ·split at b
    ·exact DU (fun aE=>d _) b
    ·cases b
   ·cases b
  ·cases b
 | index t N O=>
  simp only [h5] at *
  split at b
  ·rename_i e g h;exact Io (fun aE=>d _) b
  ·cases b
 | extract N O=>
  simp only [h5] at *
  split at b
  ·rename_i e
   split at b
   ·rename_i g;exact d _ b
   ·cases b
  ·cases b
 | fieldAddr aH N f=>
  simp only [h5] at *
  split at b
  ·rename_i e g
   split at b
   ·rename_i h
    split at b
    ·rename_i O i
     cases k:Nat.beq O.leaves.length 0 with
     | true=>rw [k] at b;cases b
     | false=>rw [k] at b;exact d _ b
    ·cases b
   ·cases b
  ·cases b
 | field t N f=>
  simp only [h5] at *
  split at b
  ·rename_i e g
   split at b
   ·rename_i h
    split at b
    ·rename_i i;exact d _ b
    ·cases b
    ·rename_i O p q i
     split at b
     ·rename_i r
      exact d _ b
     ·cases b
    ·cases b
   ·cases b
  ·cases b
 | build t parts=>
  simp only [h5] at *
  split at b
  ·rename_i eL fW L e
   cases m:(!eL.isEmpty && sQ E eL) with
   | false=>rw [m] at b;cases b
   | true=>
    rw [m] at b
    simp only [cond_true] at *
    split at b
    ·rename_i g;exact d _ b
    ·cases b
  ·cases b
 | nilCheck N=>
  simp only [h5] at *
  split at b
  ·rename_i e;exact d _ b
  ·cases b
 | slice t N bY a4 s=>
  simp only [h5] at *
  split at b
  ·rename_i e g
   split at b
   ·rename_i h;exact Iq (fun a l c=>d _) b
   ·cases b
  ·rename_i e g
   split at b
   ·exact Ir (fun aH=>d _) b
   ·cases b
  ·cases b
 | call c=>exact It d b
 | _=>exact b
theorem DZ{aE:Addr}:∀ {l:List Value} {O:Nat} {Z:U} {aF b:U→Prop},(∀ Z,aF Z→b Z)→sR Z aE O l aF→sR Z aE O l b
 | [],O,Z,aF,b,c,a=>c _ a
 | v :: bV,O,Z,aF,b,c,a=>by
  unfold sR at *
  cases d:m2 v with
  | false=>rw [d] at a;cases a
  | true=>rw [d] at a;exact⟨a.1,DZ c a.2⟩
theorem Iu{O:dQ}{Z:U}{aE:Addr}{v:Value}{aF c:U→Prop}(d:∀ Z,aF Z→c Z)(a:uY O Z aE v aF):uY O Z aE v c:=by
 cases v with
 | agg c2=>
  unfold uY at *
  cases b:Nat.beq c2.toList.length O.leaves.length with
  | false=>simp only [b] at a;cases a
  | true=>simp only [b] at *;exact DZ d a
 | tuple c2=>exact a
 | _=>
  unfold uY at *
  cases b:Nat.beq 1 O.leaves.length with
  | false=>simp only [b] at a;cases a
  | true=>simp only [b] at *;exact⟨a.1,d _ a.2⟩
theorem Iv{Z:U}{R:TypeId}{O:dQ}{a:M}{l c:Nat}{N:Value}{aF e:M→Nat→Nat→U→Prop}(b:∀ a l c Z,aF a l c Z→e a l c Z)(f:hF Z R O a l c N aF):hF Z R O a l c N e:=by
 obtain⟨n,c2,aZ,g,h,i⟩:=f
 refine⟨n,c2,aZ,g,fun d=>?_,fun d=>?_⟩
 ·have:=h d
  cases a with
  | none=>exact b _ _ _ _ this
  | some p=>exact⟨this.1,b _ _ _ _ this.2⟩
 ·obtain⟨j,k,m,o,q,r⟩:=i d
  exact⟨j,k,m,o,q,fun s t=>b _ _ _ _ (r s t)⟩
theorem Iw{Z:U}{fI:Nat}{a:M}{l:Nat}{N:Value}{aF c:Int→U→Prop}(d:∀ n Z,aF n Z→c n Z)(e:m3 Z fI a l N aF):m3 Z fI a l N c:=by
 obtain⟨n,c2,aZ,f,b⟩:=e
 refine⟨n,c2,aZ,f,?_⟩
 cases a with
 | none=>exact d _ _ b
 | some p=>exact⟨b.1,d _ _ b.2⟩
theorem Ix{Z:U}{O:dQ}{a:M}{l:Nat}{aF d:U→Prop}(c:∀ Z,aF Z→d Z)(b:y0 Z O a l aF):y0 Z O a l d:=by
 cases a with
 | none=>exact c _ b
 | some p=>
  cases l with
  | zero=>exact c _ b
  | succ l=>exact⟨b.1,c _ b.2⟩
theorem Iy{Z:U}{aE:Addr}{b d:Int→Int→U→Prop}{e f:Prop}(aZ:∀ O c Z,b O c Z→d O c Z)(aX:e→f)(g:y1 Z aE b e):y1 Z aE d f:=by
 obtain⟨a,aH,pos,L,c,aV⟩:=g
 exact⟨a,aH,pos,L,fun R=>aZ _ _ _ (c R),fun R=>aX (aV R)⟩
theorem Iz{Z:U}{a:M}{l:Nat}{aF b:ByteArray→Prop}(c:∀ aH,aF aH→b aH)(d:y2 Z a l aF):y2 Z a l b:=by
 cases a with
 | none=>exact c _ d
 | some p=>obtain⟨e,aZ,f,g⟩:=d;exact⟨e,aZ,f,c _ g⟩
theorem Bh{P:Program}{E:Env}{op:Op}{t0:TypeId}{X:Fr}{Z:U}{aF k:Value→U→Prop}(d:∀ v Z,aF v Z→k v Z)(b:jF P E op t0 X Z aF):jF P E op t0 X Z k:=by
 cases op with
 | range t N=>
  simp only [jF] at *
  split at b
  ·exact d _ _ b
  ·cases b
 | next N L=>
  cases L with
  | false=>exact b
  | true=>
   simp only [jF,cond_true] at *
   split at b
   ·exact Iy (fun _ _ _=>d _ _) (d _ _) b
   ·cases b
 | convert aH aV N=>
  simp only [jF] at *
  split at b
  ·split at b
   ·exact Iz (fun _=>d _ _) b
   ·cases b
  ·cases b
 | store t N v=>
  simp only [jF] at *
  split at b
  ·rename_i e h;exact Iu (fun Z=>d _ _) b
  ·cases b
 | box R v=>exact d _ _ b
 | alloc R=>
  simp only [jF] at *
  split at b
  ·cases b
  ·rename_i O f e
   exact d _ _ b
  ·cases b
 | makeSlice t l c=>
  simp only [jF] at *
  split at b
  ·rename_i e h j
   split at b
   ·cases b
   ·rename_i O f i
    exact⟨b.1,d _ _ b.2⟩
   ·cases b
  ·cases b
 | buildSlice t n parts=>
  simp only [jF] at *
  split at b
  ·rename_i e
   split at b
   ·cases b
   ·rename_i O f i
    cases m:Nat.ble (n*O.leaves.length) 16777216 with
    | false=>rw [m] at b;cases b
    | true=>
     rw [m] at b
     simp only [cond_true] at *
     split at b
     ·exact d _ _ b
     ·cases b
   ·cases b
  ·cases b
 | call c=>
  obtain⟨callee,args,pK⟩:=c
  simp only [jF] at *
  split at b
  ·split at b
   ·rename_i aH N t p e h
    cases bM:uZ E p with
    | false=>rw [bM] at b;cases b
    | true=>
     rw [bM] at b
     simp only [cond_true] at *
     split at b
     ·rename_i j i
      split at b
      ·cases b
      ·rename_i O f o
       exact Iv (fun a l c Z=>d _ _) b
      ·cases b
     ·cases b
   ·cases b
  ·split at b
   ·rename_i e h
    split at b
    ·rename_i j i
     split at b
     ·cases b
     ·rename_i O f o
      exact Iw (fun n Z=>d _ _) b
     ·cases b
    ·cases b
   ·cases b
  ·split at b
   ·rename_i e h
    split at b
    ·rename_i j i
     split at b
     ·cases b
     ·rename_i O f o
      exact Ix (fun Z=>d _ _) b
     ·cases b
    ·cases b
   ·cases b
  ·split at b
   ·rename_i e;exact mZ.mono b fun v K g=>Bf (fun q=>d _ _) g
   ·cases b
  ·cases b
 | _=>exact b
theorem IA{P:Program}{E:Env}{op:Op}{t0:TypeId}{X:Fr}{Z:U}{aF b:Value→Prop}(d:∀ v,aF v→b v)(a:sS P E op t0 X Z aF):sS P E op t0 X Z b:=by
 cases op with
 | call c=>
  simp only [sS] at *
  split at a
  ·obtain⟨v,aZ,e⟩:=a
   exact⟨v,aZ,Bf d e⟩
  ·cases a
 | _=>exact a
theorem zE{P:Program}{E:Env}{md:Bool}{c0:Nat}{aN:Oper}{X:Fr}{Z:U}{aF d:Value→U→Prop}(b:∀ v Z,aF v Z→d v Z)(a:m4 P E md c0 aN X Z aF):m4 P E md c0 aN X Z d:=by
 unfold m4 at *
 cases c:gI E aN.op with
 | pure=>simp only [c] at *;exact Bg (fun v=>b v _) a
 | load=>
  simp only [c] at *
  cases md with
  | false=>exact Bg (fun v=>b v _) a
  | true=>
   simp only [cond_true] at *
   split at a
   ·exact⟨a.1,Bg (fun v=>b v _) a.2⟩
   ·cases a
 | quiet=>simp only [c] at *;exact IA (fun v=>b v _) a
 | call=>
  simp only [c] at *
  cases md with
  | false=>simp only [cond_false] at *;exact Bh b a
  | true=>simp only [cond_true] at *;exact Bh (fun v K S=>⟨S.1,b _ _ S.2⟩) a
 | act=>simp only [c] at *;exact Bh b a
theorem u9{P:Program}{E:Env}{md:Bool}{c0:Nat}{all:List Oper}:∀ {l:List Oper} {X:Fr} {Z:U} {aF c:Fr→U→Prop},(∀ X Z,aF X Z→c X Z)→jG P E md c0 all l X Z aF→jG P E md c0 all l X Z c
 | [],X,Z,aF,c,b,a=>b _ _ a
 | aN :: rest,X,Z,aF,c,b,a=>by
  unfold jG at *
  split at a
  ·rename_i R;exact zE (fun v K=>u9 b) a
  ·rename_i aC want R
   split at a
   ·cases a
   ·rename_i t d
    split at a
    ·rename_i L e
     cases L <;> cases want <;> simp only [cond_true,cond_false] at*<;> first
      | exact u9 b a
      | exact zE (fun v K=>u9 b) a
    ·exact u9 b a
    ·cases a
theorem D0{P:Program}{E:Env}{c0:Nat}{all:List Oper}{O:Nat}{X:Fr}{Z:U}{aF b:Fr→U→Prop}(c:∀ X Z,aF X Z→b X Z)(a:rE P E c0 all O X Z aF):rE P E c0 all O X Z b:=by
 unfold rE at *
 split at a
 ·exact u9 c a
 ·cases a
theorem D1{f g:Nat→Prop}(a:∀ O,f O→g O):∀ {l:List Nat},wW f l→wW g l
 | [],_=>trivial
 | [O],Z=>a O Z
 | O :: aC :: l,Z=>⟨a O Z.1,D1 a Z.2⟩
theorem Bi{P:Program}{E:Env}{c0:Nat}{all:List Oper}{c:List Nat}{aF d:Fr→U→Prop}(b:∀ X Z,aF X Z→d X Z):∀ {n:Nat} {todo:List Nat} {X:Fr} {Z:U},pF P E c0 all c n todo X Z aF→pF P E c0 all c n todo X Z d
 | 0,_,X,Z,a=>b _ _ a
 | n+1,todo,X,Z,a=>by
  unfold pF at *
  split at a
  ·rename_i R;exact D0 (fun X Z=>Bi b) a
  ·rename_i R;exact D1 (fun O g=>D0 (fun X Z=>Bi b) g) a
theorem w2{P:Program}{E:Env}:∀ {c:Code} {Q d:a1→Fr→U→Prop} {X:Fr} {Z:U},(∀ R X Z,Q R X Z→d R X Z)→den P E c Q X Z→den P E c d X Z:=by
 intro c
 induction c with
 | skip=>intro Q d X Z b a;exact b _ _ _ a
 | label l=>intro Q d X Z b a;exact b _ _ _ a
 | ret=>intro Q d X Z b a;exact b _ _ _ a
 | exit id=>intro Q d X Z b a;exact b _ _ _ a
 | region id ops draw=>
  intro Q d X Z b a
  simp only [den] at *
  cases j:wV E draw ops.toList with
  | true=>rw [j] at a;simp only [cond_true] at a ⊢;exact Bi (b _) a
  | false=>rw [j] at a;simp only [cond_false] at a ⊢;exact u9 (b _) a
 | seq N aP e f=>
  intro Q d X Z b a
  refine e (fun R k K g=>?_) a
  cases R with
  | normal=>exact f b g
  | exit id=>exact b _ _ _ g
  | ret=>exact b _ _ _ g
 | cond c N aP e f=>
  intro Q d X Z b a
  simp only [den] at *
  split at a
  ·rename_i t R
   cases t with
   | true=>exact e b a
   | false=>exact f b a
  ·cases a
 | block id c bU=>
  intro Q d X Z b a
  refine bU (fun R k K g=>?_) a
  cases R with
  | normal=>exact b _ _ _ g
  | ret=>exact b _ _ _ g
  | exit o=>
   simp only [a1.inBlock] at *
   cases m:Nat.beq o id with
   | true=>rw [m] at g;exact b _ _ _ g
   | false=>rw [m] at g;exact b _ _ _ g
 | scope c bU=>intro Q d X Z b a;exact bU b a
 | loop c bU=>
  intro Q d X Z b a
  obtain⟨n,a⟩:=a
  refine⟨n,?_⟩
  have key:∀ n X Z,iter (fun h=>den P E c (a1.then h Q)) n X Z→iter (fun h=>den P E c (a1.then h d)) n X Z:=by
   intro n
   induction n with
   | zero=>intro X Z g;exact g
   | succ n p=>
    intro X Z g
    refine bU (fun R k K i=>?_) g
    cases R with
    | normal=>exact p _ _ i
    | exit id=>exact b _ _ _ i
    | ret=>exact b _ _ _ i
  exact key n X Z a
 | _=>intro Q d X Z b a;exact a
theorem D2(N aP:Fr→U→Prop)(Q:a1→Fr→U→Prop):a1.then N (a1.then aP Q)=a1.then N Q:=by
 funext R
 cases R <;> rfl
theorem m5{v:Value}{aF:Addr→Prop}(Z:gH v aF):∃ aE,v=.pointer (some aE)∧aF aE:=by
 cases v with
 | pointer a=>cases a with
  | some aE=>exact⟨aE,rfl,Z⟩
  | none=>cases Z
 | _=>cases Z
variable {P:Program} {E:Env}
def a8(E:Env)(dC:List ResultVar)(Y:Value→U→Prop):a1→Fr→U→Prop:=
 fun R X K=>match R with | .exit _=>False | _=>pG E X K dC fun bV=>Y (u1 bV) K
def w3(X:Fr):List (Nat × Value)→Fr
 | []=>X
 | p :: l=>w3 (kC X p.1 p.2) l
def zF(X:Fr):List (Nat × Value)→Prop
 | []=>True
 | p :: l=>X p.1=p.2∧zF X l
theorem Bj:∀ {l:List (Nat × Value)} {X:Fr},zF X l→w3 X l=X
 | [],_,_=>rfl
 | p :: l,X,Z=>by
  have R:kC X p.1 p.2=X:=wO Z.1
  show w3 (kC X p.1 p.2) l=X
  rw [R];exact Bj Z.2
theorem bS{c:Code}{Q:a1→Fr→U→Prop}{X:Fr}{Z:U}(l:List (Nat × Value))(a:zF X l){t:Prop}(b:den P E c Q (w3 X l) Z=t)(g:t):den P E c Q X Z:=by
 rw [← b,Bj a] at g;exact g
def first:Nat→Code→Code
 | 1,.seq a _=>a
 | n+2,.seq a L=>.seq a (first (n+1) L)
 | _,c=>c
def rest:Nat→Code→Code
 | 1,.seq _ L=>L
 | n+2,.seq _ L=>rest (n+1) L
 | _,_=>.skip
theorem D3{d:Fr→U→Prop}{Q:a1→Fr→U→Prop}:∀ {n:Nat} {c:Code} (_:∀ X Z,d X Z→den P E (rest n c) Q X Z) {X:Fr} {Z:U},den P E (first n c) (a1.then d Q) X Z→den P E c Q X Z:=by
 have key:∀ (c:Code),(∀ X Z,d X Z→den P E .skip Q X Z)→∀ {X:Fr} {Z:U},den P E c (a1.then d Q) X Z→den P E c Q X Z:=by
  intro c b X Z g
  refine w2 (fun R X Z g=>?_) g
  cases R with
  | normal=>exact b _ _ g
  | exit O=>exact g
  | ret=>exact g
 have one:∀ (a L:Code),(∀ X Z,d X Z→den P E L Q X Z)→∀ {X:Fr} {Z:U},den P E a (a1.then d Q) X Z→den P E (.seq a L) Q X Z:=by
  intro a L b X Z g
  show den P E a (a1.then (den P E L Q) Q) X Z
  refine w2 (fun R X Z g=>?_) g
  cases R with
  | normal=>exact b _ _ g
  | exit O=>exact g
  | ret=>exact g
 intro n
 induction n with
 | zero=>
  intro c b X Z g
  have f:first 0 c=c:=by cases c <;> rfl
  have h:rest 0 c=.skip:=by cases c <;> rfl
  rw [f] at g;rw [h] at b;exact key c b g
 | succ n bU=>
  intro c b X Z g
  cases c with
  | seq a L=>
   cases n with
   | zero=>exact one a L b g
   | succ m=>
    have e:den P E a (a1.then (den P E (first (m+1) L) (a1.then d Q)) (a1.then d Q)) X Z:=g
    rw [D2] at e <;> skip
    all_goals show den P E a (a1.then (den P E L Q) Q) X Z
    all_goals refine w2 (fun R X Z g=>?_) e
    all_goals cases R with
     | normal=>exact bU b g
     | exit O=>exact g
     | ret=>exact g
  | _=>exact key _ (by cases n <;> exact b) (by cases n <;> exact g)
theorem c4(n:Nat){c r:Code}{a:Fr→U→Prop}{Q:a1→Fr→U→Prop}(b:rest n c=r)(d:∀ X Z,a X Z→den P E r Q X Z){X:Fr}{Z:U}(g:den P E (first n c) (a1.then a Q) X Z):den P E c Q X Z:=by
 subst b;exact D3 d g
theorem gA{c a r:Code}{b:Fr→U→Prop}{Q:a1→Fr→U→Prop}(d:c=.seq a r)(e:∀ X Z,b X Z→den P E r Q X Z){X:Fr}{Z:U}(g:den P E a (a1.then b Q) X Z):den P E c Q X Z:=by
 subst d;exact D3 (n:=1) e g
theorem fC{c a:Code}{O:Nat}{Q:a1→Fr→U→Prop}(b:c=.block O a){X:Fr}{Z:U}(g:den P E a (a1.inBlock O Q) X Z):den P E c Q X Z:=by
 subst b;exact g
theorem IB{c a:Code}{Q:a1→Fr→U→Prop}(b:c=.scope a){X:Fr}{Z:U}(g:den P E a Q X Z):den P E c Q X Z:=by
 subst b;exact g
theorem fK{c L:Code}{Q:a1→Fr→U→Prop}(T:Nat→Fr→U→Prop)(a:c=.loop L)(aX:∀ X Z,T 0 X Z→False)(bM:∀ n X Z,T (n+1) X Z→den P E L (a1.then (T n) Q) X Z)(n:Nat)(X:Fr)(Z:U)(g:T n X Z):den P E c Q X Z:=by
 subst a
 refine⟨n,?_⟩
 induction n generalizing X Z with
 | zero=>exact(aX X Z g).elim
 | succ n bU=>
  show den P E L (a1.then (iter (fun b=>den P E L (a1.then b Q)) n) Q) X Z
  refine w2 (fun R X Z g=>?_) (bM n X Z g)
  cases R with
  | normal=>exact bU _ _ g
  | exit O=>exact g
  | ret=>exact g
theorem bQ{S:IntKind}{v:Value}{n:Int}{aF:Int→Prop}(R:v=.int S n)(g:aF n):aW S v aF:=by
 subst R;cases S <;> exact g
theorem c5{v:Value}{n:Bool}{aF:Bool→Prop}(R:v=.bool n)(g:aF n):eS v aF:=by subst R;exact g
theorem rG{v:Value}{n:Addr}{aF:Addr→Prop}(R:v=.pointer (some n))(g:aF n):gH v aF:=by subst R;exact g
theorem bE{v:Value}{a:M}{l c:Nat}{aF:M→Nat→Nat→Prop}(R:v=.slice a l c)(g:aF a l c):aQ v aF:=by subst R;exact g
theorem e5{v:Value}{l:List Value}{aF:List Value→Prop}(R:v=.agg l.toArray)(g:aF l):eG v aF:=by subst R;exact g
theorem iJ{v:Value}{aF:List Value→Prop}(Z:eG v aF):∃ l,v=.agg l.toArray∧aF l:=by
 obtain⟨c2,R,g⟩:=A2 Z;exact⟨c2.toList,by rw [R],g⟩
theorem gE{v:Value}{l:List Value}{aF:List Value→Prop}(R:v=.tuple l.toArray)(g:aF l):cT v aF:=by subst R;exact g
theorem cF{v:Value}{bV:List Value}{aF:Value→List Value→Prop}(g:aF v bV):cQ (v :: bV) aF:=g
theorem dR{aF:Prop}(g:aF):b5 [] aF:=g
theorem dL(a:hT P E){f:FuncId}{fn:Func}{c:Code}{dC:List ResultVar}(b:P.funcs[f]?=some fn)(d:fn.body=some c)(e:nT E fn.ntmps c=true)(g:fn.results.toList=dC)
  {args:List Value} (h:Nat.ble args.length fn.ntmps=true) {Z:U} {Y:Value→U→Prop}
  (i:den P E c (a8 E dC Y) (u0 args) Z):mZ P f args.toArray Z Y:=
 Ii a b d e g (Nat.le_of_ble_eq_true h) i
end Go.Gv
namespace Go.Gv
abbrev W:Bool:=true
abbrev aT:Bool:=false
abbrev eN(Z:U)(aE:Addr)(aF:Bool→Prop):Prop:=fG Z aE fun v=>eS v aF
abbrev dO(Z:U)(aE:Addr)(aF:M→Nat→Nat→Prop):Prop:=fG Z aE fun v=>aQ v aF
abbrev cY(Z:U)(S:IntKind)(aE:Addr)(aF:Int→Prop):Prop:=fG Z aE fun v=>aW S v aF
abbrev fH(l:List Value)(aF:Bool→List Value→Prop):Prop:=cQ l fun v aP=>eS v fun L=>aF L aP
abbrev cP(l:List Value)(aF:M→Nat→Nat→List Value→Prop):Prop:=cQ l fun v aP=>aQ v fun a l c=>aF a l c aP
abbrev dJ(l:List Value)(S:IntKind)(aF:Int→List Value→Prop):Prop:=cQ l fun v aP=>aW S v fun N=>aF N aP
theorem bD{v:Value}{aF:M→Nat→Nat→Prop}{P:Prop}(g:aQ v aF)(f:∀ a l c,v=.slice a l c→aF a l c→P):P:=by
 obtain⟨a,l,c,R,g⟩:=b4 g
 exact f a l c R g
theorem bB{S:IntKind}{v:Value}{aF:Int→Prop}{P:Prop}(g:aW S v aF)(f:∀ N,v=.int S N→aF N→P):P:=by
 obtain⟨N,R,g⟩:=bN g
 exact f N R g
theorem w4{v:Value}{aF:Bool→Prop}{P:Prop}(g:eS v aF)(f:∀ N,v=.bool N→aF N→P):P:=by
 obtain⟨N,R,g⟩:=iP g
 exact f N R g
theorem hW{v:Value}{aF:Addr→Prop}{P:Prop}(g:gH v aF)(f:∀ N,v=.pointer (some N)→aF N→P):P:=by
 obtain⟨N,R,g⟩:=m5 g
 exact f N R g
end Go.Gv
