import Derived.Orders
import Derived.Still
import Derived.Below
import Derived.KernelRfl
import Derived.Tactics
import Derived.Laws.Externs
import Derived.Laws.Append
import Derived.Laws.Slices
import Derived.Laws.Entries
import Derived.WalkSpells
import Derived.LoopN
import Derived.Scope
import Derived.Laws.Cells
namespace Go.Gv
abbrev M:=Option Addr
abbrev Fr:=Nat→Value
abbrev U:=Array Obj
def jY(X:Fr)(aT:Nat)(v:Value):Fr:=fun t=>bif Nat.beq t aT then v else X t
def kG(X:Fr):Option Nat→Value→Fr
 | some aT,v=>jY X aT v
 | none,_=>X
def cS(X:Fr):Operand→Value
 | .tmp t=>X t
 | .const v=>v
 | .global g=>.pointer (some ⟨g,0,none⟩)
 | .func f=>.func (.func f) #[] #[]
def u1(X:Fr):Operand→Bool→Fr
 | .tmp t,K=>jY X t (.bool K)
 | _,_=>X
theorem u2{X:Fr}{aT:Nat}{v:Value}(Z:X aT=v):jY X aT v=X:=by
 funext t
 unfold jY
 cases O:Nat.beq t aT with
 | false=>rfl
 | true=>obtain rfl:=Nat.eq_of_beq_eq_true O;exact Z.symm
theorem xC{X:Fr}{c:Operand}{K:Bool}(Z:cS X c=.bool K):u1 X c K=X:=by
 cases c with
 | tmp t=>exact u2 Z
 | _=>rfl
def gL(Z:U)(a:Addr):Option Value:=
 match Z[a.block]? with
 | some (.cells c _ _)=>if a.spot.isSome then none else c[a.off]?
 | _=>none
def lP(Z:U)(a:Addr):Bool:=
 match Z[a.block]? with
 | some (.cells _ _ (bQ,a5))=>bQ≤a.off && a.off < a5
 | _=>false
def gB(Z:U)(a:Addr)(v:Value):U:=Z.modify a.block fun
   | .cells c elem frozen=>.cells (if a.spot.isSome then c else c.setIfInBounds a.off v) elem frozen
   | aN=>aN
theorem Ga(aA:World)(a:Addr):aA.cell? a=gL aA.heap a:=rfl
def jN(Z:U)(p:Addr):Nat→List Value→U
 | _,[]=>Z
 | R,v :: bV=>jN (gB Z (p.add R) v) p (R+1) bV
def n5(Z:U)(p:Addr):Nat→List Value→Prop
 | _,[]=>True
 | R,v :: bV=>gL Z (p.add R)=some v∧n5 Z p (R+1) bV
def n6(Z:U)(p:Addr):Nat→Nat→Prop
 | _,0=>True
 | R,n+1=>((∃ v,gL Z (p.add R)=some v)∧lP Z (p.add R)=false)∧n6 Z p (R+1) n
structure eJ(aA cA:World):Prop where
 os:cA.os=aA.os
 tape:cA.tape=aA.tape
 output:cA.output=aA.output
theorem eJ.refl(aA:World):eJ aA aA:=⟨rfl,rfl,rfl⟩
theorem eJ.trans{a K c:World}(Z:eJ a K)(S:eJ K c):eJ a c:=⟨S.os.trans Z.os,S.tape.trans Z.tape,S.output.trans Z.output⟩
def mB(P:Program)(f:FuncId)(args:Array Value)(Z:U)(Y:Value→U→Prop):Prop:=
 ∀ aA:World,aA.heap=Z→Calls P f args aA fun O cA=>∃ v,O=.returned v∧eJ aA cA∧Y v cA.heap
theorem mB.mono{P:Program}{f:FuncId}{args:Array Value}{Z:U}{Y gY:Value→U→Prop}(a:mB P f args Z Y)(b:∀ v aB,Y v aB→gY v aB):mB P f args Z gY:=
 fun aA c=>(a aA c).mono fun _ _ ⟨v,O,aI,r⟩=>⟨v,O,aI,b _ _ r⟩
inductive hE where
 | int (S:IntKind) | bool | str | slice | ptr
inductive o4 where
 | int (S:IntKind) | bool | str | slice (O:TypeId) | ptr (O:TypeId) | struct (e2:List (Nat × TypeId)) | tuple (jO:List TypeId)
structure dL where
 ty:o4
 leaves:List hE
 bytes:Nat
inductive p4 where
 | body | quiet | o5 | o6
def zO:Array Value→Sem Value:=fun args=>do
 let (N,aQ,K) ← Extern.MathBitsCarry.three "Sub64" args
 pure (Extern.MathBitsCarry.pair ((N+Extern.MathBitsCarry.m64 - aQ - K) % Extern.MathBitsCarry.m64) (if N < aQ+K then 1 else 0))
structure Env where
 types:List (Nat × dL)
 fns:List (Nat × p4)
 zP:List (Nat × (Nat × TypeId)):=[]
def look{c7:Type}:List (Nat × c7)→Nat→Option c7
 | [],_=>none
 | (S,N) :: l,n=>bif Nat.beq S n then some N else look l n
theorem xD{c7:Type}{l:List (Nat × c7)}{n:Nat}{N:c7}(Z:look l n=some N):(n,N) ∈ l:=by
 induction l with
 | nil=>simp [look] at Z
 | cons p l bO=>
  obtain⟨S,aQ⟩:=p
  unfold look at Z
  cases O:Nat.beq S n with
  | false=>rw [O] at Z;exact List.mem_cons_of_mem _ (bO Z)
  | true=>
   obtain rfl:=Nat.eq_of_beq_eq_true O
   rw [O] at Z
   cases Z
   exact List.mem_cons_self
def o7:IntKind→IntKind→Bool
 | .i8,.i8 | .i16,.i16 | .i32,.i32 | .i64,.i64 | .u8,.u8 | .u16,.u16 | .u32,.u32 | .u64,.u64=>true
 | _,_=>false
theorem xE{aC S:IntKind}(Z:o7 aC S=true):aC=S:=by cases aC <;> cases S <;> first | rfl | cases Z
def hE.zero:hE→Value
 | .int S=>.int S 0
 | .bool=>.bool false
 | .str=>.string ByteArray.empty
 | .slice=>.slice none 0 0
 | .ptr=>.pointer none
def zQ:hE→Value→Bool
 | .int S,.int cV n=>o7 S cV && n == 0
 | .bool,.bool K=>!K
 | .str,.string aI=>aI.size == 0
 | .slice,.slice none 0 0=>true
 | .ptr,.pointer none=>true
 | _,_=>false
theorem Gb{S:hE}{v:Value}(Z:zQ S v=true):v=S.zero:=by
 cases S <;> cases v <;> simp only [zQ,Bool.and_eq_true,Bool.false_eq_true] at Z
 ·obtain⟨aY,a⟩:=Z
  rw [← xE aY]
  simp at a
  simp [hE.zero,a]
 ·simp at Z;simp [hE.zero,Z]
 ·rename_i aI
  have:aI=ByteArray.empty:=by
   apply ByteArray.ext
   have aB:aI.size=0:=by simpa using Z
   exact Array.eq_empty_of_size_eq_zero aB
  rw [this];rfl
 ·split at Z <;> simp_all [hE.zero]
 ·split at Z <;> simp_all [hE.zero]
def s0:List hE→List Value→Bool
 | [],[]=>true
 | S :: a,v :: bV=>zQ S v && s0 a bV
 | _,_=>false
theorem BS:∀ {a:List hE} {bV:List Value},s0 a bV=true→bV=a.map hE.zero
 | [],[],_=>rfl
 | S :: a,v :: bV,Z=>by
  simp only [s0,Bool.and_eq_true] at Z
  rw [Gb Z.1,BS Z.2];rfl
 | [],_ :: _,Z=>by simp [s0] at Z
 | _ :: _,[],Z=>by simp [s0] at Z
def n7:Option TypeDesc→o4→Bool
 | some (.int S),.int cV=>o7 S cV
 | some .bool,.bool=>true
 | some .string,.str=>true
 | some (.slice O),.slice a=>Nat.beq O a
 | some (.pointer O),.ptr a=>Nat.beq O a
 | some (.struct e2),.struct a=>decide (e2.toList.map (fun f=>(f.offset,f.type))=a)
 | some (.tuple jO),.tuple b=>decide (jO.toList=b)
 | some (.array _ _),.struct a=>a.isEmpty
 | _,_=>false
def j7(P:Program)(t:TypeId)(R:dL):Bool:=
 n7 (P.underlying t) R.ty && match P.info? t with
  | some inf=>Nat.beq inf.size R.leaves.length && Nat.beq inf.bytes R.bytes && match R.ty with
   | .tuple _=>true
   | _=>match inf.zero with
    | some bM=>s0 R.leaves bM.cells.toList
    | none=>false
  | none=>false
def zR(P:Program)(f:FuncId)(S:p4):Bool:=
 match P.funcs[f]? with
 | some fn=>match S with
  | .body | .quiet=>fn.body.isSome && !(fn.name == "runtime.NumGoroutine")
  | .o5 | .o6=>fn.body.isNone && !(fn.name == "runtime.NumGoroutine")
 | none=>false
def BT(P:Program)(t:TypeId)(p:Nat × TypeId):Bool:=
 match P.underlying t with
 | some (.array n O)=>Nat.beq n p.1 && Nat.beq O p.2
 | _=>false
def BU(P:Program)(E:Env):Bool:=((E.types.all fun (t,R)=>j7 P t R) && (E.fns.all fun (f,S)=>zR P f S)) && E.zP.all fun (t,p)=>BT P t p
def eS(v:Value)(aF:Bool→Prop):Prop:=match v with | .bool K=>aF K | _=>False
def aW(S:IntKind)(v:Value)(aF:Int→Prop):Prop:=match v with | .int cV n=>(bif o7 S cV then aF n else False) | _=>False
def xF(v:Value)(aF:ByteArray→Prop):Prop:=match v with | .string aI=>aF aI | _=>False
def aU(v:Value)(aF:M→Nat→Nat→Prop):Prop:=match v with | .slice a l c=>aF a l c | _=>False
def fU(v:Value)(aF:Addr→Prop):Prop:=match v with | .pointer (some aE)=>aF aE | _=>False
def xG(v:Value)(aF:M→Prop):Prop:=match v with | .pointer a=>aF a | _=>False
def rK:hE→Value→(Value→Prop)→Prop
 | .int S,v,aF=>aW S v fun n=>aF (.int S n)
 | .bool,v,aF=>eS v fun K=>aF (.bool K)
 | .str,v,aF=>xF v fun aI=>aF (.string aI)
 | .slice,v,aF=>aU v fun a l c=>aF (.slice a l c)
 | .ptr,v,aF=>xG v fun a=>aF (.pointer a)
def cW(l:List Value)(aF:Value→List Value→Prop):Prop:=match l with | v :: bV=>aF v bV | []=>False
def b6(l:List Value)(aF:Prop):Prop:=match l with | []=>aF | _=>False
def u3:List hE→List Value→(List Value→Prop)→Prop
 | [],l,aF=>b6 l (aF [])
 | S :: a,l,aF=>cW l fun v bV=>rK S v fun b=>u3 a bV fun a=>aF (b :: a)
def eA(v:Value)(aF:List Value→Prop):Prop:=match v with | .agg c9=>aF c9.toList | _=>False
def c1(v:Value)(aF:List Value→Prop):Prop:=match v with | .tuple c9=>aF c9.toList | _=>False
def rL(R:dL)(v:Value)(aF:Value→Prop):Prop:=
 match R.ty with
 | .struct _=>eA v fun l=>u3 R.leaves l fun bV=>aF (.agg bV.toArray)
 | _=>match R.leaves with
  | [S]=>rK S v aF
  | _=>False
def s3(E:Env):List TypeId→List Value→(List Value→Prop)→Prop
 | [],l,aF=>b6 l (aF [])
 | t :: jO,l,aF=>cW l fun v bV=>match look E.types t with
  | some R=>rL R v fun a=>s3 E jO bV fun b=>aF (a :: b)
  | none=>False
def p5(E:Env)(t:TypeId)(v:Value)(aF:Value→Prop):Prop:=
 match look E.types t with
 | some R=>match R.ty with
  | .tuple jO=>c1 v fun l=>s3 E jO l fun bV=>aF (.tuple bV.toArray)
  | _=>rL R v aF
 | none=>aF v
def hW(S:IntKind)(N aQ:Int):Int:=S.wrap (N*2 ^ (min aQ.toNat S.bits))
def gP(S:IntKind)(N aQ:Int):Int:=N.fdiv (2 ^ (min aQ.toNat S.bits))
def iV(S:IntKind)(N aQ:Int):Int:=S.wrap (BitVec.ofInt S.bits N &&& BitVec.ofInt S.bits aQ).toNat
def s4(S:IntKind)(N aQ:Int):Int:=S.wrap (BitVec.ofInt S.bits N ||| BitVec.ofInt S.bits aQ).toNat
def BV(S:IntKind)(N aQ:Int):Int:=S.wrap (BitVec.ofInt S.bits N ^^^ BitVec.ofInt S.bits aQ).toNat
def Gc(S:IntKind)(N aQ:Int):Int:=S.wrap (BitVec.ofInt S.bits N &&& ~~~(BitVec.ofInt S.bits aQ)).toNat
structure a6(n:Int)(aF:Int→Prop):Prop where
 out:aF n
def xH(op:BinOp)(S:IntKind)(a K:Int)(aF:Value→Prop):Prop:=
 match op with
 | .add=>a6 (S.wrap (a+K)) fun n=>aF (.int S n)
 | .sub=>a6 (S.wrap (a - K)) fun n=>aF (.int S n)
 | .mul=>a6 (S.wrap (a*K)) fun n=>aF (.int S n)
 | .quo=>K ≠ 0∧a6 (S.wrap (a.tdiv K)) fun n=>aF (.int S n)
 | .rem=>K ≠ 0∧a6 (a.tmod K) fun n=>aF (.int S n)
 | .and=>a6 (iV S a K) fun n=>aF (.int S n)
 | .or=>a6 (s4 S a K) fun n=>aF (.int S n)
 | .xor=>a6 (BV S a K) fun n=>aF (.int S n)
 | .andNot=>a6 (Gc S a K) fun n=>aF (.int S n)
 | .eql=>aF (.bool (a == K))
 | .neq=>aF (.bool (a != K))
 | .lss=>aF (.bool (decide (a < K)))
 | .leq=>aF (.bool (decide (a≤K)))
 | .gtr=>aF (.bool (decide (a > K)))
 | .geq=>aF (.bool (decide (a≥K)))
 | _=>False
def s5(E:Env)(op:BinOp)(t:TypeId)(N aQ:Value)(aF:Value→Prop):Prop:=
 match N,aQ with
 | .int S a,.int cV K=>
  match op with
  | .shl=>0≤K∧a6 (hW S a K) fun n=>aF (.int S n)
  | .shr=>0≤K∧a6 (gP S a K) fun n=>aF (.int S n)
  | op=>bif o7 S cV then xH op S a K aF else False
 | .string a,.string K=>
  match op with
  | .add=>(((a.size+K.size:Nat):Int)≤9223372036854775807)∧aF (.string (a ++ K))
  | .eql=>aF (.bool (a.toList == K.toList))
  | .neq=>aF (.bool (!(a.toList == K.toList)))
  | _=>False
 | .bool a,.bool K=>
  match look E.types t with
  | some ⟨.bool,_,_⟩=>(match op with
   | .eql=>aF (.bool (a == K))
   | .neq=>aF (.bool (!(a == K)))
   | _=>False)
  | _=>False
 | .slice a _ _,.slice none _ _=>
  match look E.types t with
  | some ⟨.slice _,_,_⟩=>(match op with
   | .eql=>aF (.bool a.isNone)
   | .neq=>aF (.bool (!a.isNone))
   | _=>False)
  | _=>False
 | _,_=>False
def Gd(S:IntKind)(n:Int):Int:=BV S (bif S.signed then -1 else S.max) n
def s6(op:UnOp)(N:Value)(aF:Value→Prop):Prop:=
 match op,N with
 | .neg,.int S n=>a6 (S.wrap (0 - n)) fun n=>aF (.int S n)
 | .xor,.int S n=>a6 (Gd S n) fun n=>aF (.int S n)
 | .not,.bool K=>aF (.bool (!K))
 | _,_=>False
def c2(a:M)(l:Nat)(R:Int)(h4:Nat)(aF:Addr→Prop):Prop:=
 (0≤R∧R < (l:Int))∧match a with
  | some p=>aF (p.add (R.toNat*h4))
  | none=>False
def u4(aI:ByteArray)(R:Int)(aF:Int→Prop):Prop:=
 0≤R∧match aI[R.toNat]? with
  | some K=>aF K.toNat
  | none=>False
def fB(Z:U)(aE:Addr)(aF:Value→Prop):Prop:=match gL Z aE with | some v=>aF v | none=>False
def s7(Z:U)(aE:Addr):Nat→List hE→(List Value→Prop)→Prop
 | _,[],aF=>aF []
 | R,S :: a,aF=>fB Z (aE.add R) fun v=>rK S v fun b=>s7 Z aE (R+1) a fun bV=>aF (b :: bV)
def s8(R:dL)(Z:U)(aE:Addr)(aF:Value→Prop):Prop:=
 match R.ty with
 | .struct _=>s7 Z aE 0 R.leaves fun bV=>aF (.agg bV.toArray)
 | .tuple _=>False
 | _=>match R.leaves with
  | [S]=>fB Z aE fun v=>rK S v aF
  | _=>False
def n8(v:Option Value)(a aQ:Nat)(aF:Nat→Prop):Prop:=
 match v with
 | none=>aF a
 | some (.int _ R)=>(0≤R∧R≤(aQ:Int))∧aF R.toNat
 | _=>False
def iP(a:M)(m l h4:Nat):M:=if m=l then a else a.map (·.add (l*h4))
def hX(h4:Nat)(a:M)(len cap:Nat)(bQ a5 b:Option Value)(aF:M→Nat→Nat→Prop):Prop:=
 match a5,b with
 | none,some _=>False
 | _,_=>n8 b cap cap fun m=>n8 a5 len m fun Z=>n8 bQ 0 Z fun l=>aF (iP a m l h4) (Z - l) (m - l)
def u5(aI:ByteArray)(bQ a5:Option Value)(aF:ByteArray→Prop):Prop:=
 n8 a5 aI.size aI.size fun Z=>n8 bQ 0 Z fun l=>aF (aI.extract l Z)
def zS(cells:List Value)(off:Nat)(bV:List Value):List Value:=cells.take off ++ (bV ++ cells.drop (off+bV.length))
def s9(place:Nat→Option (Nat × Nat))(cells:List Value):List (Nat × Value)→Option (List Value)
 | []=>some cells
 | (R,v) :: rest=>
  match place R with
  | none=>none
  | some (off,size)=>bif Nat.beq v.cells.toList.length size && Nat.ble (off+v.cells.toList.length) cells.length then s9 place (zS cells off v.cells.toList) rest else none
def zT(E:Env)(e2:List (Nat × TypeId))(f:Nat):Option (Nat × Nat):=
 match e2[f]? with
 | some (off,t)=>match look E.types t with
  | some R=>some (off,R.leaves.length)
  | none=>none
 | none=>none
def rM(E:Env):List (Nat × TypeId)→Bool
 | []=>true
 | (_,t) :: l=>match look E.types t with
  | some _=>rM E l
  | none=>false
def mC:Value→List Value→(Value→Prop)→Prop
 | N,[],aF=>aF N
 | .int S N,.int _ aQ :: rest,aF=>mC (.int S (if aQ > N then aQ else N)) rest aF
 | _,_,_=>False
def mD:Value→List Value→(Value→Prop)→Prop
 | N,[],aF=>aF N
 | .int S N,.int _ aQ :: rest,aF=>mD (.int S (if aQ < N then aQ else N)) rest aF
 | _,_,_=>False
def u6(E:Env)(t:TypeId)(v:Value)(aF:Value→Prop):Prop:=
 match look E.types t,v with
 | some ⟨.slice _,_,_⟩,.slice _ n _=>aF (.int .i64 (n:Int))
 | some ⟨.str,_,_⟩,.string aI=>aF (.int .i64 (aI.size:Int))
 | _,_=>False
def mV(N aQ bM:Int)(aF:Int→Int→Prop):Prop:=(0≤N∧0≤aQ∧0≤bM∧bM≤1)∧aF ((N+aQ+bM) % 18446744073709551616) ((N+aQ+bM) / 18446744073709551616)
def p6(N aQ bM:Int)(aF:Int→Int→Prop):Prop:=(0≤N∧0≤aQ∧0≤bM∧bM≤1∧aQ < 18446744073709551616)∧aF ((N - aQ - bM) % 18446744073709551616) (if N < aQ+bM then 1 else 0)
def tA(E:Env)(c:Call)(X:Fr)(aF:Value→Prop):Prop:=
 match c.callee with
 | .builtin .len=>(match c.args.toList,c.argTypes.toList with
  | N :: _,t :: _=>u6 E t (cS X N) aF
  | _,_=>False)
 | .builtin .max=>(match c.args.toList.map (cS X) with
  | N :: rest=>mC N rest aF
  | []=>False)
 | .builtin .min=>(match c.args.toList.map (cS X) with
  | N :: rest=>mD N rest aF
  | []=>False)
 | .value (.func f)=>(match look E.fns f with
  | some .o5=>(match c.args.toList.map (cS X) with
   | [.int .u64 N,.int .u64 aQ,.int .u64 bM]=>mV N aQ bM fun aI c=>aF (.tuple #[.int .u64 aI,.int .u64 c])
   | _=>False)
  | some .o6=>(match c.args.toList.map (cS X) with
   | [.int .u64 N,.int .u64 aQ,.int .u64 bM]=>p6 N aQ bM fun aI c=>aF (.tuple #[.int .u64 aI,.int .u64 c])
   | _=>False)
  | _=>False)
 | _=>False
def hQ(E:Env)(op:Op)(X:Fr)(Z:U)(aF:Value→Prop):Prop:=
 match op with
 | .move N=>aF (cS X N)
 | .assign N=>aF (cS X N)
 | .pick c a K=>(match cS X c with
  | .bool t=>cond t (aF (cS X a)) (aF (cS X K))
  | _=>False)
 | .load t a=>(match cS X a,look E.types t with
  | .pointer (some aE),some R=>s8 R Z aE aF
  | _,_=>False)
 | .binOp op t N aQ _=>s5 E op t (cS X N) (cS X aQ) aF
 | .unOp op _ N=>s6 op (cS X N) aF
 | .convert aI aT N=>(match look E.types aI,look E.types aT,cS X N with
  | some ⟨.int _,_,_⟩,some ⟨.int S,_,_⟩,.int _ n=>a6 (S.wrap n) fun n=>aF (.int S n)
  | _,_,_=>False)
 | .indexAddr t N R=>(match look E.types t,cS X N,cS X R with
  | some ⟨.slice O,_,_⟩,.slice a l _,.int _ n=>(match look E.types O with
   | some b=>c2 a l n b.leaves.length fun aE=>aF (.pointer (some aE))
   | none=>False)
  | _,.pointer (some aE),.int _ n=>(match look E.zP t with
   | some (m,O)=>(match look E.types O with
    | some b=>c2 (some aE) m n b.leaves.length fun aE=>aF (.pointer (some aE))
    | none=>False)
   | none=>False)
  | _,_,_=>False)
 | .index t N R=>(match look E.types t,cS X N,cS X R with
  | some ⟨.str,_,_⟩,.string aI,.int _ n=>u4 aI n fun K=>aF (.int .u8 K)
  | _,_,_=>False)
 | .extract N R=>(match cS X N with
  | .tuple bV=>(match bV.toList[R]? with
   | some v=>aF v
   | none=>False)
  | _=>False)
 | .fieldAddr aI N f=>(match cS X N,look E.types aI with
  | .pointer (some aE),some ⟨.struct e2,_,_⟩=>(match e2[f]? with
   | some (off,t)=>(match look E.types t with
    | some R=>bif Nat.beq R.leaves.length 0 then False else aF (.pointer (some (aE.add off)))
    | none=>False)
   | none=>False)
  | _,_=>False)
 | .field t N f=>(match cS X N,look E.types t with
  | .agg c9,some ⟨.struct e2,_,_⟩=>(match e2[f]? with
   | some (off,d)=>(match look E.types d with
    | some ⟨.struct _,fM,_⟩=>aF (.agg ((c9.toList.drop off).take fM.length).toArray)
    | some ⟨.tuple _,_,_⟩=>False
    | some _=>(match c9.toList[off]? with
     | some v=>aF v
     | none=>False)
    | none=>False)
   | none=>False)
  | _,_=>False)
 | .build t parts=>(match look E.types t with
  | some ⟨.struct e2,fM,_⟩=>bif !e2.isEmpty && rM E e2 then(match s9 (zT E e2) (fM.map hE.zero) (parts.toList.map fun (R,N)=>(R,cS X N)) with
   | some cells=>aF (.agg cells.toArray)
   | none=>False) else False
  | _=>False)
 | .nilCheck N=>(match cS X N with
  | .pointer (some aE)=>aF (.pointer (some aE))
  | _=>False)
 | .slice t N bQ a5 d=>(match look E.types t,cS X N with
  | some ⟨.slice O,_,_⟩,.slice a l c=>(match look E.types O with
   | some b=>hX b.leaves.length a l c (bQ.map (cS X)) (a5.map (cS X)) (d.map (cS X)) fun a l c=>aF (.slice a l c)
   | none=>False)
  | some ⟨.str,_,_⟩,.string aI=>(match d with
   | none=>u5 aI (bQ.map (cS X)) (a5.map (cS X)) fun aI=>aF (.string aI)
   | some _=>False)
  | _,_=>False)
 | .call c=>tA E c X aF
 | _=>False
def hR(a3:List Value):Nat→List Value
 | 0=>[]
 | n+1=>a3 ++ hR a3 n
def dL.a3(R:dL):List Value:=R.leaves.map hE.zero
def dN(Z:U)(O:TypeId)(cells:List Value)(aF:Addr→U→Prop):Prop:=aF ⟨Z.size,0,none⟩ (Z.push (.cells cells.toArray O (0,0)))
def h5(Z:U)(O:TypeId)(R:dL)(n m:Int)(aF:Addr→U→Prop):Prop:=
 (0≤n∧n≤m∧1≤R.bytes∧(R.bytes:Int)*m≤281474976710656)∧
  aF ⟨Z.size,0,none⟩ (Z.push (.cells (hR R.a3 m.toNat).toArray O (0,0)))
def mE:Value→Bool
 | .agg _ | .tuple _=>false
 | _=>true
def b3(Z:U)(aE:Addr)(v:Value)(aF:U→Prop):Prop:=
 ((∃ aN,gL Z aE=some aN)∧lP Z aE=false)∧aF (gB Z aE v)
def rN(Z:U)(aE:Addr):Nat→List Value→(U→Prop)→Prop
 | _,[],aF=>aF Z
 | R,v :: bV,aF=>bif mE v then b3 Z (aE.add R) v fun aB=>rN aB aE (R+1) bV aF else False
def tB(R:dL)(Z:U)(aE:Addr)(v:Value)(aF:U→Prop):Prop:=
 match v with
 | .agg c9=>bif Nat.beq c9.toList.length R.leaves.length then rN Z aE 0 c9.toList aF else False
 | .tuple _=>False
 | v=>bif Nat.beq 1 R.leaves.length then b3 Z aE v aF else False
def u7(Z:U)(h4:Nat)(N:Value)(n:Nat)(c9:List Value):Prop:=
 c9.length=n*h4∧(∀ v ∈ c9,mE v=true)∧match N with
  | .slice (some K) _ _=>n5 Z K 0 c9
  | .slice none _ _=>c9=[]
  | .string aI=>c9=(aI.extract 0 n).data.toList.map fun K=>.int .u8 K.toNat
  | _=>False
def xI:Value→Option Nat
 | .slice _ n _=>some n
 | .string aI=>some aI.size
 | _=>none
def hF(Z:U)(O:TypeId)(R:dL)(a:M)(l c:Nat)(N:Value)(aF:M→Nat→Nat→U→Prop):Prop:=
 ∃ n c9,xI N=some n∧u7 Z R.leaves.length N n c9∧
  (l+n≤c→match a with
   | some p=>n6 Z (p.add (l*R.leaves.length)) 0 c9.length∧aF a (l+n) c (jN Z (p.add (l*R.leaves.length)) 0 c9)
   | none=>aF a (l+n) c Z)∧
  (¬ l+n≤c→Builtin.nextslicecap (l+n) c*R.bytes≤281474976710656∧1≤R.bytes∧l+n≤9223372036854775807∧
   ∃ b,u7 Z R.leaves.length (.slice a l c) l b∧
    ∀ d,l+n≤d→aF (some ⟨Z.size,0,none⟩) (l+n) d (Z.push (.cells (b ++ (c9 ++ hR R.a3 (d - (l+n)))).toArray O (0,0))))
def mF(Z:U)(h4:Nat)(a:M)(l:Nat)(N:Value)(aF:Int→U→Prop):Prop:=
 ∃ n c9,xI N=some n∧u7 Z h4 N (Nat.min n l) c9∧match a with
  | some p=>n6 Z p 0 c9.length∧aF (Nat.min n l:Int) (jN Z p 0 c9)
  | none=>aF (Nat.min n l:Int) Z
def xJ(Z:U)(R:dL)(a:M)(l:Nat)(aF:U→Prop):Prop:=
 match a,l with
 | none,_=>aF Z
 | some _,0=>aF Z
 | some p,l+1=>n6 Z p 0 ((l+1)*R.leaves.length)∧aF (jN Z p 0 (hR R.a3 (l+1)))
def tC(E:Env)(t:TypeId):Bool:=
 match look E.types t with
 | some ⟨.slice _,_,_⟩=>true
 | some ⟨.str,_,_⟩=>true
 | _=>false
def Ge(Z:U)(aI:ByteArray)(aF:Addr→U→Prop):Prop:=aF ⟨Z.size,0,none⟩ (Z.push (.stringIter aI 0))
def BW(Z:U)(K:Nat)(aI:ByteArray)(pos:Nat):U:=Z.setIfInBounds K (.stringIter aI pos)
def xK(Z:U)(aE:Addr)(a:Int→Int→U→Prop)(b:Prop):Prop:=
 aE.off=0∧∃ aI pos,Z[aE.block]?=some (.stringIter aI pos)∧(pos < aI.size→a (pos:Int) ((Utf8.decode aI pos).1:Int) (BW Z aE.block aI (pos+(Utf8.decode aI pos).2)))∧(¬ pos < aI.size→b)
def xL(Z:U)(a:M)(l:Nat)(aF:ByteArray→Prop):Prop:=
 match a with
 | none=>aF ByteArray.empty
 | some p=>∃ b:List UInt8,b.length=l∧n5 Z p 0 (b.map fun K=>.int .u8 K.toNat)∧aF ⟨b.toArray⟩
def iW(P:Program)(E:Env)(op:Op)(t0:TypeId)(X:Fr)(Z:U)(aF:Value→U→Prop):Prop:=
 match op with
 | .range t N=>(match look E.types t,cS X N with
  | some ⟨.str,_,_⟩,.string aI=>Ge Z aI fun p aB=>aF (.pointer (some p)) aB
  | _,_=>False)
 | .next b K=>cond K (match cS X b with
  | .pointer (some aE)=>xK Z aE (fun R c aB=>aF (.tuple #[.bool true,.int .i64 R,.int .i32 c]) aB) (aF (.tuple #[.bool false]) Z)
  | _=>False) False
 | .convert aI aT N=>(match look E.types aI,look E.types aT,cS X N with
  | some ⟨.slice O,_,_⟩,some ⟨.str,_,_⟩,.slice a l _=>(match look E.types O with
   | some ⟨.int .u8,_,_⟩=>xL Z a l fun t=>aF (.string t) Z
   | _=>False)
  | _,_,_=>False)
 | .store t N v=>(match cS X N,look E.types t with
  | .pointer (some aE),some R=>tB R Z aE (cS X v) (fun aB=>aF undef aB)
  | _,_=>False)
 | .box O v=>dN Z O (cS X v).cells.toList fun p aB=>aF (.pointer (some p)) aB
 | .alloc O=>(match look E.types O with
  | some ⟨.tuple _,_,_⟩=>False
  | some R=>dN Z O R.a3 fun p aB=>aF (.pointer (some p)) aB
  | none=>False)
 | .makeSlice t l c=>(match look E.types t,cS X l,cS X c with
  | some ⟨.slice O,_,_⟩,.int _ n,.int _ m=>(match look E.types O with
   | some ⟨.tuple _,_,_⟩=>False
   | some R=>h5 Z O R n m fun p aB=>aF (.slice (some p) n.toNat m.toNat) aB
   | none=>False)
  | _,_,_=>False)
 | .buildSlice t n parts=>(match look E.types t with
  | some ⟨.slice O,_,_⟩=>(match look E.types O with
   | some ⟨.tuple _,_,_⟩=>False
   | some R=>bif Nat.ble (n*R.leaves.length) 16777216 then(match s9 (fun aC=>some (aC*R.leaves.length,R.leaves.length)) (hR R.a3 n) (parts.toList.map fun (aC,N)=>(aC,cS X N)) with
    | some cells=>dN Z O cells fun p aB=>aF (.slice (some p) n n) aB
    | none=>False) else False
   | none=>False)
  | _=>False)
 | .call c=>(match c.callee with
  | .builtin .append=>(match c.args.toList,c.argTypes.toList with
   | [aI,N],[t,d]=>bif tC E d then(match look E.types t,cS X aI with
    | some ⟨.slice O,_,_⟩,.slice a l e=>(match look E.types O with
     | some ⟨.tuple _,_,_⟩=>False
     | some R=>hF Z O R a l e (cS X N) fun a l c aB=>aF (.slice a l c) aB
     | none=>False)
    | _,_=>False) else False
   | _,_=>False)
  | .builtin .copy=>(match c.args.toList,c.argTypes.toList with
   | [aT,N],t :: _=>(match look E.types t,cS X aT with
    | some ⟨.slice O,_,_⟩,.slice a l _=>(match look E.types O with
     | some ⟨.tuple _,_,_⟩=>False
     | some R=>mF Z R.leaves.length a l (cS X N) fun n aB=>aF (.int .i64 n) aB
     | none=>False)
    | _,_=>False)
   | _,_=>False)
  | .builtin .clear=>(match c.args.toList,c.argTypes.toList with
   | [aT],[t]=>(match look E.types t,cS X aT with
    | some ⟨.slice O,_,_⟩,.slice a l _=>(match look E.types O with
     | some ⟨.tuple _,_,_⟩=>False
     | some R=>xJ Z R a l fun aB=>aF (.tuple #[]) aB
     | none=>False)
    | _,_=>False)
   | _,_=>False)
  | .value (.func f)=>(match look E.fns f with
   | some .body=>mB P f (c.args.toList.map (cS X)).toArray Z fun v aB=>p5 E t0 v fun g=>aF g aB
   | _=>False)
  | _=>False)
 | _=>False
def BX(P:Program)(f:FuncId)(args:Array Value)(Z:U)(aF:Value→Prop):Prop:=∃ v,mB P f args Z (fun a aB=>a=v∧aB=Z)∧aF v
def rO(P:Program)(E:Env)(op:Op)(t0:TypeId)(X:Fr)(Z:U)(aF:Value→Prop):Prop:=
 match op with
 | .call c=>(match c.callee with
  | .value (.func f)=>BX P f (c.args.toList.map (cS X)).toArray Z fun v=>p5 E t0 v aF
  | _=>False)
 | _=>False
inductive zU where
 | pure | load | quiet | call | act
def fV(E:Env):Op→zU
 | .load ..=>.load
 | .move _ | .assign _ | .pick .. | .binOp .. | .unOp .. | .indexAddr .. | .index .. | .extract .. | .fieldAddr .. | .field .. | .build .. | .nilCheck _ | .slice ..=>.pure
 | .convert aI _ _=>(match look E.types aI with
  | some ⟨.slice _,_,_⟩=>.act
  | _=>.pure)
 | .call c=>(match c.callee with
  | .builtin .len | .builtin .max | .builtin .min=>.pure
  | .value (.func f)=>(match look E.fns f with
   | some .o5 | some .o6=>.pure
   | some .quiet=>.quiet
   | _=>.call)
  | _=>.act)
 | .alloc _ | .box .. | .makeSlice .. | .buildSlice ..=>.call
 | _=>.act
def eN(cQ:Nat)(Z aB:U):Prop:=∀ K,K < cQ→aB[K]?=Z[K]?
def Gf(cQ:Nat)(N:Value):Prop:=match N with | .pointer (some aE)=>aE.block < cQ | _=>False
def mG(P:Program)(E:Env)(md:Bool)(cQ:Nat)(aN:Oper)(X:Fr)(Z:U)(aF:Value→U→Prop):Prop:=
 match fV E aN.op with
 | .pure=>hQ E aN.op X Z (fun v=>aF v Z)
 | .load=>cond md (match aN.op with
  | .load _ a=>Gf cQ (cS X a)∧hQ E aN.op X Z (fun v=>aF v Z)
  | _=>False) (hQ E aN.op X Z (fun v=>aF v Z))
 | .quiet=>rO P E aN.op aN.type X Z (fun v=>aF v Z)
 | .call=>cond md (iW P E aN.op aN.type X Z fun v aB=>eN cQ Z aB∧aF v aB) (iW P E aN.op aN.type X Z aF)
 | .act=>iW P E aN.op aN.type X Z aF
def u9(all:List Oper)(aC:Nat):Option Nat:=match all[aC]? with | some aN=>aN.dst | none=>none
def iX(P:Program)(E:Env)(md:Bool)(cQ:Nat)(all:List Oper):List Oper→Fr→U→(Fr→U→Prop)→Prop
 | [],X,Z,aF=>aF X Z
 | aN :: rest,X,Z,aF=>
  match aN.guard with
  | none=>mG P E md cQ aN X Z fun v aB=>iX P E md cQ all rest (kG X aN.dst v) aB aF
  | some (aC,want)=>
   match u9 all aC with
   | none=>False
   | some t=>
    match X t with
    | .bool K=>cond K
      (cond want (mG P E md cQ aN (jY X t (.bool true)) Z fun v aB=>iX P E md cQ all rest (kG (jY X t (.bool true)) aN.dst v) aB aF)
       (iX P E md cQ all rest (kG (jY X t (.bool true)) aN.dst undef) Z aF))
      (cond want (iX P E md cQ all rest (kG (jY X t (.bool false)) aN.dst undef) Z aF)
       (mG P E md cQ aN (jY X t (.bool false)) Z fun v aB=>iX P E md cQ all rest (kG (jY X t (.bool false)) aN.dst v) aB aF))
    | .tuple _=>iX P E md cQ all rest (kG X aN.dst undef) Z aF
    | _=>False
def jZ(md:Bool):zU→zU→Bool
 | .pure,_ | _,.pure=>true
 | .load,.load | .quiet,.quiet=>true
 | .load,.quiet | .quiet,.load=>true
 | .load,.call | .call,.load=>md
 | _,_=>false
def n9(a:List Nat):List Edge→Nat
 | []=>0
 | O :: l=>bif Region.binds .any O then(2 ^ O.on ||| a.getD O.on 0) ||| n9 a l else n9 a l
def kH(a:List Nat):List Oper→List Nat
 | []=>a
 | aN :: l=>kH (a ++ [n9 a aN.after.toList]) l
def rP(ops:List Oper):Bool:=(List.range ops.length).all fun R=>match ops[R]? with
 | some aN=>aN.after.toList.all fun O=>!Region.binds .any O || Nat.blt O.on R
 | none=>true
def BY(E:Env)(md:Bool)(ops:List Oper)(a:List Nat)(R aC:Nat):Bool:=
 match ops[R]?,ops[aC]? with
 | some b,some c=>(a.getD R 0).testBit aC || (c.apart ops.toArray b && jZ md (fV E c.op) (fV E b.op))
 | _,_=>true
def rQ(E:Env)(md:Bool)(ops:List Oper):Bool:=
 Region.noSelect ops.toArray && rP ops && (List.range ops.length).all fun R=>(List.range R).all fun aC=>BY E md ops (kH [] ops) R aC
def o8(E:Env)(draw:Bool)(ops:List Oper):Bool:=draw && !rQ E false ops
def vA(E:Env)(draw:Bool)(ops:List Oper):Bool:=draw && !rQ E false ops && !rQ E true ops
def oA(a:List Nat)(todo:List Nat)(R:Nat):Bool:=todo.all fun aC=>!(a.getD R 0).testBit aC
def BZ(E:Env)(all:List Oper)(a:List Nat)(todo:List Nat)(R:Nat):Bool:=
 oA a todo R && todo.all fun aC=>Nat.beq aC R || (a.getD aC 0).testBit R || (match all[R]?,all[aC]? with
  | some a,some b=>a.apart all.toArray b && jZ true (fV E a.op) (fV E b.op)
  | _,_=>false)
def del(todo:List Nat)(R:Nat):List Nat:=todo.filter fun aC=>!Nat.beq aC R
def vB(f:Nat→Prop):List Nat→Prop
 | []=>True
 | [R]=>f R
 | R :: aC :: l=>f R∧vB f (aC :: l)
def p7(P:Program)(E:Env)(cQ:Nat)(all:List Oper)(R:Nat)(X:Fr)(Z:U)(aF:Fr→U→Prop):Prop:=
 match all[R]? with
 | some aN=>iX P E true cQ all [aN] X Z aF
 | none=>False
def oB(P:Program)(E:Env)(cQ:Nat)(all:List Oper)(a:List Nat):Nat→List Nat→Fr→U→(Fr→U→Prop)→Prop
 | 0,_,X,Z,aF=>aF X Z
 | n+1,todo,X,Z,aF=>match todo.find? (BZ E all a todo) with
  | some R=>p7 P E cQ all R X Z fun X Z=>oB P E cQ all a n (del todo R) X Z aF
  | none=>vB (fun R=>p7 P E cQ all R X Z fun X Z=>oB P E cQ all a n (del todo R) X Z aF) (todo.filter (oA a todo))
inductive a2 where
 | normal | exit (id:Nat) | ret
def a2.then(next:Fr→U→Prop)(Q:a2→Fr→U→Prop):a2→Fr→U→Prop
 | .normal=>next
 | .exit id=>Q (.exit id)
 | .ret=>Q .ret
def a2.inBlock(id:Nat)(Q:a2→Fr→U→Prop):a2→Fr→U→Prop
 | .exit a=>bif Nat.beq a id then Q .normal else Q (.exit a)
 | .normal=>Q .normal
 | .ret=>Q .ret
def iter(bA:(Fr→U→Prop)→Fr→U→Prop):Nat→Fr→U→Prop
 | 0=>fun _ _=>False
 | n+1=>bA (iter bA n)
def den(P:Program)(E:Env):Code→(a2→Fr→U→Prop)→Fr→U→Prop
 | .skip,Q,X,Z=>Q .normal X Z
 | .region _ ops draw,Q,X,Z=>bif vA E draw ops.toList then oB P E Z.size ops.toList (kH [] ops.toList) ops.toList.length (List.range ops.toList.length) X Z (Q .normal)
   else iX P E (o8 E draw ops.toList) Z.size ops.toList ops.toList X Z (Q .normal)
 | .seq a K,Q,X,Z=>den P E a (a2.then (den P E K Q) Q) X Z
 | .cond c a K,Q,X,Z=>match cS X c with
  | .bool t=>cond t (den P E a Q (u1 X c true) Z) (den P E K Q (u1 X c false) Z)
  | _=>False
 | .block id c,Q,X,Z=>den P E c (a2.inBlock id Q) X Z
 | .loop c,Q,X,Z=>∃ n,iter (fun b=>den P E c (a2.then b Q)) n X Z
 | .exit id,Q,X,Z=>Q (.exit id) X Z
 | .ret,Q,X,Z=>Q .ret X Z
 | .rangeFunc ..,_,_,_=>False
 | .scope c,Q,X,Z=>den P E c Q X Z
 | .label _,Q,X,Z=>Q .normal X Z
 | .goto _,_,_,_=>False
 | .refuse _,_,_,_=>False
def tD(args:List Value):Fr:=fun t=>match args[t]? with | some v=>v | none=>undef
def oC(E:Env)(X:Fr)(Z:U):List ResultVar→(List Value→Prop)→Prop
 | [],aF=>aF []
 | .tmp t :: l,aF=>oC E X Z l fun bV=>aF (X t :: bV)
 | .cell a t :: l,aF=>match X a,look E.types t with
  | .pointer (some aE),some R=>s8 R Z aE fun v=>oC E X Z l fun bV=>aF (v :: bV)
  | _,_=>False
def tE:List Value→Value
 | [v]=>v
 | bV=>.tuple bV.toArray
def dO(f:Func):Code:=match f.body with | some c=>c | none=>.skip
def a4:Code→List Bool→Code
 | c,[]=>c
 | .seq a _,false :: p=>a4 a p
 | .seq _ K,true :: p=>a4 K p
 | .cond _ a _,false :: p=>a4 a p
 | .cond _ _ K,true :: p=>a4 K p
 | .block _ c,_ :: p=>a4 c p
 | .loop c,_ :: p=>a4 c p
 | .scope c,_ :: p=>a4 c p
 | _,_ :: _=>.skip
def oD(n:Nat)(aN:Oper):Bool:=match aN.dst with | some aT=>Nat.blt aT n | none=>true
def rR(a:Env)(n:Nat)(ops:Array Oper)(draw:Bool):Bool:=
 ops.toList.all (oD n) && (!draw || (Region.noSelect ops.toList.toArray && rP ops.toList))
def mW(E:Env)(n:Nat):Code→Bool
 | .region _ ops draw=>rR E n ops draw
 | .seq a K=>mW E n a && mW E n K
 | .cond _ a K=>mW E n a && mW E n K
 | .block _ c=>mW E n c
 | .loop c=>mW E n c
 | .scope c=>mW E n c
 | .skip | .exit _ | .ret | .label _=>true
 | _=>false
set_option linter.unusedSimpArgs false
def vC(P:Program)(f:FuncId):p4→Prop
 | .body | .quiet=>True
 | .o5=>∃ fn,P.funcs[f]?=some fn∧Extern.findNext fn=none∧Extern.find fn=some add64Entry
 | .o6=>∃ fn,P.funcs[f]?=some fn∧Extern.findNext fn=none∧Extern.find fn=some zO
structure hG(P:Program)(E:Env):Prop where
 ty:∀ t R,look E.types t=some R→j7 P t R=true
 fn:∀ f S,look E.fns f=some S→zR P f S=true
 ext:∀ f S,look E.fns f=some S→vC P f S
 mixed:P.follows .mixedOrders=true
 arr:∀ t p,look E.zP t=some p→P.underlying t=some (.array p.1 p.2)
def p4.Gg:p4→Bool
 | .body | .quiet=>false
 | _=>true
theorem Gh{P:Program}{l:List (Nat × p4)}{r:List (Nat × p4)}(O:l.filter (fun p=>p.2.Gg)=r)(Z:∀ p ∈ r,vC P p.1 p.2):∀ p ∈ l,vC P p.1 p.2:=by
 intro p a
 obtain⟨f,S⟩:=p
 cases S with
 | body=>trivial
 | quiet=>trivial
 | o5=>exact Z (f,.o5) (by rw [← O];exact List.mem_filter.2 ⟨a,rfl⟩)
 | o6=>exact Z (f,.o6) (by rw [← O];exact List.mem_filter.2 ⟨a,rfl⟩)
theorem hG.mk'{P:Program}{E:Env}(Z:BU P E=true)(b:∀ p ∈ E.fns,vC P p.1 p.2)(c:P.follows .mixedOrders=true):hG P E:=by
 simp only [BU,Bool.and_eq_true,List.all_eq_true] at Z
 refine⟨fun t R a5=>Z.1.1 (t,R) (xD a5),fun f S a=>Z.1.2 (f,S) (xD a),fun f S a=>b (f,S) (xD a),c,fun t p d=>?_⟩
 have:=Z.2 (t,p) (xD d)
 unfold BT at this
 split at this
 ·rename_i n O hu
  simp only [Bool.and_eq_true] at this
  rw [hu,Nat.eq_of_beq_eq_true this.1,Nat.eq_of_beq_eq_true this.2]
 ·cases this
section facts
variable {P:Program} {t O:TypeId} {fM:List hE} {K:Nat}
theorem tF{R:dL}(Z:j7 P t R=true):n7 (P.underlying t) R.ty=true:=by
 simp only [j7,Bool.and_eq_true] at Z;exact Z.1
theorem zV{S:IntKind}(Z:j7 P t ⟨.int S,fM,K⟩=true):P.underlying t=some (.int S):=by
 have aB:=tF Z
 simp only at aB
 unfold n7 at aB
 split at aB <;> simp_all
 exact xE aB
theorem Gi(Z:j7 P t ⟨.bool,fM,K⟩=true):P.underlying t=some .bool:=by
 have aB:=tF Z
 simp only at aB
 unfold n7 at aB
 split at aB <;> simp_all
theorem tG(Z:j7 P t ⟨.str,fM,K⟩=true):P.underlying t=some .string:=by
 have aB:=tF Z
 simp only at aB
 unfold n7 at aB
 split at aB <;> simp_all
theorem nI(Z:j7 P t ⟨.slice O,fM,K⟩=true):P.underlying t=some (.slice O):=by
 have aB:=tF Z
 simp only at aB
 unfold n7 at aB
 split at aB <;> simp_all
theorem B0{e2:List (Nat × TypeId)}(Z:j7 P t ⟨.struct e2,fM,K⟩=true):(∃ a,P.underlying t=some (.struct a)∧a.toList.map (fun f=>(f.offset,f.type))=e2)∨(e2=[]∧∃ n O,P.underlying t=some (.array n O)):=by
 have aB:=tF Z
 simp only at aB
 unfold n7 at aB
 split at aB <;> simp_all
theorem zW{e2:List (Nat × TypeId)}(b:e2 ≠ [])(Z:j7 P t ⟨.struct e2,fM,K⟩=true):∃ a,P.underlying t=some (.struct a)∧a.toList.map (fun f=>(f.offset,f.type))=e2:=by
 rcases B0 Z with Z | Z
 ·exact Z
 ·exact absurd Z.1 b
def o4.isTuple:o4→Bool
 | .tuple _=>true
 | _=>false
def o4.tH:o4→Bool
 | .struct _=>true
 | _=>false
theorem oE{R:dL}(Z:j7 P t R=true):∃ inf,P.info? t=some inf∧inf.size=R.leaves.length∧inf.bytes=R.bytes:=by
 simp only [j7,Bool.and_eq_true] at Z
 obtain⟨_,Z⟩:=Z
 split at Z
 ·rename_i inf a5
  simp only [Bool.and_eq_true] at Z
  exact⟨inf,a5,Nat.eq_of_beq_eq_true Z.1.1,Nat.eq_of_beq_eq_true Z.1.2⟩
 ·simp at Z
theorem tI{R:dL}(Z:j7 P t R=true)(b:R.ty.isTuple=false):
  ∃ inf,P.info? t=some inf∧inf.size=R.leaves.length∧inf.bytes=R.bytes∧∃ bM,inf.zero=some bM∧bM.cells.toList=R.a3:=by
 simp only [j7,Bool.and_eq_true] at Z
 obtain⟨_,Z⟩:=Z
 split at Z
 ·rename_i inf a5
  simp only [Bool.and_eq_true] at Z
  obtain⟨⟨aY,c⟩,a⟩:=Z
  split at a
  ·rename_i O;rw [O] at b;simp [o4.isTuple] at b
  ·split at a
   ·rename_i bM d
    exact⟨inf,a5,Nat.eq_of_beq_eq_true aY,Nat.eq_of_beq_eq_true c,bM,d,BS a⟩
   ·simp at a
 ·simp at Z
theorem Gj{R:dL}(Z:j7 P t R=true)(bI:R.ty.tH=false):∃ aT,P.underlying t=some aT∧(∀ e2,aT ≠ .struct e2)∧(∀ n O,aT ≠ .array n O):=by
 have aB:=tF Z
 cases hu:P.underlying t with
 | none=>rw [hu] at aB;cases R.ty <;> simp [n7] at aB
 | some aT=>
  rw [hu] at aB
  refine⟨aT,rfl,?_,?_⟩
  ·rintro e2 rfl
   cases a:R.ty <;> rw [a] at aB bI <;> simp [n7,o4.tH] at aB bI
  ·rintro n O rfl
   cases a:R.ty <;> rw [a] at aB bI <;> simp [n7,o4.tH] at aB bI
end facts
section runs
variable {P:Program} {t:TypeId}
theorem gI{aT:TypeDesc}(Z:P.underlying t=some aT)(aA:World):(underlying t).run P aA=.ok aT aA:=run_underlying Z aA
theorem kI{inf:TypeInfo}(Z:P.info? t=some inf)(aA:World):(sizeOf t).run P aA=.ok inf.size aA:=by simp [sizeOf,typeInfo,Z]
theorem zX{inf:TypeInfo}(Z:P.info? t=some inf)(aA:World):(typeInfo t).run P aA=.ok inf aA:=by simp [typeInfo,Z]
theorem tJ{inf:TypeInfo}{bM:Value}(Z:P.info? t=some inf)(a:inf.zero=some bM)(aA:World):(zeroValue t).run P aA=.ok bM aA:=by simp [zeroValue,typeInfo,Z,a]
theorem B1{R:dL}(Z:j7 P t R=true)(bI:R.ty.tH=false)(aA:World):(isAgg t).run P aA=.ok false aA:=by
 obtain⟨aT,a,aY,b⟩:=Gj Z bI
 unfold isAgg
 rw [Sem.run_bind,gI a]
 cases aT <;> first | rfl | exact absurd rfl (aY _) | exact absurd rfl (b _ _)
theorem B2{e2:List (Nat × TypeId)}{fM:List hE}{K:Nat}(Z:j7 P t ⟨.struct e2,fM,K⟩=true)(aA:World):(isAgg t).run P aA=.ok true aA:=by
 rcases B0 Z with ⟨b,a,_⟩ | ⟨_,n,O,a⟩ <;>
 ·unfold isAgg
  rw [Sem.run_bind,gI a]
  rfl
theorem xM:∀ (bV:List Value) (aE:Addr) (R:Nat) (a:Array Value) (aA:World),n5 aA.heap aE R bV→(loadCellsFrom aE R bV.length a).run P aA=.ok (a ++ bV.toArray) aA
 | [],aE,R,a,aA,_=>by simp [loadCellsFrom]
 | v :: bV,aE,R,a,aA,Z=>by
  have aV:aA.cell? (aE.add R)=some v:=Z.1
  have bO:=xM bV aE (R+1) (a.push v) aA Z.2
  simp only [List.length_cons,loadCellsFrom,Sem.run_bind,run_load,aV,Result.andThen,bO]
  simp
theorem Gk{v:Value}(Z:mE v=true):v.oneCell'=true:=by cases v <;> first | rfl | cases Z
theorem zY{aE:Addr}{v:Value}{aA:World}(aY:∃ aN,gL aA.heap aE=some aN)(a:lP aA.heap aE=false)(b:mE v=true):(store aE v).run P aA=.ok () (aA.setCell aE v):=by
 obtain⟨aN,c⟩:=aY
 have d:aA.cell? aE=some aN:=c
 have e:aA.frozen? aE=false:=a
 rw [run_store P aA aE v _ (Gk b),d]
 simp [e]
end runs
theorem iE{v:Value}{aF:Bool→Prop}(Z:eS v aF):∃ K,v=.bool K∧aF K:=by
 cases v <;> first | exact⟨_,rfl,Z⟩ | cases Z
theorem bN{S:IntKind}{v:Value}{aF:Int→Prop}(Z:aW S v aF):∃ n,v=.int S n∧aF n:=by
 cases v with
 | int cV n=>
  unfold aW at Z
  cases O:o7 S cV with
  | false=>simp [O] at Z
  | true=>simp [O] at Z;obtain rfl:=xE O;exact⟨n,rfl,Z⟩
 | _=>cases Z
theorem B3{v:Value}{aF:ByteArray→Prop}(Z:xF v aF):∃ aI,v=.string aI∧aF aI:=by
 cases v <;> first | exact⟨_,rfl,Z⟩ | cases Z
theorem b0{v:Value}{aF:M→Nat→Nat→Prop}(Z:aU v aF):∃ a l c,v=.slice a l c∧aF a l c:=by
 cases v <;> first | exact⟨_,_,_,rfl,Z⟩ | cases Z
theorem B4{v:Value}{aF:M→Prop}(Z:xG v aF):∃ a,v=.pointer a∧aF a:=by
 cases v <;> first | exact⟨_,rfl,Z⟩ | cases Z
theorem xN{S:hE}{v:Value}{aF:Value→Prop}(Z:rK S v aF):aF v∧mE v=true:=by
 cases S with
 | int S=>obtain⟨n,O,g⟩:=bN (show aW S v _ from Z);subst O;exact⟨g,rfl⟩
 | bool=>obtain⟨n,O,g⟩:=iE (show eS v _ from Z);subst O;exact⟨g,rfl⟩
 | str=>obtain⟨n,O,g⟩:=B3 (show xF v _ from Z);subst O;exact⟨g,rfl⟩
 | slice=>obtain⟨a,l,c,O,g⟩:=b0 (show aU v _ from Z);subst O;exact⟨g,rfl⟩
 | ptr=>obtain⟨n,O,g⟩:=B4 (show xG v _ from Z);subst O;exact⟨g,rfl⟩
theorem e1{l:List Value}{aF:Value→List Value→Prop}(Z:cW l aF):∃ v bV,l=v :: bV∧aF v bV:=by
 cases l <;> first | exact⟨_,_,rfl,Z⟩ | cases Z
theorem hK{l:List Value}{aF:Prop}(Z:b6 l aF):l=[]∧aF:=by
 cases l <;> first | exact⟨rfl,Z⟩ | cases Z
theorem B5:∀ {a:List hE} {l:List Value} {aF:List Value→Prop},u3 a l aF→aF l
 | [],l,aF,Z=>by obtain⟨O,g⟩:=hK Z;subst O;exact g
 | S :: a,l,aF,Z=>by
  obtain⟨v,bV,O,g⟩:=e1 Z
  subst O
  exact B5 (aF:=fun b=>aF (v :: b)) (xN g).1
theorem zZ{v:Value}{aF:List Value→Prop}(Z:eA v aF):∃ c9,v=.agg c9∧aF c9.toList:=by
 cases v <;> first | exact⟨_,rfl,Z⟩ | cases Z
theorem B6{v:Value}{aF:List Value→Prop}(Z:c1 v aF):∃ c9,v=.tuple c9∧aF c9.toList:=by
 cases v <;> first | exact⟨_,rfl,Z⟩ | cases Z
theorem B7{R:dL}{v:Value}{aF:Value→Prop}(Z:rL R v aF):aF v:=by
 unfold rL at Z
 split at Z
 ·obtain⟨c9,O,g⟩:=zZ Z
  subst O
  have:=B5 g
  simpa using this
 ·split at Z
  ·exact(xN Z).1
  ·cases Z
theorem B8{E:Env}:∀ {jO:List TypeId} {l:List Value} {aF:List Value→Prop},s3 E jO l aF→aF l
 | [],l,aF,Z=>by obtain⟨O,g⟩:=hK Z;subst O;exact g
 | t :: jO,l,aF,Z=>by
  obtain⟨v,bV,O,g⟩:=e1 Z
  subst O
  split at g
  ·exact B8 (aF:=fun a=>aF (v :: a)) (B7 g)
  ·cases g
theorem z0{E:Env}{t:TypeId}{v:Value}{aF:Value→Prop}(Z:p5 E t v aF):aF v:=by
 unfold p5 at Z
 split at Z
 ·split at Z
  ·obtain⟨c9,O,g⟩:=B6 Z
   subst O
   have:=B8 g
   simpa using this
  ·exact B7 Z
 ·exact Z
section still
variable {P:Program} {E:Env}
theorem Gl{op:BinOp}{S:IntKind}{a K:Int}{aF:Value→Prop}{t:TypeId}(Z:xH op S a K aF)(aY:op ≠ .shl)(b:op ≠ .shr):
  ∃ v,aF v∧∀ aA,(binOp op t (.int S a) (.int S K)).run P aA=.ok v aA:=by
 cases op with
 | shl=>exact absurd rfl aY
 | shr=>exact absurd rfl b
 | add=>exact⟨_,Z.out,fun aA=>by simp [binOp,Op.intArith]⟩
 | sub=>exact⟨_,Z.out,fun aA=>by simp [binOp,Op.intArith]⟩
 | mul=>exact⟨_,Z.out,fun aA=>by simp [binOp,Op.intArith]⟩
 | quo=>exact⟨_,Z.2.out,fun aA=>by simp [binOp,Op.intDiv,Z.1]⟩
 | rem=>exact⟨_,Z.2.out,fun aA=>by simp [binOp,Op.intDiv,Z.1]⟩
 | and=>exact⟨_,Z.out,fun aA=>by rw [binOp_and];rfl⟩
 | or=>exact⟨_,Z.out,fun aA=>by rw [binOp_or];rfl⟩
 | xor=>exact⟨_,Z.out,fun aA=>by rw [binOp_xor];rfl⟩
 | andNot=>exact⟨_,Z.out,fun aA=>by rw [binOp_andNot];rfl⟩
 | eql=>exact⟨_,Z,fun aA=>by rw [binOp_eql];rfl⟩
 | neq=>exact⟨_,Z,fun aA=>by rw [binOp_neq];rfl⟩
 | lss=>exact⟨_,Z,fun aA=>by rw [binOp_lss];rfl⟩
 | leq=>exact⟨_,Z,fun aA=>by rw [binOp_leq];rfl⟩
 | gtr=>exact⟨_,Z,fun aA=>by rw [binOp_gtr];rfl⟩
 | geq=>exact⟨_,Z,fun aA=>by rw [binOp_geq];rfl⟩
theorem B9{t:TypeId}(Z:P.underlying t=some .bool)(a K:Bool)(aA:World):(Op.equal t (.bool a) (.bool K)).run P aA=.ok (a == K) aA:=by
 have b:Op.maxDepth=9999+1:=rfl
 rw [Op.equal,b,Op.equalIn,Sem.run_bind,gI Z]
 rfl
theorem Ca{t O:TypeId}(Z:P.underlying t=some (.slice O))(a:M)(l c b c8:Nat)(aA:World):(Op.equal t (.slice a l c) (.slice none b c8)).run P aA=.ok a.isNone aA:=by
 have d:Op.maxDepth=9999+1:=rfl
 rw [Op.equal,d,Op.equalIn,Sem.run_bind,gI Z]
 cases a <;> rfl
theorem Gm(e:hG P E){op:BinOp}{t:TypeId}{a1 bH:Operand}{N aQ:Value}{aF:Value→Prop}(Z:s5 E op t N aQ aF):
  ∃ v,aF v∧∀ aA,(do eqGuard op t a1 bH N aQ;binOp op t N aQ:Sem Value).run P aA=.ok v aA:=by
 unfold s5 at Z
 split at Z
 ·rename_i S a cV K
  have b:eqGuard op t a1 bH (.int S a) (.int cV K)=pure ():=eqGuard_at_int ..
  split at Z
  ·exact⟨_,Z.2.out,fun aA=>by
    rw [b]
    have:¬ K < 0:=by omega
    simp [binOp,Op.shift,hW,this]⟩
  ·exact⟨_,Z.2.out,fun aA=>by
    rw [b]
    have:¬ K < 0:=by omega
    simp [binOp,Op.shift,gP,this]⟩
  ·rename_i aY f
   cases O:o7 S cV with
   | false=>simp [O] at Z
   | true=>
    simp only [O,cond_true] at Z
    obtain rfl:=xE O
    obtain⟨v,bP,g⟩:=Gl (P:=P) (t:=t) Z aY f
    exact⟨v,bP,fun aA=>by rw [b];simp [g aA]⟩
 ·rename_i a K
  have b:eqGuard op t a1 bH (.string a) (.string K)=pure ():=eqGuard_at_string ..
  split at Z
  ·refine⟨_,Z.2,fun aA=>?_⟩
   rw [b]
   have aY:¬ ((a.size+K.size:Nat):Int) > IntKind.i64.max:=by rw [IntKind.max_i64];omega
   simp only [binOp,Op.stringOp,pure_bind]
   rw [if_neg aY]
   rfl
  ·exact⟨_,Z,fun aA=>by rw [b];simp [binOp,Op.stringOp]⟩
  ·exact⟨_,Z,fun aA=>by rw [b];simp [binOp,Op.stringOp]⟩
  ·cases Z
 ·rename_i a K
  have b:eqGuard op t a1 bH (.bool a) (.bool K)=pure ():=eqGuard_at_bool ..
  split at Z
  ·rename_i fM h d
   have hu:=Gi (e.ty _ _ d)
   split at Z
   ·exact⟨_,Z,fun aA=>by rw [b];simp [binOp,B9 hu]⟩
   ·exact⟨_,Z,fun aA=>by rw [b];simp [binOp,B9 hu]⟩
   ·cases Z
  ·cases Z
 ·rename_i a l c i c8
  have b:eqGuard op t a1 bH (.slice a l c) (.slice none i c8)=pure ():=eqGuard_at_slice ..
  split at Z
  ·rename_i O fM h d
   have hu:=nI (e.ty _ _ d)
   split at Z
   ·exact⟨_,Z,fun aA=>by rw [b];simp [binOp,Ca hu]⟩
   ·exact⟨_,Z,fun aA=>by rw [b];simp [binOp,Ca hu]⟩
   ·cases Z
  ·cases Z
 ·cases Z
theorem Gn{op:UnOp}{N:Value}{aF:Value→Prop}(Z:s6 op N aF):∃ v,aF v∧∀ aA,(Op.unary op N).run P aA=.ok v aA:=by
 unfold s6 at Z
 split at Z
 ·exact⟨_,Z.out,fun aA=>by simp [Op.unary,Op.intArith]⟩
 ·rename_i S n
  refine⟨_,Z.out,fun aA=>?_⟩
  have O:(if S.signed=true then(-1:Int) else S.max)=bif S.signed then -1 else S.max:=by cases S.signed <;> rfl
  simp only [Op.unary,O]
  rfl
 ·exact⟨_,Z,fun aA=>by simp [Op.unary]⟩
 ·cases Z
theorem Cb{Z:U}{aE:Addr}:∀ {b:List hE} {R:Nat} {aF:List Value→Prop},s7 Z aE R b aF→∃ bV,aF bV∧n5 Z aE R bV∧bV.length=b.length
 | [],R,aF,a=>⟨[],a,trivial,rfl⟩
 | S :: b,R,aF,a=>by
  unfold s7 fB at a
  split at a
  ·rename_i v bP
   obtain⟨bV,aY,c,d⟩:=Cb (aF:=fun bV=>aF (v :: bV)) (xN a).1
   exact⟨v :: bV,aY,⟨bP,c⟩,by simp [d]⟩
  ·cases a
theorem rS{Z aB:U}{aE:Addr}(O:aB[aE.block]?=Z[aE.block]?):gL aB aE=gL Z aE:=by unfold gL;rw [O]
theorem p8(aE:Addr)(R:Nat):(aE.add R).block=aE.block:=by unfold Addr.add;split <;> rfl
theorem Cc{Z aB:U}{aE:Addr}(O:aB[aE.block]?=Z[aE.block]?):∀ {bV:List Value} {R:Nat},n5 Z aE R bV→n5 aB aE R bV
 | [],_,_=>trivial
 | v :: bV,R,a=>⟨(rS (Z:=Z) (aB:=aB) (aE:=aE.add R) (by rw [p8];exact O)).trans a.1,Cc O a.2⟩
theorem Cd(e:hG P E){t:TypeId}{R:dL}(f:look E.types t=some R){Z:U}{aE:Addr}{aF:Value→Prop}(a:s8 R Z aE aF):
  ∃ v,aF v∧∀ aA:World,aA.heap[aE.block]?=Z[aE.block]?→(Instr.loadAt t (.pointer (some aE))).run P aA=.ok v aA:=by
 have b:=e.ty _ _ f
 obtain⟨ty,fM,K⟩:=R
 unfold s8 at a
 split at a
 ·rename_i e2 O
  simp only at O a
  subst O
  obtain⟨bV,aY,c,g⟩:=Cb a
  refine⟨_,aY,fun aA d=>?_⟩
  obtain⟨inf,a5,bI,_⟩:=oE b
  have h:=xM (P:=P) bV aE 0 #[] aA (Cc d c)
  simp only at bI
  simp only [Instr.loadAt,Instr.sureAddr,pure_bind,loadVar,Sem.run_bind,B2 b,Result.andThen,if_true,kI a5,loadCells,bI,← g,h]
  simp
 ·cases a
 ·rename_i aY c
  simp only at a aY c
  split at a
  ·rename_i S
   unfold fB at a
   split at a
   ·rename_i v bP
    refine⟨v,(xN a).1,fun aA d=>?_⟩
    have bI:(dL.mk ty [S] K).ty.tH=false:=by
     cases ty <;> first | rfl | exact absurd rfl (aY _)
    have i:aA.cell? aE=some v:=by rw [Ga,rS d];exact bP
    simp [Instr.loadAt,Instr.sureAddr,loadVar,B1 b bI,i]
   ·cases a
  ·cases a
theorem Gp{t O:TypeId}{inf:TypeInfo}(hu:P.underlying t=some (.slice O))(a5:P.info? O=some inf){a:M}{l c:Nat}{S:IntKind}{n:Int}{aF:Addr→Prop}
  (b:c2 a l n inf.size aF):∃ aE,aF aE∧∀ aA,(Instr.indexAt t (.slice a l c) (.int S n)).run P aA=.ok (.pointer (some aE)) aA:=by
 obtain⟨⟨aV,aY⟩,b⟩:=b
 split at b
 ·rename_i p
  refine⟨_,b,fun aA=>?_⟩
  simp only [Instr.indexAt,asIntOf,pure_bind,Sem.run_bind,gI hu,Result.andThen]
  simp [aV,aY,kI a5]
 ·cases b
theorem Gq{t O:TypeId}{inf:TypeInfo}{m:Nat}(hu:P.underlying t=some (.array m O))(a5:P.info? O=some inf){p:Addr}{S:IntKind}{n:Int}{aF:Addr→Prop}
  (a:c2 (some p) m n inf.size aF):∃ aE,aF aE∧∀ aA,(Instr.indexAt t (.pointer (some p)) (.int S n)).run P aA=.ok (.pointer (some aE)) aA:=by
 obtain⟨⟨aV,aY⟩,a⟩:=a
 refine⟨_,a,fun aA=>?_⟩
 simp only [Instr.indexAt,asIntOf,pure_bind,Sem.run_bind,gI hu,Result.andThen,Instr.sureAddr]
 simp [aV,aY,kI a5,gI hu]
theorem vD{P:Program}{v:Option Value}{b aQ:Nat}{aF:Nat→Prop}(Z:n8 v b aQ aF):
  ∃ m,aF m∧(v=none→m=b)∧∀ N,v=some N→∀ code (aA:World),(Instr.sliceBound N aQ code).run P aA=.ok m aA:=by
 unfold n8 at Z
 split at Z
 ·exact⟨_,Z,⟨fun _=>rfl,fun N a=>(by cases a)⟩⟩
 ·rename_i S R
  refine⟨R.toNat,Z.2,⟨fun a=>(by cases a),fun N a code aA=>?_⟩⟩
  obtain rfl:=Option.some.inj a
  exact run_sliceBound aA S R aQ code Z.1.1 Z.1.2
 ·cases Z
theorem Gr{t O:TypeId}{inf:TypeInfo}(hu:P.underlying t=some (.slice O))(a5:P.info? O=some inf){a:M}{l c:Nat}{bQ d e:Option Value}{aF:Value→Prop}
  (b:hX inf.size a l c bQ d e fun a l c=>aF (.slice a l c)):∃ v,aF v∧∀ aA,(Instr.sliceAt t (.slice a l c) bQ d e).run P aA=.ok v aA:=by
 unfold hX at b
 split at b
 ·cases b
 ·rename_i j
  obtain⟨m,b,k,i⟩:=vD (P:=P) b
  obtain⟨n,b,aV,f⟩:=vD (P:=P) b
  obtain⟨o,b,g,h⟩:=vD (P:=P) b
  refine⟨_,b,fun aA=>?_⟩
  have p:(Instr.sliceBounds true l c bQ d e).run P aA=.ok (o,n,m) aA:=by
   unfold Instr.sliceBounds
   cases e with
   | none=>
    obtain rfl:=k rfl
    cases d with
    | none=>
     obtain rfl:=aV rfl
     cases bQ with
     | none=>obtain rfl:=g rfl;rfl
     | some N=>simp [h N rfl]
    | some aQ=>
     cases bQ with
     | none=>obtain rfl:=g rfl;simp [f aQ rfl]
     | some N=>simp [h N rfl,f aQ rfl]
   | some bM=>
    cases d with
    | none=>exact absurd rfl (j bM rfl)
    | some aQ=>
     cases bQ with
     | none=>obtain rfl:=g rfl;simp [f aQ rfl,i bM rfl]
     | some N=>simp [h N rfl,f aQ rfl,i bM rfl]
  simp only [Instr.sliceAt,Sem.run_bind,gI hu,Result.andThen,Instr.slice,p,kI a5,iP]
  rfl
theorem Gs{t:TypeId}(hu:P.underlying t=some .string){aI:ByteArray}{bQ b:Option Value}{aF:Value→Prop}
  (a:u5 aI bQ b fun aI=>aF (.string aI)):∃ v,aF v∧∀ aA,(Instr.sliceAt t (.string aI) bQ b none).run P aA=.ok v aA:=by
 unfold u5 at a
 obtain⟨f,a,aV,c⟩:=vD (P:=P) a
 obtain⟨g,a,d,e⟩:=vD (P:=P) a
 refine⟨_,a,fun aA=>?_⟩
 have h:(Instr.sliceBounds false aI.size aI.size bQ b none).run P aA=.ok (g,f,aI.size) aA:=by
  unfold Instr.sliceBounds
  cases b with
  | none=>
   obtain rfl:=aV rfl
   cases bQ with
   | none=>obtain rfl:=d rfl;rfl
   | some N=>simp [e N rfl]
  | some aQ=>
   cases bQ with
   | none=>obtain rfl:=d rfl;simp [c aQ rfl]
   | some N=>simp [e N rfl,c aQ rfl]
 simp only [Instr.sliceAt,Sem.run_bind,gI hu,Result.andThen,Instr.slice,Option.isSome_none,Bool.false_eq_true,if_false,h]
 rfl
theorem Ce:∀ (l:List Value) (off S:Nat) (cells:Array Value),off+S+l.length≤cells.size→
  (l.zipIdx S).foldl (fun c9 p=>c9.setIfInBounds (off+p.2) p.1) cells=(cells.toList.take (off+S) ++ (l ++ cells.toList.drop (off+S+l.length))).toArray
 | [],off,S,cells,Z=>by simp
 | v :: l,off,S,cells,Z=>by
  have a:off+S < cells.size:=by simp at Z;omega
  have bO:=Ce l off (S+1) (cells.setIfInBounds (off+S) v) (by simp at Z ⊢;omega)
  simp only [List.zipIdx_cons,List.foldl_cons,bO]
  congr 1
  have b:(cells.setIfInBounds (off+S) v).toList=cells.toList.set (off+S) v:=by simp
  rw [b]
  have c:off+(S+1)=off+S+1:=by omega
  have d:off+(S+1)+l.length=off+S+(l.length+1):=by omega
  have e:off+S < cells.toList.length:=by simpa using a
  rw [d,c,List.length_cons,List.take_succ_eq_append_getElem (by simpa using a)]
  rw [List.getElem_set_self,List.take_set_of_le (Nat.le_refl _),List.drop_set_of_lt (by omega)]
  simp
theorem z1{z2 place:Nat→Option (Nat × Nat)}(a:∀ R,z2 R=place R):∀ (parts:List (Nat × Value)) (cells out:List Value),s9 place cells parts=some out→
  Instr.fill z2 cells.toArray parts=some out.toArray
 | [],cells,out,Z=>by simp only [s9,Option.some.injEq] at Z;subst Z;rfl
 | (R,v) :: rest,cells,out,Z=>by
  unfold s9 at Z
  unfold Instr.fill
  rw [a R]
  split at Z
  ·cases Z
  ·rename_i off size O
   rw [O]
   simp only
   cases aG:Nat.beq v.cells.toList.length size with
   | false=>rw [aG] at Z;cases Z
   | true=>
    cases bG:Nat.ble (off+v.cells.toList.length) cells.length with
    | false=>rw [aG,bG] at Z;cases Z
    | true=>
     rw [aG,bG] at Z
     simp only [Bool.and_self,cond_true] at Z
     have d1:v.cells.size=size:=by simpa using Nat.eq_of_beq_eq_true aG
     have d2:off+v.cells.size≤cells.length:=by simpa using Nat.le_of_ble_eq_true bG
     have b:=Ce v.cells.toList off 0 cells.toArray (by simpa using d2)
     have bO:=z1 a rest _ out Z
     have c:(v.cells.zipIdx.foldl (fun c9 (p:Value × Nat)=>c9.setIfInBounds (off+p.2) p.1) cells.toArray)=(zS cells off v.cells.toList).toArray:=by
      rw [← Array.foldl_toList,Array.toList_zipIdx,b]
      simp [zS]
     have dA:¬ (v.cells.size ≠ size || off+v.cells.size > cells.toArray.size)=true:=by simp;omega
     rw [if_neg dA]
     rw [← bO]
     congr 1
theorem Gt{a:List Field}(Z:∀ f ∈ a,∃ inf,P.info? f.type=some inf)(aA:World):
  (a.mapM fun (f:Field)=>(do pure (f.offset,← sizeOf f.type):Sem (Nat × Nat))).run P aA=.ok (a.map fun f=>(f.offset,P.cellsOf f.type)) aA:=by
 induction a with
 | nil=>rfl
 | cons f l bO=>
  obtain⟨inf,a5⟩:=Z f (by simp)
  have b:=bO fun g c=>Z g (by simp [c])
  rw [List.mapM_cons]
  simp only [Sem.run_bind,kI a5,Result.andThen,Sem.run_pure,b,List.map_cons,Program.cellsOf,a5]
  rfl
theorem Cf:∀ {e2:List (Nat × TypeId)},rM E e2=true→∀ p ∈ e2,∃ R,look E.types p.2=some R
 | [],_,p,a=>by cases a
 | (off,t) :: l,Z,p,a=>by
  unfold rM at Z
  split at Z
  ·rename_i R a5
   rcases List.mem_cons.1 a with rfl | a
   ·exact⟨R,a5⟩
   ·exact Cf Z p a
  ·cases Z
theorem Gu{t:TypeId}{R:dL}(Z:j7 P t R=true):P.cellsOf t=R.leaves.length:=by
 obtain⟨inf,a5,bI,_⟩:=oE Z
 simp [Program.cellsOf,a5,bI]
theorem Cg:∀ {rest:List Value} {N:Value} {aF:Value→Prop},mC N rest aF→∃ v,aF v∧∀ aA,(rest.foldlM Builtin.max2 N:Sem Value).run P aA=.ok v aA
 | [],N,aF,Z=>by unfold mC at Z;exact⟨N,Z,fun aA=>rfl⟩
 | aQ :: rest,N,aF,Z=>by
  cases N with
  | int S a=>
   cases aQ with
   | int cV K=>
    unfold mC at Z
    obtain⟨v,bP,b⟩:=Cg Z
    exact⟨v,bP,fun aA=>by simp only [List.foldlM_cons,Builtin.max2,pure_bind];exact b aA⟩
   | _=>simp [mC] at Z
  | _=>cases aQ <;> simp [mC] at Z
theorem Ch:∀ {rest:List Value} {N:Value} {aF:Value→Prop},mD N rest aF→∃ v,aF v∧∀ aA,(rest.foldlM Builtin.min2 N:Sem Value).run P aA=.ok v aA
 | [],N,aF,Z=>by unfold mD at Z;exact⟨N,Z,fun aA=>rfl⟩
 | aQ :: rest,N,aF,Z=>by
  cases N with
  | int S a=>
   cases aQ with
   | int cV K=>
    unfold mD at Z
    obtain⟨v,bP,b⟩:=Ch Z
    exact⟨v,bP,fun aA=>by simp only [List.foldlM_cons,Builtin.min2,pure_bind];exact b aA⟩
   | _=>simp [mD] at Z
  | _=>cases aQ <;> simp [mD] at Z
theorem Gw(N aQ c:Int)(b:0≤N)(d:0≤aQ)(e:0≤c)(h:c≤1)(i:aQ < 18446744073709551616)(aA:World):
  (zO #[.int .u64 N,.int .u64 aQ,.int .u64 c]).run P aA=
   .ok (.tuple #[.int .u64 ((N - aQ - c) % 18446744073709551616),.int .u64 (if N < aQ+c then 1 else 0)]) aA:=by
 have key:∀ S:Nat,S≤1→(zO #[.int .u64 N,.int .u64 aQ,.int .u64 (S:Int)]).run P aA=
   .ok (Extern.MathBitsCarry.pair ((N.toNat+Extern.MathBitsCarry.m64 - aQ.toNat - S) % Extern.MathBitsCarry.m64) (if N.toNat < aQ.toNat+S then 1 else 0)) aA:=by
  intro S j
  have:S=0∨S=1:=by omega
  rcases this with rfl | rfl <;> rfl
 obtain⟨S,rfl⟩:=Int.eq_ofNat_of_zero_le e
 rw [key S (by omega)]
 obtain⟨a1,rfl⟩:=Int.eq_ofNat_of_zero_le b
 obtain⟨bH,rfl⟩:=Int.eq_ofNat_of_zero_le d
 simp only [Extern.MathBitsCarry.pair,Extern.MathBitsCarry.m64,Int.toNat_natCast]
 have f:Int.ofNat ((a1+2 ^ 64 - bH - S) % 2 ^ 64)=((a1:Int) - bH - S) % 18446744073709551616:=by
  simp;omega
 have g:Int.ofNat (if a1 < bH+S then 1 else 0)=if (a1:Int) < bH+S then 1 else 0:=by
  by_cases a:a1 < bH+S
  ·rw [if_pos a,if_pos (by omega)];rfl
  ·rw [if_neg a,if_neg (by omega)];rfl
 rw [f,g]
theorem xO(a:hG P E){f:FuncId}{S:p4}(b:look E.fns f=some S):∃ fn,P.funcs[f]?=some fn∧(fn.name == "runtime.NumGoroutine")=false∧(S=.body∨S=.quiet→fn.body.isSome=true)∧(S=.o5∨S=.o6→fn.body.isNone=true):=by
 have Z:=a.fn _ _ b
 unfold zR at Z
 split at Z
 ·rename_i fn c
  refine⟨fn,c,?_⟩
  cases S <;> simp only [Bool.and_eq_true,Bool.not_eq_true'] at Z <;> simp [Z]
 ·cases Z
theorem Gx(e:hG P E){c:Call}{X:Fr}{t0:TypeId}{aF:Value→Prop}(Z:tA E c X aF):
  ∃ v,aF v∧∀ aA,(do let aT ← resolve (cS X) c t0;invoke aT.target aT.args:Sem Next).run P aA=.ok (.value v) aA:=by
 obtain⟨callee,⟨args⟩,⟨oF⟩⟩:=c
 unfold tA at Z
 simp only at Z
 split at Z
 ·
  split at Z
  ·rename_i N L t jO
   unfold u6 at Z
   split at Z
   ·rename_i O fM K a n x b bP
    have hu:=nI (e.ty _ _ b)
    refine⟨_,Z,fun aA=>?_⟩
    simp [resolve,invoke,builtin,Builtin.len_,bP,gI hu,goInt]
   ·rename_i fM K aI b bP
    have hu:=tG (e.ty _ _ b)
    refine⟨_,Z,fun aA=>?_⟩
    simp [resolve,invoke,builtin,Builtin.len_,bP,gI hu,goInt]
   ·cases Z
  ·cases Z
 ·
  split at Z
  ·rename_i N rest O
   obtain⟨v,bP,j⟩:=Cg (P:=P) Z
   refine⟨v,bP,fun aA=>?_⟩
   have d:(List.map (cS X) args)=N :: rest:=O
   simp [resolve,invoke,builtin,Builtin.max_,d,j]
  ·cases Z
 ·
  split at Z
  ·rename_i N rest O
   obtain⟨v,bP,j⟩:=Ch (P:=P) Z
   refine⟨v,bP,fun aA=>?_⟩
   have d:(List.map (cS X) args)=N :: rest:=O
   simp [resolve,invoke,builtin,Builtin.min_,d,j]
  ·cases Z
 ·
  rename_i f
  split at Z
  ·rename_i b
   split at Z
   ·rename_i N aQ bM O
    obtain⟨⟨aY,k,l,m⟩,Z⟩:=Z
    refine⟨_,Z,fun aA=>?_⟩
    obtain⟨fn,g,o,_,p⟩:=xO e b
    obtain⟨q,h,r,s⟩:=e.ext _ _ b
    obtain rfl:fn=q:=by rw [g] at h;exact Option.some.inj h
    have d:(List.map (cS X) args)=[.int .u64 N,.int .u64 aQ,.int .u64 bM]:=O
    have i:=run_callFunc_extern (P:=P) g o (p (by simp)) r s #[.int .u64 N,.int .u64 aQ,.int .u64 bM] aA
    rw [run_add64 N aQ bM aY k l m] at i
    simp only [resolve,Deferred.ofValue,cS,pure_bind,invoke]
    have u:(#[] ++ Array.map (cS X) { toList:=args } ++ #[]:Array Value)=#[.int .u64 N,.int .u64 aQ,.int .u64 bM]:=by simp [d]
    rw [u,i]
    rfl
   ·cases Z
  ·rename_i b
   split at Z
   ·rename_i N aQ bM O
    obtain⟨⟨aY,k,l,m,w⟩,Z⟩:=Z
    refine⟨_,Z,fun aA=>?_⟩
    obtain⟨fn,g,o,_,p⟩:=xO e b
    obtain⟨q,h,r,s⟩:=e.ext _ _ b
    obtain rfl:fn=q:=by rw [g] at h;exact Option.some.inj h
    have d:(List.map (cS X) args)=[.int .u64 N,.int .u64 aQ,.int .u64 bM]:=O
    have i:=run_callFunc_extern (P:=P) g o (p (by simp)) r s #[.int .u64 N,.int .u64 aQ,.int .u64 bM] aA
    rw [Gw N aQ bM aY k l m w] at i
    simp only [resolve,Deferred.ofValue,cS,pure_bind,invoke]
    have u:(#[] ++ Array.map (cS X) { toList:=args } ++ #[]:Array Value)=#[.int .u64 N,.int .u64 aQ,.int .u64 bM]:=by simp [d]
    rw [u,i]
    rfl
   ·cases Z
  ·cases Z
 ·cases Z
end still
set_option linter.unusedSimpArgs false
structure fR(n:Nat)(X:Fr)(a:Act):Prop where
 size:a.tmps.size=n
 defers:a.defers=[]
 get:∀ t,a.tmps.getD t undef=X t
theorem fR.cS{n:Nat}{X:Fr}{a:Act}(Z:fR n X a):a.eval=cS X:=by
 funext N
 cases N with
 | tmp t=>exact Z.get t
 | _=>rfl
theorem fR.put{n:Nat}{X:Fr}{a:Act}(Z:fR n X a){aN:Oper}(b:oD n aN=true)(v:Value):fR n (kG X aN.dst v) (a.put aN.dst v):=by
 unfold oD at b
 cases O:aN.dst with
 | none=>exact Z
 | some aT=>
  rw [O] at b
  have d:aT < n:=by simpa [Nat.blt_eq] using b
  refine⟨by simp [Act.put,Z.size],by simp [Act.put,Z.defers],fun t=>?_⟩
  simp only [Act.put,kG,jY]
  rw [Array.getD_eq_getD_getElem?,Array.getElem?_setIfInBounds]
  cases c:Nat.beq t aT with
  | true=>
   obtain rfl:=Nat.eq_of_beq_eq_true c
   have:t < a.tmps.size:=by rw [Z.size];exact d
   simp [this]
  | false=>
   have:aT ≠ t:=fun O=>by subst O;simp at c
   rw [if_neg this,← Array.getD_eq_getD_getElem?,Z.get t]
   rfl
section
variable {P:Program} {E:Env}
theorem z3(d:hG P E){aN:Oper}{X:Fr}{Z:U}{aF:Value→Prop}(b:hQ E aN.op X Z aF):
  ∃ v,aF v∧∀ aA:World,(∀ t a aE,aN.op=.load t a→cS X a=.pointer (some aE)→aA.heap[aE.block]?=Z[aE.block]?)→(execOp (cS X) aN).run P aA=.ok (.value v) aA:=by
 obtain⟨dst,op,type,pos,after,guard⟩:=aN
 simp only at b
 cases op with
 | move N=>exact⟨_,b,fun aA _=>rfl⟩
 | assign N=>exact⟨_,b,fun aA _=>rfl⟩
 | pick c a K=>
  simp only [hQ] at b
  split at b
  ·rename_i t o
   cases t with
   | true=>exact⟨_,b,fun aA _=>by simp [execOp,o,Go.asBool]⟩
   | false=>exact⟨_,b,fun aA _=>by simp [execOp,o,Go.asBool]⟩
  ·cases b
 | load t a=>
  simp only [hQ] at b
  split at b
  ·rename_i aE R D r
   obtain⟨v,bP,g⟩:=Cd d r b
   exact⟨v,bP,fun aA I=>by simp [execOp,D,g aA (I _ _ _ rfl D)]⟩
  ·cases b
 | binOp op t N aQ NJ=>
  obtain⟨v,bP,g⟩:=Gm d (a1:=N) (bH:=aQ) b
  exact⟨v,bP,fun aA _=>by
   have:=g aA
   simp only [execOp,Sem.run_bind] at this ⊢
   rw [this];rfl⟩
 | unOp op t N=>
  obtain⟨v,bP,g⟩:=Gn (P:=P) b
  exact⟨v,bP,fun aA _=>by simp [execOp,g aA]⟩
 | convert aI aT N=>
  simp only [hQ] at b
  split at b
  ·rename_i NK NL NM S fM K cV n aY h p
   have eB:=zV (d.ty _ _ aY)
   have J:=zV (d.ty _ _ h)
   exact⟨_,b.out,fun aA _=>by simp [execOp,convert,gI eB,gI J,p,Conv.intToInt]⟩
  ·cases b
 | indexAddr t N R=>
  simp only [hQ] at b
  split at b
  ·rename_i O fM K a l c S n aY h p
   split at b
   ·rename_i F s
    have eB:=nI (d.ty _ _ aY)
    obtain⟨inf,a5,bI,_⟩:=oE (d.ty _ _ s)
    rw [← bI] at b
    obtain⟨aE,y,g⟩:=Gp eB a5 (c:=c) (S:=S) b
    exact⟨_,y,fun aA _=>by simp [execOp,h,p,g aA]⟩
   ·cases b
  ·rename_i aE S n h p
   split at b
   ·rename_i m O Q
    split at b
    ·rename_i F s
     have eB:=d.arr _ _ Q
     obtain⟨inf,a5,bI,_⟩:=oE (d.ty _ _ s)
     rw [← bI] at b
     obtain⟨NN,y,g⟩:=Gq eB a5 (S:=S) b
     exact⟨_,y,fun aA _=>by simp [execOp,h,p,g aA]⟩
    ·cases b
   ·cases b
  ·cases b
 | index t N R=>
  simp only [hQ] at b
  split at b
  ·rename_i fM K aI S n aY h p
   have eB:=tG (d.ty _ _ aY)
   obtain⟨aV,b⟩:=b
   split at b
   ·rename_i c z
    exact⟨_,b,fun aA _=>by simp [execOp,h,p,Instr.index,asIntOf,gI eB,aV,z]⟩
   ·cases b
  ·cases b
 | extract N R=>
  simp only [hQ] at b
  split at b
  ·rename_i bV A
   split at b
   ·rename_i v bP
    have B:bV[R]?=some v:=by simpa using bP
    exact⟨v,b,fun aA _=>by simp [execOp,A,Instr.extract,B]⟩
   ·cases b
  ·cases b
 | fieldAddr aI N f=>
  simp only [hQ] at b
  split at b
  ·rename_i aE e2 fM K aY h
   split at b
   ·rename_i off t i
    split at b
    ·rename_i R a5
     cases q:Nat.beq R.leaves.length 0 with
     | true=>simp [q] at b
     | false=>
      simp only [q,cond_false] at b
      obtain⟨j,cU,O⟩:=zW (by rintro rfl;simp at i) (d.ty _ _ h)
      subst O
      have C:∃ e,j[f]?=some e∧e.offset=off∧e.type=t:=by
       rw [List.getElem?_map] at i
       cases k:j.toList[f]? with
       | none=>simp [k] at i
       | some e=>simp [k] at i;exact⟨e,by simpa using k,i.1,i.2⟩
      obtain⟨e,x,rfl,rfl⟩:=C
      exact⟨_,b,fun aA _=>by
       obtain⟨inf,u,bI,_⟩:=oE (d.ty _ _ a5)
       have T:¬ inf.size=0:=by rw [bI];intro V;rw [V] at q;simp at q
       simp [execOp,aY,Instr.fieldAt,gI cU,x,Instr.sureAddr,fieldPlace,kI u,T]⟩
    ·cases b
   ·cases b
  ·cases b
 | field t N f=>
  simp only [hQ] at b
  split at b
  ·rename_i c9 e2 fM K aY h
   split at b
   ·rename_i off Nv i
    obtain⟨j,cU,O⟩:=zW (by rintro rfl;simp at i) (d.ty _ _ h)
    subst O
    have C:∃ e,j[f]?=some e∧e.offset=off∧e.type=Nv:=by
     rw [List.getElem?_map] at i
     cases k:j.toList[f]? with
     | none=>simp [k] at i
     | some e=>simp [k] at i;exact⟨e,by simpa using k,i.1,i.2⟩
    obtain⟨e,x,rfl,rfl⟩:=C
    split at b
    ·rename_i NO G eM r
     have o:=d.ty _ _ r
     obtain⟨inf,u,bI,_⟩:=oE o
     refine⟨_,b,fun aA _=>?_⟩
     simp only at bI
     have Nw:c9.extract e.offset (e.offset+inf.size)=((c9.toList.drop e.offset).take G.length).toArray:=by
      apply Array.ext'
      simp [bI]
     simp [execOp,aY,Instr.field,gI cU,x,eA,part,B2 o,kI u,Nw,Go.asAgg]
    ·cases b
    ·rename_i R Nx NP r
     split at b
     ·rename_i v bP
      have B:c9[e.offset]?=some v:=by simpa using bP
      have bI:R.ty.tH=false:=by
       obtain⟨ty,G,eM⟩:=R
       cases ty <;> first | rfl | exact absurd rfl (Nx _ _ _)
      refine⟨v,b,fun aA _=>?_⟩
      simp [execOp,aY,Instr.field,gI cU,x,part,B1 (d.ty _ _ r) bI,B,Go.asAgg]
     ·cases b
    ·cases b
   ·cases b
  ·cases b
 | build t parts=>
  simp only [hQ] at b
  split at b
  ·rename_i e2 fM K aY
   cases w:(!e2.isEmpty && rM E e2) with
   | false=>simp [w] at b
   | true=>
    simp only [w,cond_true] at b
    have Ny:rM E e2=true:=by simp only [Bool.and_eq_true] at w;exact w.2
    have Nz:e2 ≠ []:=by rintro rfl;simp at w
    split at b
    ·rename_i cells z
     refine⟨_,b,fun aA _=>?_⟩
     have o:=d.ty _ _ aY
     obtain⟨j,cU,O⟩:=zW Nz o
     subst O
     obtain⟨inf,a5,bI,NQ,bM,q,NA⟩:=tI o rfl
     have H:=Cf Ny
     have NB:∀ f ∈ j.toList,∃ inf,P.info? f.type=some inf:=by
      intro f i
      obtain⟨R,a5⟩:=H (f.offset,f.type) (List.mem_map.2 ⟨f,i,rfl⟩)
      obtain⟨inf,aY,_⟩:=oE (d.ty _ _ a5)
      exact⟨inf,aY⟩
     have NC:=Gt (P:=P) NB aA
     have ND:(j.mapM fun (f:Field)=>(do pure (f.offset,← sizeOf f.type):Sem (Nat × Nat))).run P aA=.ok (j.toList.map fun f=>(f.offset,P.cellsOf f.type)).toArray aA:=by
      rw [Array.mapM_eq_mapM_toList,Sem.run_map,NC];rfl
     have NF:∀ aC,((j.toList.map fun f=>(f.offset,P.cellsOf f.type)).toArray)[aC]?=zT E (j.toList.map fun f=>(f.offset,f.type)) aC:=by
      intro aC
      unfold zT
      rw [List.getElem?_map]
      cases k:j.toList[aC]? with
      | none=>simpa using k
      | some f=>
       obtain⟨R,a5⟩:=H (f.offset,f.type) (List.mem_map.2 ⟨f,List.mem_of_getElem? k,rfl⟩)
       have:P.cellsOf f.type=R.leaves.length:=Gu (d.ty _ _ a5)
       simp at k
       simp [k,a5,this]
     have NG:=z1 NF _ _ _ z
     simp only [execOp,Sem.run_bind,Instr.build,tJ a5 q,Result.andThen,gI cU,ND]
     have NH:bM.cells=(fM.map hE.zero).toArray:=by apply Array.ext';simpa [dL.a3] using NA
     rw [NH]
     have NI:(Array.map (fun (N:Nat × Operand)=>match N with | (R,N)=>(R,cS X N)) parts).toList=parts.toList.map fun (R,N)=>(R,cS X N):=by simp
     rw [NI,NG]
     rfl
    ·cases b
  ·cases b
 | nilCheck N=>
  simp only [hQ] at b
  split at b
  ·rename_i aE A
   exact⟨_,b,fun aA _=>by simp [execOp,A]⟩
  ·cases b
 | slice t N bQ a5 NR=>
  simp only [hQ] at b
  split at b
  ·rename_i O fM K a l c aY h
   split at b
   ·rename_i F s
    have eB:=nI (d.ty _ _ aY)
    obtain⟨inf,u,bI,_⟩:=oE (d.ty _ _ s)
    rw [← bI] at b
    obtain⟨v,bP,g⟩:=Gr eB u b
    exact⟨v,bP,fun aA _=>by simp [execOp,h,g aA]⟩
   ·cases b
  ·rename_i fM K aI aY h
   split at b
   ·have eB:=tG (d.ty _ _ aY)
    obtain⟨v,bP,g⟩:=Gs eB b
    exact⟨v,bP,fun aA _=>by simp [execOp,h,g aA]⟩
   ·cases b
  ·cases b
 | call c=>
  obtain⟨v,bP,g⟩:=Gx d (t0:=type) b
  exact⟨v,bP,fun aA _=>g aA⟩
 | _=>exact b.elim
end
set_option linter.unusedSimpArgs false
theorem add_zero(aE:Addr):aE.add 0=aE:=by simp [Addr.add]
theorem Gy{Z:U}{a aE:Addr}{v aN:Value}(b:gL Z aE=some aN):∃ fH,gL (gB Z a v) aE=some fH:=by
 unfold gL gB at *
 rw [Array.getElem?_modify]
 split at b
 ·rename_i c O f e
  by_cases g:a.block=aE.block
  ·rw [if_pos g,e]
   simp only [Option.map_some]
   by_cases bI:aE.spot.isSome=true
   ·simp [bI] at b
   ·simp only [bI] at b ⊢
    have h:aE.off < c.size:=by
     rcases Nat.lt_or_ge aE.off c.size with d | d
     ·exact d
     ·simp [Array.getElem?_eq_none d] at b
    cases a.spot.isSome with
    | true=>exact⟨aN,by simpa using b⟩
    | false=>simp only [Bool.false_eq_true,if_false];rw [Array.getElem?_setIfInBounds];split <;> simp_all
  ·rw [if_neg g,e];exact⟨aN,b⟩
 ·cases b
theorem Gz(Z:U)(a aE:Addr)(v:Value):lP (gB Z a v) aE=lP Z aE:=by
 unfold lP gB
 rw [Array.getElem?_modify]
 by_cases b:a.block=aE.block
 ·rw [if_pos b]
  cases d:Z[aE.block]? with
  | none=>rfl
  | some c=>cases c <;> rfl
 ·rw [if_neg b]
theorem Ci{Z:U}{p a:Addr}{v:Value}:∀ {n R:Nat},n6 Z p R n→n6 (gB Z a v) p R n
 | 0,_,_=>trivial
 | n+1,R,bI=>by
  obtain⟨⟨⟨aN,b⟩,c⟩,d⟩:=bI
  exact⟨⟨Gy b,by rw [Gz];exact c⟩,Ci d⟩
section
variable {P:Program} {E:Env}
theorem Cj{aE:Addr}:∀ {l:List Value} {R:Nat} {aA:World} {aF:U→Prop},rN aA.heap aE R l aF→∃ cA,(storeCells aE l R).run P aA=.ok () cA∧eJ aA cA∧aF cA.heap
 | [],R,aA,aF,Z=>⟨aA,rfl,eJ.refl aA,Z⟩
 | v :: bV,R,aA,aF,Z=>by
  unfold rN at Z
  cases a:mE v with
  | false=>simp [a] at Z
  | true=>
   simp only [a,cond_true] at Z
   obtain⟨⟨aY,b⟩,c⟩:=Z
   have d:=zY (P:=P) aY b a
   obtain⟨cA,r,aI,S⟩:=Cj (aA:=aA.setCell (aE.add R) v) c
   exact⟨cA,by simp only [storeCells,Sem.run_bind,d,Result.andThen,r],eJ.trans (K:=aA.setCell _ v) ⟨rfl,rfl,rfl⟩ aI,S⟩
theorem xP{p:Addr}:∀ {bV:List Value} {R:Nat} {aA:World},n6 aA.heap p R bV.length→(∀ v ∈ bV,mE v=true)→
  ∃ cA,(storeCells p bV R).run P aA=.ok () cA∧eJ aA cA∧cA.heap=jN aA.heap p R bV
 | [],R,aA,_,_=>⟨aA,rfl,eJ.refl aA,rfl⟩
 | v :: bV,R,aA,Z,a=>by
  obtain⟨⟨aY,b⟩,c⟩:=Z
  have d:=zY (P:=P) aY b (a v (by simp))
  obtain⟨cA,r,aI,S⟩:=xP (aA:=aA.setCell (p.add R) v) (R:=R+1) (bV:=bV) (Ci c) (fun N e=>a N (by simp [e]))
  exact⟨cA,by simp only [storeCells,Sem.run_bind,d,Result.andThen,r],eJ.trans (K:=aA.setCell _ v) ⟨rfl,rfl,rfl⟩ aI,S⟩
theorem vE(a3:List Value):∀ n,(hR a3 n).length=n*a3.length
 | 0=>by simp [hR]
 | n+1=>by simp [hR,vE a3 n,Nat.succ_mul];omega
theorem Ck(a3:List Value):∀ n R,R < n*a3.length→(hR a3 n)[R]?=a3[R % a3.length]?
 | 0,R,Z=>by simp at Z
 | n+1,R,Z=>by
  simp only [hR]
  by_cases a5:R < a3.length
  ·rw [List.getElem?_append_left a5,Nat.mod_eq_of_lt a5]
  ·have a:a3.length≤R:=by omega
   rw [List.getElem?_append_right a,Ck a3 n (R - a3.length) (by rw [Nat.succ_mul] at Z;omega)]
   congr 1
   rw [Nat.mod_eq_sub_mod a]
theorem z4(a3:List Value)(n m:Nat)(c:m=n*a3.length)(bM:Array Value)(d:bM=a3.toArray):(Array.range m).map (fun R=>bM[R % bM.size]!)=(hR a3 n).toArray:=by
 subst d;subst c
 apply Array.ext
 ·simp [vE]
 ·intro R aY h
  simp only [Array.size_map,Array.size_range] at aY
  simp only [Array.getElem_map,Array.getElem_range]
  have e:0 < a3.length:=by
   rcases Nat.eq_zero_or_pos a3.length with Z | Z
   ·rw [Z] at aY;simp at aY
   ·exact Z
  have a:R % a3.length < a3.length:=Nat.mod_lt _ e
  have b:=Ck a3 n R aY
  rw [List.getElem?_eq_getElem a,List.getElem?_eq_getElem (by rw [vE];exact aY)] at b
  have f:=Option.some.inj b
  have g:R % a3.toArray.size < a3.toArray.size:=by simpa using a
  rw [getElem!_pos a3.toArray _ g]
  simp [f]
theorem Cl(a3:List Value)(n m:Nat)(a:m=n*a3.length)(bM:Array Value)(b:m ≠ 0→bM=a3.toArray):(Array.range m).map (fun R=>bM[R % bM.size]!)=(hR a3 n).toArray:=by
 by_cases aV:m=0
 ·subst aV
  have:(hR a3 n).length=0:=by rw [vE];exact a.symm
  rw [List.length_eq_zero_iff] at this
  rw [this];simp
 ·exact z4 a3 n m a bM (b aV)
theorem z5(R:dL):R.a3.length=R.leaves.length:=by simp [dL.a3]
theorem xQ{aA:World}{h4:Nat}{N:Value}{n:Nat}{c9:List Value}(Z:u7 aA.heap h4 N n c9):(Builtin.firstCells h4 n N).run P aA=.ok c9.toArray aA:=by
 obtain⟨a,_,Z⟩:=Z
 split at Z
 ·have b:=xM (P:=P) c9 _ 0 #[] aA Z
  simp only [Builtin.firstCells,loadCells,← a,b]
  simp
 ·subst Z;rfl
 ·subst Z
  simp only [Builtin.firstCells,Sem.run_pure]
  congr 1
  apply Array.ext'
  simp
 ·cases Z
theorem Cm{N:Value}{n:Nat}(Z:xI N=some n)(aA:World):(Builtin.lenOf N).run P aA=.ok n aA:=by
 unfold xI at Z
 split at Z <;> simp_all [Builtin.lenOf]
theorem GA(b:hG P E){t:TypeId}(Z:tC E t=true):(∃ O,P.underlying t=some (.slice O))∨P.underlying t=some .string:=by
 unfold tC at Z
 split at Z
 ·rename_i a;exact .inl ⟨_,nI (b.ty _ _ a)⟩
 ·rename_i a;exact .inr (tG (b.ty _ _ a))
 ·cases Z
set_option maxHeartbeats 2000000 in
theorem GB(h:hG P E){t o O ty:TypeId}{R:dL}{fM:List hE}{K:Nat}(aY:look E.types t=some ⟨.slice O,fM,K⟩)(y:look E.types O=some R)(z:tC E o=true)
  (A:R.ty.isTuple=false) {a:M} {l c:Nat} {N:Value} {aA:World} {aF:Value→U→Prop} (B:hF aA.heap O R a l c N fun a l c aB=>aF (.slice a l c) aB) :
  ∃ v cA,(Builtin.append_ #[t,o] ty #[.slice a l c,N]).run P aA=.ok v cA∧eJ aA cA∧aF v cA.heap:=by
 have eB:=nI (h.ty _ _ aY)
 obtain⟨inf,a5,bI,q,bM,C,D⟩:=tI (h.ty _ _ y) A
 have s:bM.cells=R.a3.toArray:=by apply Array.ext';simpa using D
 have i:=GA h z
 obtain⟨n,c9,F,j,f,G⟩:=B
 have k:=fun H=>Cm (P:=P) F H
 by_cases e:l+n≤c
 ·have f:=f e
  have g:(Builtin.firstCells inf.size n N).run P aA=.ok c9.toArray aA:=xQ (by rw [bI];exact j)
  cases a with
  | none=>
   refine⟨_,aA,?_,eJ.refl aA,f⟩
   rcases i with ⟨u,b⟩ | b <;>
    simp [Builtin.append_,gI eB,gI b,kI a5,k,e,g]
  | some p=>
   obtain⟨I,m⟩:=f
   obtain⟨cA,r,aI,J⟩:=xP (P:=P) I j.2.1
   refine⟨_,cA,?_,aI,by rw [J];exact m⟩
   rw [← bI] at r
   rcases i with ⟨u,b⟩ | b <;>
    simp [Builtin.append_,gI eB,gI b,kI a5,k,e,g,r]
 ·obtain⟨Nz,NA,NB,w,Q,m⟩:=G e
  have g:(Builtin.firstCells inf.size n N).run P aA.drew=.ok c9.toArray aA.drew:=xQ (by rw [bI];exact j)
  have T:(Builtin.firstCells inf.size l (.slice a l c)).run P aA.drew=.ok w.toArray aA.drew:=xQ (by rw [bI];exact Q)
  have V:inf.bytes ≠ 0:=by rw [q];omega
  have Nv:¬ 281474976710656 < Builtin.nextslicecap (l+n) c*inf.bytes:=by rw [q];omega
  obtain⟨d,x⟩:∃ d,d=Question.cut (.appendCap (l+n) c O) (aA.tape aA.drawn (.appendCap (l+n) c O)):=⟨_,rfl⟩
  have Nw:l+n≤d:=by rw [x];simp only [Question.cut];omega
  have Nx:Builtin.zeroCells bM.cells (d - (l+n))=(hR R.a3 (d - (l+n))).toArray:=by
   unfold Builtin.zeroCells
   exact z4 R.a3 _ _ (by rw [s];simp) _ s
  have Ny:(Question.appendCap (l+n) c O).forced=false:=rfl
  refine⟨_,aA.drew.alloc (.cells (w ++ (c9 ++ hR R.a3 (d - (l+n)))).toArray O (0,0)),?_,⟨rfl,rfl,rfl⟩,m d Nw⟩
  rcases i with ⟨u,b⟩ | b <;>
   simp [Builtin.append_,gI eB,gI b,kI a5,k,e,zX a5,V,Nv,T,g,tJ a5 C,newRow,Nx,Ny,← x]
theorem GC(d:hG P E){t O ty:TypeId}{oF:List TypeId}{R:dL}{fM:List hE}{K:Nat}(aY:look E.types t=some ⟨.slice O,fM,K⟩)(i:look E.types O=some R)
  {a:M} {l c:Nat} {N:Value} {aA:World} {aF:Value→U→Prop} (b:mF aA.heap R.leaves.length a l N fun n aB=>aF (.int .i64 n) aB) :
  ∃ v cA,(Builtin.copy_ (t :: oF).toArray ty #[.slice a l c,N]).run P aA=.ok v cA∧eJ aA cA∧aF v cA.heap:=by
 have eB:=nI (d.ty _ _ aY)
 obtain⟨inf,a5,bI,_⟩:=oE (d.ty _ _ i)
 obtain⟨n,c9,j,e,b⟩:=b
 have f:=fun k=>Cm (P:=P) j k
 have g:(Builtin.firstCells inf.size (Nat.min n l) N).run P aA=.ok c9.toArray aA:=xQ (by rw [bI];exact e)
 have h:min n l=Nat.min n l:=rfl
 cases a with
 | none=>
  refine⟨_,aA,?_,eJ.refl aA,b⟩
  simp [Builtin.copy_,gI eB,kI a5,f,g,goInt,h]
 | some p=>
  obtain⟨m,o⟩:=b
  obtain⟨cA,r,aI,q⟩:=xP (P:=P) m e.2.1
  refine⟨_,cA,?_,aI,by rw [q];exact o⟩
  simp [Builtin.copy_,gI eB,kI a5,f,g,goInt,r,h]
theorem GD(R:dL):∀ v ∈ R.a3,mE v=true:=by
 intro v bP
 obtain⟨S,_,rfl⟩:=List.mem_map.1 bP
 cases S <;> rfl
theorem Cn{a3:List Value}(Z:∀ v ∈ a3,mE v=true):∀ n,∀ v ∈ hR a3 n,mE v=true
 | 0,v,bP=>by simp [hR] at bP
 | n+1,v,bP=>by
  simp only [hR,List.mem_append] at bP
  rcases bP with bP | bP
  ·exact Z v bP
  ·exact Cn Z n v bP
theorem GF(d:hG P E){t O ty:TypeId}{R:dL}{fM:List hE}{K:Nat}(aY:look E.types t=some ⟨.slice O,fM,K⟩)(f:look E.types O=some R)(g:R.ty.isTuple=false)
  {a:M} {l c:Nat} {aA:World} {aF:Value→U→Prop} (b:xJ aA.heap R a l fun aB=>aF (.tuple #[]) aB) :
  ∃ v cA,(Builtin.clear_ #[t] ty #[.slice a l c]).run P aA=.ok v cA∧eJ aA cA∧aF v cA.heap:=by
 have eB:=nI (d.ty _ _ aY)
 obtain⟨inf,a5,bI,q,bM,h,i⟩:=tI (d.ty _ _ f) g
 have e:bM.cells=R.a3.toArray:=by apply Array.ext';simpa using i
 cases a with
 | none=>exact⟨_,aA,by simp [Builtin.clear_,gI eB],eJ.refl aA,b⟩
 | some p=>
  cases l with
  | zero=>exact⟨_,aA,by simp [Builtin.clear_,gI eB],eJ.refl aA,b⟩
  | succ l=>
   obtain⟨j,k⟩:=b
   have m:(hR R.a3 (l+1)).length=(l+1)*R.leaves.length:=by rw [vE,z5]
   obtain⟨cA,r,aI,n⟩:=xP (P:=P) (bV:=hR R.a3 (l+1)) (by rw [m];exact j) (Cn (GD R) _)
   have o:Builtin.zeroCells bM.cells (l+1)=(hR R.a3 (l+1)).toArray:=by
    unfold Builtin.zeroCells
    exact z4 R.a3 _ _ (by rw [e];simp) _ e
   refine⟨_,cA,?_,aI,by rw [n];exact k⟩
   simp [Builtin.clear_,gI eB,tJ a5 h,o,r]
theorem GG(b:hG P E){t O:TypeId}{R:dL}{fM:List hE}{K:Nat}(aY:look E.types t=some ⟨.slice O,fM,K⟩)(g:look E.types O=some R)(h:R.ty.isTuple=false)
  {S cV:IntKind} {n m:Int} {aA:World} {aF:Value→U→Prop} (i:h5 aA.heap O R n m fun p aB=>aF (.slice (some p) n.toNat m.toNat) aB) :
  ∃ v cA,(Instr.makeSlice t (.int S n) (.int cV m)).run P aA=.ok v cA∧eJ aA cA∧aF v cA.heap:=by
 have eB:=nI (b.ty _ _ aY)
 obtain⟨inf,a5,bI,j,bM,k,l⟩:=tI (b.ty _ _ g) h
 have o:bM.cells=R.a3.toArray:=by apply Array.ext';simpa using l
 obtain⟨⟨w,q,x,y⟩,r⟩:=i
 have z:m≤281474976710656:=by
  have:(1:Int)*m≤(R.bytes:Int)*m:=Int.mul_le_mul_of_nonneg_right (by omega) (by omega)
  omega
 have A:¬ (R.bytes:Int)*n > 281474976710656:=by
  have:(R.bytes:Int)*n≤(R.bytes:Int)*m:=Int.mul_le_mul_of_nonneg_left q (by omega)
  omega
 have c:IntKind.i64.wrap n=n:=by simp [IntKind.wrap,IntKind.bits,IntKind.signed];omega
 have d:IntKind.i64.wrap m=m:=by simp [IntKind.wrap,IntKind.bits,IntKind.signed];omega
 have e:∀ aQ:Array Value,(m.toNat*inf.size ≠ 0→aQ=bM.cells)→(Array.range (m.toNat*inf.size)).map (fun aC=>aQ[aC % aQ.size]!)=(hR R.a3 m.toNat).toArray:=by
  intro aQ s
  exact Cl R.a3 _ _ (by rw [bI,z5]) _ fun Z=>by rw [s Z,o]
 refine⟨_,{ aA with heap:=aA.heap.push (.cells (hR R.a3 m.toNat).toArray O (0,0)) },?_,⟨rfl,rfl,rfl⟩,r⟩
 have aG:¬ m < 0:=by omega
 have bG:¬ (281474976710656:Int) < (inf.bytes:Int)*m:=by rw [j];omega
 have dA:¬ n < 0:=by omega
 have eE:¬ n > m:=by omega
 have f:¬ m < n:=by omega
 by_cases aV:m.toNat*inf.size=0
 ·have a:=e #[] (fun Z=>absurd aV Z)
  rw [aV] at a
  have u:(hR R.a3 m.toNat).toArray=#[]:=by rw [← a];simp
  simp only [Instr.makeSlice,Sem.run_bind,gI eB,Result.andThen,Go.asInt,asIntOf,Sem.run_pure,zX a5,c,d]
  simp [aG,bG,dA,eE,f,kI a5,aV,newRow,u,Array.range_zero']
 ·have a:=e bM.cells (fun _=>rfl)
  simp only [Instr.makeSlice,Sem.run_bind,gI eB,Result.andThen,Go.asInt,asIntOf,Sem.run_pure,zX a5,c,d]
  simp [aG,bG,dA,eE,f,kI a5,aV,tJ a5 k,newRow,a]
theorem GH{aA:World}{aE:Addr}{t0:TypeId}{d:Int→Int→U→Prop}{e:Prop}(f:xK aA.heap aE d e):
  (∃ R c cA,(Instr.next (.pointer (some aE)) true t0).run P aA=.ok (.tuple #[.bool true,.int .i64 R,.int .i32 c]) cA∧eJ aA cA∧d R c cA.heap)∨
  ((Instr.next (.pointer (some aE)) true t0).run P aA=.ok (.tuple #[.bool false]) aA∧e):=by
 obtain⟨K,off,h⟩:=aE
 obtain⟨aV,aI,pos,b,b4,g⟩:=f
 dsimp only at aV b b4
 subst aV
 by_cases a:pos < aI.size
 ·refine .inl ⟨_,_,{ aA with heap:=BW aA.heap K aI (pos+(Utf8.decode aI pos).2) },?_,⟨rfl,rfl,rfl⟩,b4 a⟩
  simp only [Instr.next,getObj,setObj,Sem.run_bind,Sem.run,b,Result.andThen,a,if_true]
  rfl
 ·refine .inr ⟨?_,g a⟩
  simp [Instr.next,getObj,Sem.run,b,a]
theorem GI{aA:World}{a:M}{l c:Nat}{aF:ByteArray→Prop}(b:xL aA.heap a l aF):∃ aI,(Conv.bytesToString (.slice a l c)).run P aA=.ok (.string aI) aA∧aF aI:=by
 cases a with
 | none=>exact⟨_,rfl,b⟩
 | some p=>
  obtain⟨d,e,f,g⟩:=b
  refine⟨_,?_,g⟩
  have aY:=xM (P:=P) (d.map fun K=>Value.int .u8 K.toNat) p 0 #[] aA f
  rw [List.length_map,e] at aY
  have h:∀ (l:List UInt8) (aI:ByteArray),List.foldl (fun (K:ByteArray) (a:UInt8)=>K.push a) aI l=⟨aI.data ++ l.toArray⟩:=by
   intro l
   induction l with
   | nil=>intro aI;simp
   | cons N l bO=>intro aI;rw [List.foldl_cons,bO];simp [ByteArray.push]
  simp [Conv.bytesToString,loadCells,aY,h]
def mX(P:Program)(aN:Oper)(a:Act)(aA:World)(v:Value):Prop:=(execOp a.eval aN).run P aA=.ok (.value v) aA
def z6(P:Program)(aN:Oper)(a:Act)(aA:World)(v:Value):Prop:=
 ∃ f args,(execOp a.eval aN).run P aA=.ok (.enter f args) aA∧Calls P f args aA (fun O cA=>O=.returned v∧eJ aA cA∧cA.heap=aA.heap)
def lQ(P:Program)(aN:Oper)(a:Act)(aA:World)(b:Value→U→Prop):Prop:=
 (∃ v cA,(execOp a.eval aN).run P aA=.ok (.value v) cA∧eJ aA cA∧b v cA.heap)∨
 (∃ cA,(execOp a.eval aN).run P aA=.ok .skip cA∧eJ aA cA∧b undef cA.heap)∨
 (∃ f args,(execOp a.eval aN).run P aA=.ok (.enter f args) aA∧Calls P f args aA (fun O cA=>∃ v,O=.returned v∧eJ aA cA∧b v cA.heap))
theorem lQ.mono{aN:Oper}{a:Act}{aA:World}{d e:Value→U→Prop}(b:∀ v Z,d v Z→e v Z)(Z:lQ P aN a aA d):lQ P aN a aA e:=by
 rcases Z with ⟨v,cA,r,aI,S⟩ | ⟨cA,r,aI,S⟩ | ⟨f,args,r,c⟩
 ·exact .inl ⟨v,cA,r,aI,b _ _ S⟩
 ·exact .inr (.inl ⟨cA,r,aI,b _ _ S⟩)
 ·exact .inr (.inr ⟨f,args,r,c.mono fun _ _ ⟨v,O,aI,S⟩=>⟨v,O,aI,b _ _ S⟩⟩)
theorem lQ.some{aN:Oper}{a:Act}{aA:World}{b:Value→U→Prop}(Z:lQ P aN a aA b):∃ v aB,b v aB:=by
 rcases Z with ⟨v,cA,r,aI,S⟩ | ⟨cA,r,aI,S⟩ | ⟨f,args,r,c⟩
 ·exact⟨v,_,S⟩
 ·exact⟨_,_,S⟩
 ·obtain⟨O,cA,X,⟨v,_,_,S⟩,_⟩:=c []
  exact⟨v,_,S⟩
theorem lQ.wp{aN:Oper}{a:Act}{aA:World}{d:Value→U→Prop}(Z:lQ P aN a aA d){next:Act→World→Prop}{Q:Exit→Act→World→Prop}
  (b:∀ v cA,eJ aA cA→d v cA.heap→next (a.put aN.dst v) cA):aN.wp P a aA next Q:=by
 unfold Oper.wp
 rcases Z with ⟨v,cA,r,aI,S⟩ | ⟨cA,r,aI,S⟩ | ⟨f,args,r,c⟩
 ·rw [r];exact b v cA aI S
 ·rw [r];exact b _ cA aI S
 ·rw [r,Oper.upon_enter]
  refine c.mono ?_
  rintro O cA ⟨v,rfl,aI,S⟩
  exact b v cA aI S
theorem z7(g:hG P E){aN:Oper}{X:Fr}{a:Act}(x:a.eval=cS X){aA:World}{aF:Value→U→Prop}(b:iW P E aN.op aN.type X aA.heap aF):lQ P aN a aA aF:=by
 have value:∀ v cA,(execOp (cS X) aN).run P aA=.ok (.value v) cA→eJ aA cA→aF v cA.heap→lQ P aN a aA aF:=by
  intro v cA p aI S
  exact .inl ⟨v,cA,by rw [x];exact p,aI,S⟩
 obtain⟨dst,op,type,pos,after,guard⟩:=aN
 simp only at b
 cases op with
 | range t N=>
  simp only [iW] at b
  split at b
  ·rename_i fM K aI d k
   have eB:=tG (g.ty _ _ d)
   refine value _ { aA with heap:=aA.heap.push (.stringIter aI 0) } ?_ ⟨rfl,rfl,rfl⟩ b
   simp [execOp,k,Instr.range,gI eB]
  ·cases b
 | next N K=>
  cases K with
  | false=>exact b.elim
  | true=>
   simp only [iW,cond_true] at b
   split at b
   ·rename_i aE k
    rcases GH (P:=P) (t0:=type) b with ⟨R,c,cA,r,aI,S⟩ | ⟨r,S⟩
    ·exact value _ cA (by simp [execOp,k,r]) aI S
    ·exact value _ aA (by simp [execOp,k,r]) ⟨rfl,rfl,rfl⟩ S
   ·cases b
 | convert aI aT N=>
  simp only [iW] at b
  split at b
  ·rename_i O fM K NN NO y l o J Q k
   split at b
   ·rename_i NP gU T
    have eB:=nI (g.ty _ _ J)
    have V:=tG (g.ty _ _ Q)
    have Nv:=zV (g.ty _ _ T)
    obtain⟨aI,r,S⟩:=GI (P:=P) (c:=o) b
    refine value _ aA ?_ ⟨rfl,rfl,rfl⟩ S
    simp [execOp,k,convert,gI eB,gI V,gI Nv,r]
   ·cases b
  ·cases b
 | store t N v=>
  simp only [iW] at b
  split at b
  ·rename_i aE R k d
   obtain⟨inf,a5,bI,_⟩:=oE (g.ty _ _ d)
   have run:∀ cA,(storeCells aE (cS X v).cells.toList).run P aA=.ok () cA→(cS X v).cells.size=inf.size→eJ aA cA→aF undef cA.heap→lQ P ⟨dst,.store t N v,type,pos,after,guard⟩ a aA aF:=by
    intro cA p Nw aI S
    refine .inr (.inl ⟨cA,?_,aI,S⟩)
    rw [x]
    simp [execOp,k,Instr.storeAt,Instr.sureAddr,storeVar,kI a5,Nw,p]
   unfold tB at b
   split at b
   ·rename_i c9 bP
    cases e:Nat.beq c9.toList.length R.leaves.length with
    | false=>rw [e] at b;cases b
    | true=>
     rw [e] at b
     simp only [cond_true] at b
     obtain⟨cA,r,aI,S⟩:=Cj (P:=P) b
     have:=Nat.eq_of_beq_eq_true e
     exact run cA (by rw [bP];exact r) (by rw [bP,bI,← this];simp [Value.cells]) aI S
   ·cases b
   ·rename_i NQ s F
    cases e:Nat.beq 1 R.leaves.length with
    | false=>rw [e] at b;cases b
    | true=>
     rw [e] at b
     simp only [cond_true] at b
     obtain⟨⟨Nx,Ny⟩,Nz⟩:=b
     have NA:mE (cS X v)=true:=by
      cases O:cS X v <;> first | rfl | exact absurd O (s _) | exact absurd O (F _)
     have u:(cS X v).cells=#[cS X v]:=by
      cases O:cS X v <;> first | rfl | exact absurd O (s _) | exact absurd O (F _)
     have p:=zY (P:=P) Nx Ny NA
     have:=Nat.eq_of_beq_eq_true e
     exact run (aA.setCell aE (cS X v)) (by rw [u];simp [storeCells,add_zero,p]) (by rw [u,bI,← this];rfl) ⟨rfl,rfl,rfl⟩ Nz
  ·cases b
 | box O v=>
  simp only [iW,dN] at b
  refine value _ { aA with heap:=aA.heap.push (.cells (cS X v).cells O (0,0)) } ?_ ⟨rfl,rfl,rfl⟩ b
  simp [execOp,Instr.box,newVar,newRow]
 | alloc O=>
  simp only [iW] at b
  split at b
  ·cases b
  ·rename_i R h d
   have i:R.ty.isTuple=false:=by
    obtain⟨ty,fM,K⟩:=R
    cases ty <;> first | rfl | exact absurd rfl (h _ _ _)
   obtain⟨inf,a5,bI,e,bM,z,A⟩:=tI (g.ty _ _ d) i
   have B:bM.cells=R.a3.toArray:=by apply Array.ext';simpa using A
   refine value _ { aA with heap:=aA.heap.push (.cells R.a3.toArray O (0,0)) } ?_ ⟨rfl,rfl,rfl⟩ b
   simp [execOp,Instr.alloc,newVar,newRow,tJ a5 z,B]
  ·cases b
 | makeSlice t l c=>
  simp only [iW] at b
  split at b
  ·rename_i O fM K eI n NB m d NC ND
   split at b
   ·cases b
   ·rename_i R h j
    have i:R.ty.isTuple=false:=by
     obtain⟨ty,fM,K⟩:=R
     cases ty <;> first | rfl | exact absurd rfl (h _ _ _)
    obtain⟨v,cA,r,aI,S⟩:=GG (P:=P) (S:=eI) (cV:=NB) g d j i b
    refine value v cA ?_ aI S
    simp [execOp,NC,ND,r]
   ·cases b
  ·cases b
 | buildSlice t n parts=>
  simp only [iW] at b
  split at b
  ·rename_i O fM K d
   split at b
   ·cases b
   ·rename_i R h j
    have i:R.ty.isTuple=false:=by
     obtain⟨ty,fM,K⟩:=R
     cases ty <;> first | rfl | exact absurd rfl (h _ _ _)
    cases C:Nat.ble (n*R.leaves.length) 16777216 with
    | false=>rw [C] at b;cases b
    | true=>
     rw [C] at b
     simp only [cond_true] at b
     split at b
     ·rename_i cells u
      have eB:=nI (g.ty _ _ d)
      obtain⟨inf,a5,bI,e,bM,z,A⟩:=tI (g.ty _ _ j) i
      have B:bM.cells=R.a3.toArray:=by apply Array.ext';simpa using A
      have NR:=Nat.le_of_ble_eq_true C
      have G:=z1 (z2:=fun aC=>some (aC*inf.size,inf.size)) (fun aC=>by rw [bI]) _ _ _ u
      refine value _ { aA with heap:=aA.heap.push (.cells cells.toArray O (0,0)) } ?_ ⟨rfl,rfl,rfl⟩ b
      have NF:¬ n*inf.size > 2 ^ 24:=by rw [bI];omega
      have H:(Array.map (fun (N:Nat × Operand)=>match N with | (R,N)=>(R,cS X N)) parts).toList=parts.toList.map fun (R,N)=>(R,cS X N):=by simp
      have I:∀ aQ:Array Value,(n*inf.size ≠ 0→aQ=bM.cells)→(Array.range (n*inf.size)).map (fun aC=>aQ[aC % aQ.size]!)=(hR R.a3 n).toArray:=by
       intro aQ NG
       exact Cl R.a3 _ _ (by rw [bI,z5]) _ fun Z=>by rw [NG Z,B]
      by_cases aV:n*inf.size=0
      ·have w:=I #[] (fun Z=>absurd aV Z)
       have NH:¬ (0:Nat) > 2 ^ 24:=by decide
       rw [aV] at w
       simp only [execOp,Sem.run_bind,Instr.buildSlice,gI eB,Result.andThen,kI a5,aV,if_neg NH,if_true,Sem.run_pure,w,H,G]
       rfl
      ·have w:=I bM.cells (fun _=>rfl)
       simp only [execOp,Sem.run_bind,Instr.buildSlice,gI eB,Result.andThen,kI a5,if_neg NF,aV,if_false,Sem.run_pure,tJ a5 z]
       simp only [w,H,G]
       rfl
     ·cases b
   ·cases b
  ·cases b
 | call c=>
  obtain⟨callee,⟨args⟩,⟨oF⟩⟩:=c
  simp only [iW] at b
  split at b
  ·
   split at b
   ·rename_i aI N t NI
    cases D:tC E NI with
    | false=>rw [D] at b;cases b
    | true=>
     rw [D] at b
     simp only [cond_true] at b
     split at b
     ·rename_i O fM K y l o d bI
      split at b
      ·cases b
      ·rename_i R h j
       have i:R.ty.isTuple=false:=by
        obtain⟨ty,fM,K⟩:=R
        cases ty <;> first | rfl | exact absurd rfl (h _ _ _)
       obtain⟨v,cA,r,q,S⟩:=GB (P:=P) (ty:=type) g d j D i b
       refine value v cA ?_ q S
       simp [execOp,resolve,invoke,builtin,bI,r]
      ·cases b
     ·cases b
   ·cases b
  ·
   split at b
   ·rename_i aT N t jO
    split at b
    ·rename_i O fM K y l o d bI
     split at b
     ·cases b
     ·rename_i R h j
      obtain⟨v,cA,r,q,S⟩:=GC (P:=P) (ty:=type) (oF:=jO) (c:=o) g d j b
      refine value v cA ?_ q S
      simp [execOp,resolve,invoke,builtin,bI,r]
     ·cases b
    ·cases b
   ·cases b
  ·
   split at b
   ·rename_i aT t
    split at b
    ·rename_i O fM K y l o d bI
     split at b
     ·cases b
     ·rename_i R h j
      have i:R.ty.isTuple=false:=by
       obtain⟨ty,fM,K⟩:=R
       cases ty <;> first | rfl | exact absurd rfl (h _ _ _)
      obtain⟨v,cA,r,q,S⟩:=GF (P:=P) (ty:=type) (c:=o) g d j i b
      refine value v cA ?_ q S
      simp [execOp,resolve,invoke,builtin,bI,r]
     ·cases b
    ·cases b
   ·cases b
  ·
   rename_i f
   split at b
   ·rename_i d
    obtain⟨fn,NJ,s,e,_⟩:=xO g d
    have e:=e (.inl rfl)
    have NK:(execOp (cS X) ⟨dst,.call ⟨.value (.func f),⟨args⟩,⟨oF⟩⟩,type,pos,after,guard⟩).run P aA=.ok (.enter f (args.map (cS X)).toArray) aA:=by
     have NL:¬ fn.name="runtime.NumGoroutine":=by simpa using s
     have NM:¬ fn.body=none:=by intro O;rw [O] at e;cases e
     simp [execOp,resolve,Deferred.ofValue,cS,invoke,callFunc,NJ,NL,NM]
    refine .inr (.inr ⟨f,_,by rw [x];exact NK,(b aA rfl).mono ?_⟩)
    rintro O cA ⟨v,rfl,aI,S⟩
    exact⟨v,rfl,aI,z0 S⟩
   ·cases b
  ·cases b
 | _=>exact b.elim
end
set_option linter.unusedSimpArgs false
section
variable {P:Program} {E:Env}
def eZ(P:Program)(E:Env)(md:Bool)(cQ:Nat)(ops:Array Oper)(aN:Oper)(a:Act)(Z:U)(b:Value→U→Prop):Prop:=
 if Region.wanted aN (yielded ops a.tmps) then
  match fV E aN.op with
  | .pure=>∃ v,(∀ aA,mX P aN a aA v)∧b v Z
  | .load=>∃ v,(∀ aA:World,cond md (eN cQ Z aA.heap) (aA.heap=Z)→mX P aN a aA v)∧b v Z
  | .quiet=>∃ v,(∀ aA:World,aA.heap=Z→z6 P aN a aA v)∧b v Z
  | .call=>∀ aA:World,aA.heap=Z→lQ P aN a aA fun v aB=>(md=true→eN cQ Z aB)∧b v aB
  | .act=>∀ aA:World,aA.heap=Z→lQ P aN a aA b
 else b undef Z
def tK(Z:U):World:={ heap:=Z,tape:=fun _ _=>0,drawn:=0,os:=default,output:=#[] }
theorem kV{md:Bool}{cQ:Nat}{ops:Array Oper}{aN:Oper}{a:Act}{Z:U}{f g:Value→U→Prop}(c:∀ v Z,f v Z→g v Z)(bI:eZ P E md cQ ops aN a Z f):eZ P E md cQ ops aN a Z g:=by
 unfold eZ at *
 split
 ·rename_i b
  rw [if_pos b] at bI
  cases d:fV E aN.op with
  | pure=>simp only [d] at bI ⊢;obtain⟨v,aY,e⟩:=bI;exact⟨v,aY,c _ _ e⟩
  | load=>simp only [d] at bI ⊢;obtain⟨v,aY,e⟩:=bI;exact⟨v,aY,c _ _ e⟩
  | quiet=>simp only [d] at bI ⊢;obtain⟨v,aY,e⟩:=bI;exact⟨v,aY,c _ _ e⟩
  | call=>simp only [d] at bI ⊢;exact fun aA b=>(bI aA b).mono fun v aB S=>⟨S.1,c _ _ S.2⟩
  | act=>simp only [d] at bI ⊢;exact fun aA b=>(bI aA b).mono c
 ·rename_i b;rw [if_neg b] at bI;exact c _ _ bI
theorem Co{md:Bool}{cQ:Nat}{ops:Array Oper}{aN:Oper}{a:Act}{Z:U}{d:Value→U→Prop}(bI:eZ P E md cQ ops aN a Z d):∃ v aB,d v aB:=by
 unfold eZ at bI
 split at bI
 ·cases b:fV E aN.op with
  | pure=>simp only [b] at bI;obtain⟨v,aY,c⟩:=bI;exact⟨_,_,c⟩
  | load=>simp only [b] at bI;obtain⟨v,aY,c⟩:=bI;exact⟨_,_,c⟩
  | quiet=>simp only [b] at bI;obtain⟨v,aY,c⟩:=bI;exact⟨_,_,c⟩
  | call=>simp only [b] at bI;obtain⟨v,aB,S⟩:=(bI (tK Z) rfl).some;exact⟨v,aB,S.2⟩
  | act=>simp only [b] at bI;exact(bI (tK Z) rfl).some
 ·exact⟨_,_,bI⟩
theorem mX.inj{aN:Oper}{a:Act}{aA:World}{v b:Value}(Z:mX P aN a aA v)(aB:mX P aN a aA b):v=b:=by
 unfold mX at *
 rw [Z] at aB
 cases aB
 rfl
theorem eN.refl(cQ:Nat)(Z:U):eN cQ Z Z:=fun _ _=>rfl
theorem eN.symm{cQ:Nat}{Z aB:U}(p:eN cQ Z aB):eN cQ aB Z:=fun K a=>(p K a).symm
theorem eN.trans{cQ:Nat}{a K c:U}(p:eN cQ a K)(aE:eN cQ K c):eN cQ a c:=fun R a5=>(aE R a5).trans (p R a5)
theorem Cp{md:Bool}{cQ:Nat}{ops:Array Oper}{aN:Oper}{a:Act}(b:fV E aN.op=.pure∨¬ Region.wanted aN (yielded ops a.tmps)=true){Z:U}{e:Value→U→Prop}(bI:eZ P E md cQ ops aN a Z e):
  ∃ v,∀ aB c,eZ P E md cQ ops aN a aB c↔c v aB:=by
 by_cases d:Region.wanted aN (yielded ops a.tmps)=true
 ·rcases b with b | b
  ·simp only [eZ,if_pos d,b] at bI
   obtain⟨v,aY,_⟩:=bI
   refine⟨v,fun aB c=>?_⟩
   simp only [eZ,if_pos d,b]
   constructor
   ·rintro⟨i,f,h⟩
    have:=(aY (tK aB)).inj (f (tK aB))
    subst this
    exact h
   ·intro g;exact⟨v,aY,g⟩
  ·exact absurd d b
 ·exact⟨undef,fun aB c=>by simp only [eZ,if_neg d]⟩
theorem Cq{md:Bool}{cQ:Nat}{ops:Array Oper}{aN:Oper}{a:Act}(b:fV E aN.op=.load∨fV E aN.op=.quiet∨fV E aN.op=.pure){Z:U}{d:Value→U→Prop}(bI:eZ P E md cQ ops aN a Z d):
  ∃ v,d v Z∧∀ c:Value→U→Prop,c v Z→eZ P E md cQ ops aN a Z c:=by
 by_cases e:Region.wanted aN (yielded ops a.tmps)=true
 ·rcases b with b | b | b <;> simp only [eZ,if_pos e,b] at bI ⊢ <;> obtain⟨v,aY,f⟩:=bI <;> exact⟨v,f,fun c S=>⟨v,aY,S⟩⟩
 ·simp only [eZ,if_neg e] at bI ⊢;exact⟨undef,bI,fun c S=>S⟩
theorem Cr{cQ:Nat}{ops:Array Oper}{aN:Oper}{a:Act}(d:fV E aN.op=.load){Z:U}{f:Value→U→Prop}(bI:eZ P E true cQ ops aN a Z f):
  ∃ v,∀ aB c,eN cQ Z aB→(eZ P E true cQ ops aN a aB c↔c v aB):=by
 by_cases b:Region.wanted aN (yielded ops a.tmps)=true
 ·simp only [eZ,if_pos b,d,cond_true] at bI
  obtain⟨v,aY,_⟩:=bI
  refine⟨v,fun aB c e=>?_⟩
  simp only [eZ,if_pos b,d,cond_true]
  constructor
  ·rintro⟨j,h,i⟩
   have:=(aY (tK aB) e).inj (h (tK aB) (eN.refl _ _))
   subst this
   exact i
  ·intro g;exact⟨v,fun aA b=>aY aA (e.trans b),g⟩
 ·exact⟨undef,fun aB c _=>by simp only [eZ,if_neg b]⟩
theorem Cs{cQ:Nat}{ops:Array Oper}{aN:Oper}{a:Act}(d:fV E aN.op=.call){Z:U}{c:Value→U→Prop}(bI:eZ P E true cQ ops aN a Z c):
  eZ P E true cQ ops aN a Z fun v aB=>eN cQ Z aB∧c v aB:=by
 by_cases b:Region.wanted aN (yielded ops a.tmps)=true
 ·simp only [eZ,if_pos b,d] at bI ⊢
  exact fun aA b=>(bI aA b).mono fun v aB S=>⟨S.1,S.1 trivial,S.2⟩
 ·simp only [eZ,if_neg b] at bI ⊢;exact⟨eN.refl _ _,bI⟩
theorem Ct{md:Bool}{cQ:Nat}{ops:Array Oper}{R aC:Oper}{a:Act}(b:jZ md (fV E R.op) (fV E aC.op)=true){Z:U}{e:Value→Value→U→Prop}
  (bI:eZ P E md cQ ops R a Z fun v aB=>eZ P E md cQ ops aC a aB fun cU d=>e v cU d):eZ P E md cQ ops aC a Z fun cU aB=>eZ P E md cQ ops R a aB fun v d=>e v cU d:=by
 have l:fV E R.op=.pure→eZ P E md cQ ops aC a Z fun cU aB=>eZ P E md cQ ops R a aB fun v d=>e v cU d:=by
  intro h
  obtain⟨v,bP⟩:=Cp (.inl h) bI
  have aY:=(bP _ _).1 bI
  exact kV (fun cU aB S=>(bP aB _).2 S) aY
 have f:fV E aC.op=.pure→eZ P E md cQ ops aC a Z fun cU aB=>eZ P E md cQ ops R a aB fun v d=>e v cU d:=by
  intro h
  obtain⟨m,aV,i⟩:=Co bI
  obtain⟨cU,hu⟩:=Cp (.inl h) i
  exact(hu Z _).2 (kV (fun v aB S=>(hu aB _).1 S) bI)
 have g:(fV E R.op=.load∨fV E R.op=.quiet∨fV E R.op=.pure)→(fV E aC.op=.load∨fV E aC.op=.quiet∨fV E aC.op=.pure)→eZ P E md cQ ops aC a Z fun cU aB=>eZ P E md cQ ops R a aB fun v d=>e v cU d:=by
  intro aY n
  obtain⟨v,bP,o⟩:=Cq aY bI
  obtain⟨cU,hu,p⟩:=Cq n bP
  exact p _ (o _ hu)
 cases a5:fV E R.op with
 | pure=>exact l a5
 | load=>
  cases c:fV E aC.op with
  | pure=>exact f c
  | load=>exact g (.inl a5) (.inl c)
  | quiet=>exact g (.inl a5) (.inr (.inl c))
  | call=>
   rw [a5,c] at b
   simp only [jZ] at b
   subst b
   obtain⟨v,bP⟩:=Cr a5 bI
   have aY:=(bP Z _ (eN.refl _ _)).1 bI
   exact kV (fun cU aB S=>(bP aB _ S.1).2 S.2) (Cs c aY)
  | act=>rw [a5,c] at b;simp [jZ] at b
 | quiet=>
  cases c:fV E aC.op with
  | pure=>exact f c
  | load=>exact g (.inr (.inl a5)) (.inl c)
  | quiet=>exact g (.inr (.inl a5)) (.inr (.inl c))
  | call=>rw [a5,c] at b;simp [jZ] at b
  | act=>rw [a5,c] at b;simp [jZ] at b
 | call=>
  cases c:fV E aC.op with
  | pure=>exact f c
  | load=>
   rw [a5,c] at b
   simp only [jZ] at b
   subst b
   have j:=Cs a5 bI
   obtain⟨m,aV,k,i⟩:=Co j
   obtain⟨cU,hu⟩:=Cr c i
   refine(hu Z _ k.symm).2 (kV (fun v aB S=>?_) j)
   exact(hu aB _ (k.symm.trans S.1)).1 S.2
  | quiet=>rw [a5,c] at b;simp [jZ] at b
  | call=>rw [a5,c] at b;simp [jZ] at b
  | act=>rw [a5,c] at b;simp [jZ] at b
 | act=>
  cases c:fV E aC.op with
  | pure=>exact f c
  | load=>rw [a5,c] at b;simp [jZ] at b
  | quiet=>rw [a5,c] at b;simp [jZ] at b
  | call=>rw [a5,c] at b;simp [jZ] at b
  | act=>rw [a5,c] at b;simp [jZ] at b
theorem xR{md:Bool}{cQ:Nat}{ops:Array Oper}{aN:Oper}{a:Act}{aT:Option Tmp}{cU:Value}(d:∀ c9 K,aN.op ≠ .select c9 K)(b:∀ t,aT=some t→t ∉ aN.looksAt ops){Z:U}{c:Value→U→Prop}:
  eZ P E md cQ ops aN (a.put aT cU) Z c=eZ P E md cQ ops aN a Z c:=by
 have e:=execOp_put aN d a aT cU b
 have f:=wanted_put aN a aT cU b
 unfold eZ mX z6 lQ
 rw [e,f]
def iF(P:Program)(E:Env)(md:Bool)(cQ:Nat)(ops:Array Oper)(aF:Act→U→Prop):List Nat→Act→U→Prop
 | [],a,Z=>aF a Z
 | R :: l,a,Z=>match ops[R]? with
  | some aN=>eZ P E md cQ ops aN a Z fun v aB=>iF P E md cQ ops aF l (a.put aN.dst v) aB
  | none=>iF P E md cQ ops aF l a Z
theorem GJ{md:Bool}{cQ:Nat}{ops:Array Oper}{aF:Act→U→Prop}{R aC:Nat}{b c:Oper}(a5:ops[R]?=some b)(e:ops[aC]?=some c)(f:b.apart ops c=true)
  (g:∀ c9 K,b.op ≠ .select c9 K) (h:∀ c9 K,c.op ≠ .select c9 K) (i:jZ md (fV E b.op) (fV E c.op)=true) {l:List Nat} {a:Act} {Z:U}
  (bI:iF P E md cQ ops aF (R :: aC :: l) a Z):iF P E md cQ ops aF (aC :: R :: l) a Z:=by
 obtain⟨aY,j,k⟩:=Oper.apart_spec f
 simp only [iF,a5,e] at bI ⊢
 have m:eZ P E md cQ ops b a Z fun v aB=>eZ P E md cQ ops c a aB fun cU d=>iF P E md cQ ops aF l ((a.put b.dst v).put c.dst cU) d:=
  kV (fun v aB S=>by rw [xR h aY] at S;exact S) bI
 have:=Ct i m
 refine kV (fun cU aB S=>?_) this
 rw [xR g k]
 refine kV (fun v d cV=>?_) S
 rw [Act.put_comm a v cU j] at cV
 exact cV
theorem GK{md:Bool}{cQ:Nat}{ops:Array Oper}{b c:Oper}(f:b.apart ops c=true)
  (g:∀ c9 K,b.op ≠ .select c9 K) (h:∀ c9 K,c.op ≠ .select c9 K) (i:jZ md (fV E b.op) (fV E c.op)=true) {e:Act→U→Prop} {a:Act} {Z:U}
  (bI:eZ P E md cQ ops b a Z fun v aB=>eZ P E md cQ ops c (a.put b.dst v) aB fun cU d=>e ((a.put b.dst v).put c.dst cU) d) :
  eZ P E md cQ ops c a Z fun cU aB=>eZ P E md cQ ops b (a.put c.dst cU) aB fun v d=>e ((a.put c.dst cU).put b.dst v) d:=by
 obtain⟨aY,j,k⟩:=Oper.apart_spec f
 have l:eZ P E md cQ ops b a Z fun v aB=>eZ P E md cQ ops c a aB fun cU d=>e ((a.put b.dst v).put c.dst cU) d:=
  kV (fun v aB S=>by rw [xR h aY] at S;exact S) bI
 have:=Ct i l
 refine kV (fun cU aB S=>?_) this
 rw [xR g k]
 refine kV (fun v d cV=>?_) S
 rw [Act.put_comm a v cU j] at cV
 exact cV
theorem xS{todo:List Nat}{R aC:Nat}:aC ∈ del todo R↔aC ∈ todo∧aC ≠ R:=by
 unfold del
 rw [List.mem_filter]
 refine and_congr Iff.rfl ?_
 constructor
 ·intro Z O;subst O;simp at Z
 ·intro Z
  cases a:Nat.beq aC R with
  | true=>exact absurd (Nat.eq_of_beq_eq_true a) Z
  | false=>rfl
theorem Cu{todo:List Nat}{R:Nat}(Z:todo.Nodup):(del todo R).Nodup:=Z.filter _
theorem GL(todo:List Nat)(R aC:Nat):del (del todo R) aC=del (del todo aC) R:=by
 unfold del
 rw [List.filter_filter,List.filter_filter]
 apply List.filter_congr
 intro N _
 rw [Bool.and_comm]
theorem Cv:∀ {todo:List Nat} {R:Nat},R ∉ todo→del todo R=todo:=by
 intro todo R Z
 unfold del
 rw [List.filter_eq_self]
 intro N a
 cases b:Nat.beq N R with
 | true=>obtain rfl:=Nat.eq_of_beq_eq_true b;exact absurd a Z
 | false=>rfl
theorem Cw{aH bX:List Nat}{R:Nat}(Z:(aH ++ R :: bX).Nodup):del (aH ++ R :: bX) R=aH ++ bX:=by
 have aY:R ∉ aH:=fun a=>by
  have:=List.nodup_append.1 Z
  exact this.2.2 R a R List.mem_cons_self rfl
 have b:R ∉ bX:=(List.nodup_cons.1 (List.nodup_append.1 Z).2.1).1
 have O:del (aH ++ R :: bX) R=del aH R ++ del (R :: bX) R:=by unfold del;rw [List.filter_append]
 have c:del (R :: bX) R=del bX R:=by unfold del;rw [List.filter_cons];simp
 rw [O,c,Cv aY,Cv b]
theorem Cx{todo:List Nat}{R:Nat}(Z:todo.Nodup)(a5:R ∈ todo):(del todo R).length+1=todo.length:=by
 obtain⟨aH,bX,rfl⟩:=List.append_of_mem a5
 rw [Cw Z]
 simp;omega
def anyS(P:Program)(E:Env)(md:Bool)(cQ:Nat)(ops:Array Oper)(b:List Nat)(aF:Act→U→Prop):Nat→List Nat→Act→U→Prop
 | 0,_,a,Z=>aF a Z
 | n+1,todo,a,Z=>∀ R aN,R ∈ todo→oA b todo R=true→ops[R]?=some aN→eZ P E md cQ ops aN a Z fun v aB=>anyS P E md cQ ops b aF n (del todo R) (a.put aN.dst v) aB
theorem Cy{a todo:List Nat}{R aC:Nat}(Z:oA a todo R=true):oA a (del todo aC) R=true:=by
 unfold oA at *
 rw [List.all_eq_true] at *
 exact fun N b=>Z N (xS.1 b).1
theorem GM{md:Bool}{cQ:Nat}{ops:Array Oper}{e:List Nat}{aF:Act→U→Prop}(l:∀ (aC:Nat) (aN:Oper) c9 K,ops[aC]?=some aN→aN.op ≠ .select c9 K){R:Nat}{b:Oper}(i:ops[R]?=some b):∀ {n:Nat} {todo:List Nat},todo.length=n+1→todo.Nodup→R ∈ todo→oA e todo R=true→
  (∀ aC ∈ todo,aC ≠ R→(e.getD aC 0).testBit R=true∨∃ c,ops[aC]?=some c∧b.apart ops c=true∧jZ md (fV E b.op) (fV E c.op)=true)→∀ {a:Act} {Z:U},
  (eZ P E md cQ ops b a Z fun v aB=>anyS P E md cQ ops e aF n (del todo R) (a.put b.dst v) aB)→anyS P E md cQ ops e aF (n+1) todo a Z:=by
 intro n
 induction n with
 | zero=>
  intro todo m j a5 o k a Z bI aC c f g d
  have:aC=R:=by
   obtain⟨N,rfl⟩:=List.length_eq_one_iff.1 m
   simp at a5 f
   rw [a5,f]
  subst this
  rw [i] at d
  cases d
  exact bI
 | succ n bO=>
  intro todo m j a5 o k a Z bI aC c f g d
  by_cases h:aC=R
  ·subst h
   rw [i] at d
   cases d
   exact bI
  ·have q:(e.getD aC 0).testBit R ≠ true:=by
    unfold oA at g
    rw [List.all_eq_true] at g
    have:=g R a5
    intro O
    rw [O] at this
    cases this
   rcases k aC f h with r | ⟨z,p,s,t⟩
   ·exact absurd r q
   ·rw [d] at p
    cases p
    have aY:eZ P E md cQ ops b a Z fun v aB=>eZ P E md cQ ops c (a.put b.dst v) aB fun cU u=>(fun a Z=>anyS P E md cQ ops e aF n (del (del todo R) aC) a Z) ((a.put b.dst v).put c.dst cU) u:=
     kV (fun v aB S=>S aC c (xS.2 ⟨f,h⟩) (Cy g) d) bI
    have w:=GK s (fun c9 K=>l R b c9 K i) (fun c9 K=>l aC c c9 K d) t aY
    refine kV (fun cU aB S=>?_) w
    refine bO (todo:=del todo aC) ?_ (Cu j) (xS.2 ⟨a5,fun O=>h O.symm⟩) (Cy o) (fun N x y=>k N (xS.1 x).1 y) ?_
    ·have:=Cx j f;omega
    ·rw [GL];exact S
theorem GN{md:Bool}{cQ:Nat}{ops:Array Oper}{aF:Act→U→Prop}{R:Nat}{l c:List Nat}(d:∀ a Z,iF P E md cQ ops aF l a Z→iF P E md cQ ops aF c a Z){a:Act}{Z:U}
  (bI:iF P E md cQ ops aF (R :: l) a Z):iF P E md cQ ops aF (R :: c) a Z:=by
 simp only [iF] at *
 split
 ·rename_i aN b
  simp only [b] at bI
  exact kV (fun v aB S=>d _ _ S) bI
 ·rename_i b
  simp only [b] at bI
  exact d _ _ bI
def free(E:Env)(md:Bool)(ops:Array Oper)(R aC:Nat):Prop:=
 ∃ a b,ops[R]?=some a∧ops[aC]?=some b∧a.apart ops b=true∧(∀ c9 K,a.op ≠ .select c9 K)∧(∀ c9 K,b.op ≠ .select c9 K)∧jZ md (fV E a.op) (fV E b.op)=true
theorem Cz{md:Bool}{cQ:Nat}{ops:Array Oper}{aF:Act→U→Prop}{aC:Nat}{bX:List Nat}:∀ {aH:List Nat},(∀ R ∈ aH,free E md ops R aC)→∀ {a:Act} {Z:U},iF P E md cQ ops aF (aH ++ aC :: bX) a Z→iF P E md cQ ops aF (aC :: (aH ++ bX)) a Z
 | [],_,a,Z,bI=>bI
 | R :: aH,b,a,Z,bI=>by
  have bO:=fun {a Z}=>Cz (cQ:=cQ) (aF:=aF) (bX:=bX) (aH:=aH) (fun N c=>b N (List.mem_cons_of_mem _ c)) (a:=a) (Z:=Z)
  have aY:iF P E md cQ ops aF (R :: aC :: (aH ++ bX)) a Z:=GN (fun a Z=>bO) bI
  obtain⟨j,k,d,e,f,g,h,i⟩:=b R List.mem_cons_self
  exact GJ d e f g h i aY
end
set_option linter.unusedSimpArgs false
section
variable {P:Program} {E:Env}
theorem GO(h:hG P E){aN:Oper}{X:Fr}{a:Act}(i:a.eval=cS X)(d:fV E aN.op=.quiet){Z:U}{aF:Value→Prop}(b:rO P E aN.op aN.type X Z aF):
  ∃ v,aF v∧∀ aA:World,aA.heap=Z→z6 P aN a aA v:=by
 obtain⟨dst,op,type,pos,after,guard⟩:=aN
 simp only at b d
 cases op with
 | call c=>
  obtain⟨callee,⟨args⟩,oF⟩:=c
  simp only [rO] at b
  split at b
  ·rename_i f
   obtain⟨v,aY,j⟩:=b
   refine⟨v,z0 j,fun aA g=>?_⟩
   have k:look E.fns f=some .quiet:=by
    simp only [fV] at d
    split at d <;> first | assumption | cases d
   obtain⟨fn,l,m,e,_⟩:=xO h k
   have e:=e (.inr rfl)
   refine⟨f,(args.map (cS X)).toArray,?_,(aY aA g).mono ?_⟩
   ·have n:¬ fn.name="runtime.NumGoroutine":=by simpa using m
    have o:¬ fn.body=none:=by intro O;rw [O] at e;cases e
    rw [i]
    simp [execOp,resolve,Deferred.ofValue,cS,invoke,callFunc,l,n,o]
   ·rintro O cA ⟨p,rfl,aI,rfl,S⟩
    exact⟨rfl,aI,by rw [S,g]⟩
  ·cases b
 | _=>simp [rO] at b
theorem z8(d:hG P E){md:Bool}{cQ:Nat}{ops:Array Oper}{aN:Oper}{X:Fr}{a:Act}(e:a.eval=cS X){Z:U}{h:Value→U→Prop}(b:mG P E md cQ aN X Z h)
  (k:Region.wanted aN (yielded ops a.tmps)=true):eZ P E md cQ ops aN a Z h:=by
 unfold mG at b
 unfold eZ
 rw [if_pos k]
 cases c:fV E aN.op with
 | pure=>
  simp only [c] at b ⊢
  obtain⟨v,bP,f⟩:=z3 d b
  exact⟨v,fun aA=>by unfold mX;rw [e];exact f aA fun t N aE O _=>by rw [O] at c;simp [fV] at c,bP⟩
 | load=>
  simp only [c] at b ⊢
  cases md with
  | false=>
   simp only [cond_false] at b ⊢
   obtain⟨v,bP,f⟩:=z3 d b
   exact⟨v,fun aA g=>by unfold mX;rw [e];exact f aA fun t N aE O _=>by rw [g],bP⟩
  | true=>
   simp only [cond_true] at b ⊢
   split at b
   ·rename_i t N O
    obtain⟨i,b⟩:=b
    obtain⟨v,bP,f⟩:=z3 d b
    refine⟨v,fun aA l=>?_,bP⟩
    unfold mX
    rw [e]
    refine f aA fun n o aE j m=>?_
    rw [O] at j
    cases j
    rw [m] at i
    exact l _ i
   ·cases b
 | quiet=>
  simp only [c] at b ⊢
  obtain⟨v,bP,f⟩:=GO d e c b
  exact⟨v,f,bP⟩
 | call=>
  simp only [c] at b ⊢
  cases md with
  | false=>
   intro aA g
   subst g
   simp only [cond_false] at b
   exact(z7 d e b).mono fun v aB S=>⟨fun O=>(by cases O),S⟩
  | true=>
   intro aA g
   subst g
   simp only [cond_true] at b
   exact(z7 d e b).mono fun v aB S=>⟨fun _=>S.1,S.2⟩
 | act=>
  simp only [c] at b ⊢
  intro aA g
  subst g
  exact z7 d e b
theorem CA{all:List Oper}{n:Nat}{X:Fr}{a:Act}(d:fR n X a){aN:Oper}{aC t:Nat}{want K:Bool}(e:aN.guard=some (aC,want))(b:u9 all aC=some t)(f:X t=.bool K):
  Region.wanted aN (yielded all.toArray a.tmps)=(K == want):=by
 have aY:a.tmps[t]?=some (.bool K):=by
  have:=d.get t
  rw [f,Array.getD_eq_getD_getElem?] at this
  cases c:a.tmps[t]? with
  | none=>rw [c] at this;simp [undef] at this
  | some v=>rw [c] at this;simp at this;rw [this]
 have g:((all.toArray[aC]?).bind (·.dst)).bind (a.tmps[·]?)=some (.bool K):=by
  unfold u9 at b
  split at b
  ·rename_i i h
   simp [h,b,aY]
  ·cases b
 unfold Region.wanted yielded
 rw [e]
 simp only [g]
 cases K <;> cases want <;> rfl
theorem CB{all:List Oper}{n:Nat}{X:Fr}{a:Act}(c:fR n X a){aN:Oper}{aC t:Nat}{want:Bool}{bV:Array Value}(d:aN.guard=some (aC,want))(b:u9 all aC=some t)(e:X t=.tuple bV):
  Region.wanted aN (yielded all.toArray a.tmps)=false:=by
 have aY:a.tmps[t]?=none∨a.tmps[t]?=some (.tuple bV):=by
  have:=c.get t
  rw [e,Array.getD_eq_getD_getElem?] at this
  cases f:a.tmps[t]? with
  | none=>exact .inl rfl
  | some v=>rw [f] at this;simp at this;rw [this];exact .inr rfl
 have g:(all.toArray[aC]?).bind (·.dst)=some t:=by
  unfold u9 at b
  split at b
  ·rename_i i h
   simp [h,b]
  ·cases b
 unfold Region.wanted yielded
 rw [d]
 simp only [g,Option.bind_some]
 rcases aY with aY | aY <;> rw [aY] <;> rfl
theorem xT(o:hG P E){md:Bool}{cQ n:Nat}{all:List Oper}:∀ {l:List Oper} {S:Nat} {X:Fr} {a:Act} {Z:U} {aF:Fr→U→Prop},(∀ aC,l[aC]?=all[S+aC]?)→l.all (oD n)=true→fR n X a→
  iX P E md cQ all l X Z aF→iF P E md cQ all.toArray (fun f aB=>∃ d,fR n d f∧aF d aB) (List.range' S l.length) a Z
 | [],S,X,a,Z,aF,_,_,g,b=>⟨X,g,b⟩
 | aN :: rest,S,X,a,Z,aF,p,q,g,b=>by
  simp only [List.all_cons,Bool.and_eq_true] at q
  obtain⟨s,u⟩:=q
  have w:all.toArray[S]?=some aN:=by have:=p 0;simp at this;simpa using this.symm
  have x:∀ aC,rest[aC]?=all[S+1+aC]?:=fun aC=>by have:=p (aC+1);simpa [Nat.add_assoc,Nat.add_comm 1 aC] using this
  simp only [List.length_cons,List.range'_succ,iF,w]
  have next:∀ c,fR n c a→∀ v aB,iX P E md cQ all rest (kG c aN.dst v) aB aF→iF P E md cQ all.toArray (fun f aB=>∃ d,fR n d f∧aF d aB) (List.range' (S+1) rest.length) (a.put aN.dst v) aB:=
   fun c h v aB i=>xT o x u (h.put s v) i
  have run:∀ c,fR n c a→Region.wanted aN (yielded all.toArray a.tmps)=true→mG P E md cQ aN c Z (fun v aB=>iX P E md cQ all rest (kG c aN.dst v) aB aF)→
    eZ P E md cQ all.toArray aN a Z fun v aB=>iF P E md cQ all.toArray (fun f aB=>∃ d,fR n d f∧aF d aB) (List.range' (S+1) rest.length) (a.put aN.dst v) aB:=
   fun c h e i=>kV (fun v aB cV=>next c h v aB cV) (z8 o h.cS i e)
  have skip:∀ c,fR n c a→Region.wanted aN (yielded all.toArray a.tmps)=false→iX P E md cQ all rest (kG c aN.dst undef) Z aF→
    eZ P E md cQ all.toArray aN a Z fun v aB=>iF P E md cQ all.toArray (fun f aB=>∃ d,fR n d f∧aF d aB) (List.range' (S+1) rest.length) (a.put aN.dst v) aB:=by
   intro c h e i
   unfold eZ
   rw [if_neg (by rw [e];decide)]
   exact next c h undef Z i
  unfold iX at b
  split at b
  ·rename_i j
   exact run X g (by simp [Region.wanted,j]) b
  ·rename_i aC want j
   split at b
   ·cases b
   ·rename_i t r
    split at b
    ·rename_i K k
     have e:=CA (all:=all) g j r k
     have m:fR n (jY X t (.bool K)) a:=by rw [u2 k];exact g
     cases K <;> cases want <;> simp only [cond_true,cond_false] at b
     ·exact run _ m (by rw [e];rfl) b
     ·exact skip _ m (by rw [e];rfl) b
     ·exact skip _ m (by rw [e];rfl) b
     ·exact run _ m (by rw [e];rfl) b
    ·rename_i bV k
     exact skip X g (CB (all:=all) g j r k) b
    ·cases b
theorem GP(o:hG P E){cQ n:Nat}{all:List Oper}{R:Nat}{aN:Oper}(p:all[R]?=some aN)(l:oD n aN=true){X:Fr}{a:Act}{Z:U}{aF:Fr→U→Prop}(f:fR n X a)
  (b:iX P E true cQ all [aN] X Z aF):eZ P E true cQ all.toArray aN a Z fun v aB=>∃ c,fR n c (a.put aN.dst v)∧aF c aB:=by
 have run:∀ d,fR n d a→Region.wanted aN (yielded all.toArray a.tmps)=true→mG P E true cQ aN d Z (fun v aB=>iX P E true cQ all [] (kG d aN.dst v) aB aF)→
   eZ P E true cQ all.toArray aN a Z fun v aB=>∃ c,fR n c (a.put aN.dst v)∧aF c aB:=
  fun d g e k=>kV (fun v aB cV=>⟨_,g.put l v,cV⟩) (z8 o g.cS k e)
 have skip:∀ d,fR n d a→Region.wanted aN (yielded all.toArray a.tmps)=false→iX P E true cQ all [] (kG d aN.dst undef) Z aF→
   eZ P E true cQ all.toArray aN a Z fun v aB=>∃ c,fR n c (a.put aN.dst v)∧aF c aB:=by
  intro d g e k
  unfold eZ
  rw [if_neg (by rw [e];decide)]
  exact⟨_,g.put l undef,k⟩
 unfold iX at b
 split at b
 ·rename_i h
  exact run X f (by simp [Region.wanted,h]) b
 ·rename_i aC want h
  split at b
  ·cases b
  ·rename_i t m
   split at b
   ·rename_i K i
    have e:=CA (all:=all) f h m i
    have j:fR n (jY X t (.bool K)) a:=by rw [u2 i];exact f
    cases K <;> cases want <;> simp only [cond_true,cond_false] at b
    ·exact run _ j (by rw [e];rfl) b
    ·exact skip _ j (by rw [e];rfl) b
    ·exact skip _ j (by rw [e];rfl) b
    ·exact run _ j (by rw [e];rfl) b
   ·rename_i bV i
    exact skip X f (CB (all:=all) f h m i) b
   ·cases b
theorem CC{f:Nat→Prop}:∀ {l:List Nat},vB f l→∀ R ∈ l,f R
 | [R],Z,aC,a=>by simp at a;subst a;exact Z
 | R :: S :: l,Z,aC,a=>by
  rcases List.mem_cons.1 a with rfl | a
  ·exact Z.1
  ·exact CC Z.2 aC a
theorem GQ{ops:List Oper}(a:Region.noSelect ops.toArray=true):∀ (aC:Nat) (aN:Oper) c9 K,ops.toArray[aC]?=some aN→aN.op ≠ .select c9 K:=by
 intro aC aN c9 K b O
 have c:ops[aC]?=some aN:=by simpa using b
 have:=List.mem_of_getElem? c
 simp only [Region.noSelect,Array.all_eq_true',List.mem_toArray] at a
 have:=a aN this
 rw [O] at this
 simp at this
theorem GR(q:hG P E){cQ n:Nat}{all:List Oper}(s:all.all (oD n)=true)(t:Region.noSelect all.toArray=true){f:List Nat}{aF:Fr→U→Prop}:∀ {m:Nat} {todo:List Nat} {X:Fr} {a:Act} {Z:U},todo.length=m→todo.Nodup→fR n X a→
  oB P E cQ all f m todo X Z aF→anyS P E true cQ all.toArray f (fun h aB=>∃ d,fR n d h∧aF d aB) m todo a Z:=by
 intro m
 induction m with
 | zero=>intro todo X a Z o g i b;exact⟨X,i,b⟩
 | succ m bO=>
  intro todo X a Z o g i b
  have at_:∀ R ∈ todo,∀ aN,all.toArray[R]?=some aN→p7 P E cQ all R X Z (fun X Z=>oB P E cQ all f m (del todo R) X Z aF)→
    eZ P E true cQ all.toArray aN a Z fun v aB=>anyS P E true cQ all.toArray f (fun h aB=>∃ d,fR n d h∧aF d aB) m (del todo R) (a.put aN.dst v) aB:=by
   intro R a5 aN c b
   have e:all[R]?=some aN:=by simpa using c
   unfold p7 at b
   rw [e] at b
   refine kV (fun v aB S=>?_) (GP q e (List.all_eq_true.1 s aN (List.mem_of_getElem? e)) i b)
   obtain⟨d,r,S⟩:=S
   refine bO ?_ (Cu g) r S
   have:=Cx g a5;omega
  unfold oB at b
  split at b
  ·rename_i R j
   have a5:=List.mem_of_find?_eq_some j
   have k:=List.find?_some j
   unfold BZ at k
   rw [Bool.and_eq_true] at k
   obtain⟨u,p⟩:=k
   rw [List.all_eq_true] at p
   cases c:all[R]? with
   | none=>unfold p7 at b;rw [c] at b;cases b
   | some aN=>
    have e:all.toArray[R]?=some aN:=by simpa using c
    refine GM (GQ t) e o g a5 u (fun aC w x=>?_) (at_ R a5 aN e b)
    have:=p aC w
    rw [Bool.or_eq_true,Bool.or_eq_true] at this
    rcases this with (aY | aY) | aY
    ·exact absurd (Nat.eq_of_beq_eq_true aY) x
    ·exact .inl aY
    ·rw [c] at aY
     cases l:all[aC]? with
     | none=>rw [l] at aY;cases aY
     | some y=>
      rw [l] at aY
      simp only [Bool.and_eq_true] at aY
      exact .inr ⟨y,by simpa using l,aY.1,aY.2⟩
  ·rename_i j
   intro R aN a5 z c
   exact at_ R a5 aN c (CC b R (List.mem_filter.2 ⟨a5,z⟩))
theorem z9{md:Bool}{cQ:Nat}{ops:Array Oper}{R:Nat}{aN:Oper}(i:ops[R]?=some aN){a:Act}{aA:World}{g:Value→U→Prop}(bI:eZ P E md cQ ops aN a aA.heap g)
  {aF:Act→World→Prop} {Q:Exit→Act→World→Prop} (b:∀ v cA,eJ aA cA→g v cA.heap→aF (a.put aN.dst v) cA):wpOp P ops Q R aF a aA:=by
 unfold wpOp
 simp only [i]
 unfold eZ at bI
 by_cases h:Region.wanted aN (yielded ops a.tmps)=true
 ·rw [if_pos h] at bI ⊢
  refine .inl ?_
  have runs:∀ v,mX P aN a aA v→g v aA.heap→aN.wp P a aA aF Q:=by
   intro v j S
   unfold Oper.wp
   rw [j]
   exact b v aA (eJ.refl aA) S
  cases d:fV E aN.op with
  | pure=>simp only [d] at bI;obtain⟨v,aY,e⟩:=bI;exact runs v (aY aA) e
  | load=>
   simp only [d] at bI
   obtain⟨v,aY,e⟩:=bI
   refine runs v (aY aA ?_) e
   cases md
   ·exact rfl
   ·exact eN.refl _ _
  | quiet=>
   simp only [d] at bI
   obtain⟨v,aY,e⟩:=bI
   obtain⟨f,args,r,c⟩:=aY aA rfl
   unfold Oper.wp
   rw [r,Oper.upon_enter]
   refine c.mono ?_
   rintro O cA ⟨rfl,aI,S⟩
   exact b v cA aI (by rw [S];exact e)
  | call=>simp only [d] at bI;exact(bI aA rfl).wp fun v cA aI S=>b v cA aI S.2
  | act=>simp only [d] at bI;exact(bI aA rfl).wp fun v cA aI S=>b v cA aI S
 ·rw [if_neg h] at bI ⊢
  exact b undef aA (eJ.refl aA) bI
def rem(n:Nat)(a:Array Bool):List Nat:=(List.range n).filter fun R=>!a.getD R true
def xU(ops:Array Oper)(a:Array Bool):Prop:=∀ R aN,ops[R]?=some aN→a.getD R false=true→∀ O ∈ aN.after,Region.binds .any O=true→a.getD O.on false=true
theorem oG{n R:Nat}{a:Array Bool}:R ∈ rem n a↔R < n∧a.getD R true=false:=by simp [rem]
theorem Aa{d:List Nat}{aC:Nat}:∀ {l:List Edge},(n9 d l).testBit aC=true→∃ O ∈ l,Region.binds .any O=true∧(O.on=aC∨(d.getD O.on 0).testBit aC=true)
 | [],Z=>by simp [n9] at Z
 | O :: l,Z=>by
  unfold n9 at Z
  cases a:Region.binds .any O with
  | false=>
   rw [a] at Z
   obtain⟨b,aY,c⟩:=Aa (l:=l) Z
   exact⟨b,List.mem_cons_of_mem _ aY,c⟩
  | true=>
   rw [a] at Z
   simp only [cond_true,Nat.testBit_or,Bool.or_eq_true] at Z
   rcases Z with (Z | Z) | Z
   ·refine⟨O,List.mem_cons_self,a,.inl ?_⟩
    rw [Nat.testBit_two_pow] at Z
    simpa using Z
   ·exact⟨O,List.mem_cons_self,a,.inr Z⟩
   ·obtain⟨b,aY,c⟩:=Aa (l:=l) Z
    exact⟨b,List.mem_cons_of_mem _ aY,c⟩
theorem CD:∀ (l:List Oper) (a:List Nat),(∀ R,R < a.length→(kH a l)[R]?=a[R]?)∧(∀ R aN,l[R]?=some aN→(kH a l)[a.length+R]?=some (n9 ((kH a l).take (a.length+R)) aN.after.toList))
 | [],a=>⟨fun R _=>rfl,fun R aN Z=>by simp at Z⟩
 | aN :: l,a=>by
  obtain⟨aY,c⟩:=CD l (a ++ [n9 a aN.after.toList])
  simp only [List.length_append,List.length_cons,List.length_nil] at aY c
  have O:kH a (aN :: l)=kH (a ++ [n9 a aN.after.toList]) l:=rfl
  rw [O]
  refine⟨fun R a5=>?_,fun R fH b=>?_⟩
  ·rw [aY R (by omega),List.getElem?_append_left a5]
  ·cases R with
   | zero=>
    simp at b
    subst b
    have d:(kH (a ++ [n9 a aN.after.toList]) l).take (a.length+0)=a:=by
     apply List.ext_getElem?
     intro aC
     rw [List.getElem?_take]
     split
     ·rename_i e
      rw [aY aC (by omega),List.getElem?_append_left (by omega)]
     ·rename_i e
      rw [List.getElem?_eq_none (by omega)]
    rw [d,aY _ (by omega)]
    simp
   | succ R=>
    have:=c R fH (by simpa using b)
    rw [show a.length+(R+1)=a.length+(0+1)+R by omega]
    exact this
theorem CE{ops:List Oper}{c:Array Bool}(k:xU ops.toArray c)(f:rP ops=true):∀ (R:Nat) (aN:Oper),ops[R]?=some aN→(∀ O ∈ aN.after,Region.binds .any O=true→c.getD O.on false=true)→
  ∀ aC,((kH [] ops).getD R 0).testBit aC=true→c.getD aC false=true:=by
 intro R
 induction R using Nat.strongRecOn with
 | _ R bO=>
  intro aN a l aC d
  have bI:=(CD ops []).2 R aN a
  simp only [List.length_nil,Nat.zero_add] at bI
  rw [List.getD_eq_getElem?_getD,bI] at d
  simp only [Option.getD_some] at d
  obtain⟨O,aY,g,b⟩:=Aa d
  have m:O ∈ aN.after:=by simpa using aY
  have h:=l O m g
  rcases b with rfl | b
  ·exact h
  ·have i:O.on < R:=by
    simp only [rP,List.all_eq_true,List.mem_range] at f
    have a5:R < ops.length:=by
     rcases Nat.lt_or_ge R ops.length with Z | Z
     ·exact Z
     ·rw [List.getElem?_eq_none Z] at a;cases a
    have:=f R a5
    rw [a] at this
    simp only [List.all_eq_true] at this
    have:=this O aY
    rw [g] at this
    simpa [Nat.blt_eq] using this
   have n:((kH [] ops).take R).getD O.on 0=(kH [] ops).getD O.on 0:=by
    rw [List.getD_eq_getElem?_getD,List.getD_eq_getElem?_getD,List.getElem?_take,if_pos i]
   rw [n] at b
   cases e:ops[O.on]? with
   | none=>
    have o:ops.length≤O.on:=by simpa using e
    have a5:R < ops.length:=by
     rcases Nat.lt_or_ge R ops.length with Z | Z
     ·exact Z
     ·rw [List.getElem?_eq_none Z] at a;cases a
    omega
   | some j=>exact bO O.on i j e (k O.on j (by simpa using e) h) aC b
theorem CF{n R:Nat}{a:Array Bool}(bI:a.size=n)(a5:R ∈ rem n a):
  ∃ aH bX,rem n a=aH ++ R :: bX∧rem n (a.setIfInBounds R true)=aH ++ bX∧(∀ aC ∈ aH,aC < R∧aC < n∧a.getD aC true=false):=by
 have e:=(oG.1 a5)
 have c:List.range n=List.range R ++ R :: List.range' (R+1) (n - R - 1):=by
  rw [List.range_eq_range',List.range_eq_range',show n=R+(1+(n - R - 1)) by omega,← List.range'_append_1,← List.range'_append_1]
  simp
 refine⟨(List.range R).filter fun aC=>!a.getD aC true,(List.range' (R+1) (n - R - 1)).filter fun aC=>!a.getD aC true,?_,?_,?_⟩
 ·unfold rem
  rw [c,List.filter_append,List.filter_cons,e.2]
  simp
 ·unfold rem
  rw [c,List.filter_append,List.filter_cons]
  have aY:(a.setIfInBounds R true).getD R true=true:=by
   rw [Array.getD_eq_getD_getElem?,Array.getElem?_setIfInBounds]
   simp
   split <;> rfl
  rw [aY]
  have d:∀ aC,aC ≠ R→(a.setIfInBounds R true).getD aC true=a.getD aC true:=by
   intro aC b
   rw [Array.getD_eq_getD_getElem?,Array.getElem?_setIfInBounds,if_neg (fun O=>b O.symm),← Array.getD_eq_getD_getElem?]
  simp only [Bool.not_true,Bool.false_eq_true,if_false]
  congr 1
  ·apply List.filter_congr
   intro aC b
   rw [d aC (by simp at b;omega)]
  ·apply List.filter_congr
   intro aC b
   rw [d aC (by simp [List.mem_range'_1] at b;omega)]
 ·intro aC b
  simp only [List.mem_filter,List.mem_range,Bool.not_eq_true'] at b
  exact⟨b.1,by omega,b.2⟩
theorem GS{md:Bool}{cQ:Nat}{ops:List Oper}(Nz:rQ E md ops=true){aF:Act→U→Prop}{Q:Exit→Act→World→Prop}{iQ:World}
  (A:∀ a aA,eJ iQ aA→aF a aA.heap→Q .normal a aA):∀ (k:Nat) (b:Array Bool) (a:Act) (aA:World),b.size=ops.length→xU ops.toArray b→(rem ops.length b).length≤k→eJ iQ aA→
   iF P E md cQ ops.toArray aF (rem ops.length b) a aA.heap→wpAny P .any ops.toArray Q k b a aA:=by
 have B:=Nz
 simp only [rQ,Bool.and_eq_true,List.all_eq_true,List.mem_range] at B
 obtain⟨⟨C,r⟩,NA⟩:=B
 have D:∀ (aC:Nat) (aN:Oper) c9 K,ops[aC]?=some aN→aN.op ≠ .select c9 K:=by
  intro aC aN c9 K n O
  have:=List.mem_of_getElem? n
  simp only [Region.noSelect,Array.all_eq_true',List.mem_toArray] at C
  have:=C aN this
  rw [O] at this
  simp at this
 have F:∀ b:Array Bool,∀ R ∈ Region.ready .any ops.toArray b,R ∈ rem ops.length b∧∃ aN,ops[R]?=some aN∧∀ O ∈ aN.after,Region.binds .any O=true→b.getD O.on false=true:=by
  intro b R a5
  simp only [Region.ready,List.size_toArray,List.mem_filter,List.mem_range,Bool.and_eq_true,Bool.not_eq_true'] at a5
  obtain⟨aY,NB,s⟩:=a5
  refine⟨oG.2 ⟨aY,NB⟩,?_⟩
  have c:ops.toArray[R]?=some ops[R]:=by simp [aY]
  rw [c] at s
  simp only [Option.map_some,Option.getD_some,Array.all_eq_true',Bool.or_eq_true,Bool.not_eq_true'] at s
  refine⟨ops[R],by simp [aY],fun O f d=>?_⟩
  rcases s O f with Z | Z
  ·rw [Z] at d;cases d
  ·exact Z
 have NC:∀ b:Array Bool,b.size=ops.length→∀ R l,rem ops.length b=R :: l→R ∈ Region.ready .any ops.toArray b:=by
  intro b bI R l g
  have a5:R ∈ rem ops.length b:=by rw [g];exact List.mem_cons_self
  have m:=oG.1 a5
  have ND:∀ aC,aC < R→b.getD aC true=true:=by
   intro aC n
   cases h:b.getD aC true with
   | true=>rfl
   | false=>
    have o:aC ∈ rem ops.length b:=oG.2 ⟨by omega,h⟩
    have G:(rem ops.length b).Pairwise (·< ·):=List.Pairwise.sublist List.filter_sublist List.pairwise_lt_range
    rw [g] at G o
    rcases List.mem_cons.1 o with rfl | o
    ·omega
    ·have:=(List.pairwise_cons.1 G).1 aC o
     omega
  simp only [Region.ready,List.size_toArray,List.mem_filter,List.mem_range,Bool.and_eq_true,Bool.not_eq_true']
  refine⟨m.1,m.2,?_⟩
  have c:ops.toArray[R]?=some ops[R]:=by simp [m.1]
  rw [c]
  simp only [Option.map_some,Option.getD_some,Array.all_eq_true',Bool.or_eq_true,Bool.not_eq_true']
  intro O f
  cases d:Region.binds .any O with
  | false=>exact .inl rfl
  | true=>
   refine .inr ?_
   simp only [rP,List.all_eq_true,List.mem_range] at r
   have:=r R m.1
   rw [show ops[R]?=some ops[R] by simp [m.1]] at this
   simp only [List.all_eq_true] at this
   have:=this O (by simpa using f)
   rw [d] at this
   have t:O.on < R:=by simpa [Nat.blt_eq] using this
   have aY:=ND O.on t
   rw [Array.getD_eq_getD_getElem?] at aY ⊢
   have u:O.on < b.size:=by rw [bI];omega
   rw [Array.getElem?_eq_getElem u] at aY ⊢
   exact aY
 intro k
 induction k with
 | zero=>
  intro b a aA bI w x p e
  have H:rem ops.length b=[]:=List.length_eq_zero_iff.1 (by omega)
  have g:Region.ready .any ops.toArray b=[]:=by
   cases q:Region.ready .any ops.toArray b with
   | nil=>rfl
   | cons R l=>
    have:=(F b R (by rw [q];exact List.mem_cons_self)).1
    rw [H] at this
    cases this
  rw [H] at e
  exact⟨g,A a aA p e⟩
 | succ k bO=>
  intro b a aA bI w x p e
  refine⟨fun g=>?_,fun R a5=>?_⟩
  ·cases q:rem ops.length b with
   | nil=>rw [q] at e;exact A a aA p e
   | cons R l=>
    have:=NC b bI R l q
    rw [g] at this
    cases this
  ·obtain⟨I,aN,c,J⟩:=F b R a5
   obtain⟨aH,bX,T,V,aY⟩:=CF bI I
   rw [T] at e
   have Nv:=(oG.1 I).1
   have NF:∀ aC ∈ aH,free E md ops.toArray aC R:=by
    intro aC n
    obtain⟨NG,y,h⟩:=aY aC n
    have i:=NA R Nv aC NG
    have j:ops[aC]?=some ops[aC]:=by simp [y]
    unfold BY at i
    rw [c,j] at i
    simp only [Bool.or_eq_true,Bool.and_eq_true] at i
    have NH:((kH [] ops).getD R 0).testBit aC ≠ true:=by
     intro d
     have:=CE w r R aN c J aC d
     have u:aC < b.size:=by rw [bI];exact y
     rw [Array.getD_eq_getD_getElem?,Array.getElem?_eq_getElem u] at this h
     simp at this h
     rw [this] at h
     cases h
    rcases i with i | ⟨NI,NJ⟩
    ·exact absurd i NH
    ·exact⟨ops[aC],aN,by simp [y],by simpa using c,NI,fun c9 K=>D aC _ c9 K j,fun c9 K=>D R _ c9 K c,NJ⟩
   have Nw:=Cz NF e
   have z:ops.toArray[R]?=some aN:=by simpa using c
   simp only [iF,z] at Nw
   refine z9 z Nw fun v cA aI S=>?_
   refine bO _ _ _ (by simp [bI]) ?_ ?_ (p.trans aI) (by rw [V];exact S)
   ·intro aC NK j Nx O f d
    by_cases Ny:aC=R
    ·subst Ny
     rw [z] at j
     cases j
     have:=J O f d
     rw [Array.getD_eq_getD_getElem?,Array.getElem?_setIfInBounds]
     rw [Array.getD_eq_getD_getElem?] at this
     split
     ·rename_i NL
      split <;> simp_all
     ·exact this
    ·have NM:b.getD aC false=true:=by
      rw [Array.getD_eq_getD_getElem?,Array.getElem?_setIfInBounds,if_neg (fun O=>Ny O.symm),← Array.getD_eq_getD_getElem?] at Nx
      exact Nx
     have:=w aC NK j NM O f d
     rw [Array.getD_eq_getD_getElem?,Array.getElem?_setIfInBounds]
     rw [Array.getD_eq_getD_getElem?] at this
     split
     ·rename_i NL
      split
      ·rfl
      ·rename_i t;exact absurd (by rw [bI];exact Nv) t
     ·exact this
   ·rw [V];rw [T] at x;simp at x ⊢;omega
theorem GU{md:Bool}{cQ:Nat}{ops:List Oper}(k:rP ops=true){aF:Act→U→Prop}{Q:Exit→Act→World→Prop}{iQ:World}
  (y:∀ a aA,eJ iQ aA→aF a aA.heap→Q .normal a aA):∀ (i:Nat) (b:Array Bool) (a:Act) (aA:World),b.size=ops.length→xU ops.toArray b→(rem ops.length b).length≤i→eJ iQ aA→
   anyS P E md cQ ops.toArray (kH [] ops) aF (rem ops.length b).length (rem ops.length b) a aA.heap→wpAny P .any ops.toArray Q i b a aA:=by
 have NG:=k
 have z:∀ b:Array Bool,∀ R ∈ Region.ready .any ops.toArray b,R ∈ rem ops.length b∧∃ aN,ops[R]?=some aN∧∀ O ∈ aN.after,Region.binds .any O=true→b.getD O.on false=true:=by
  intro b R a5
  simp only [Region.ready,List.size_toArray,List.mem_filter,List.mem_range,Bool.and_eq_true,Bool.not_eq_true'] at a5
  obtain⟨aY,V,p⟩:=a5
  refine⟨oG.2 ⟨aY,V⟩,?_⟩
  have f:ops.toArray[R]?=some ops[R]:=by simp [aY]
  rw [f] at p
  simp only [Option.map_some,Option.getD_some,Array.all_eq_true',Bool.or_eq_true,Bool.not_eq_true'] at p
  refine⟨ops[R],by simp [aY],fun O g c=>?_⟩
  rcases p O g with Z | Z
  ·rw [Z] at c;cases c
  ·exact Z
 have Nv:∀ b:Array Bool,b.size=ops.length→∀ R l,rem ops.length b=R :: l→R ∈ Region.ready .any ops.toArray b:=by
  intro b bI R l d
  have a5:R ∈ rem ops.length b:=by rw [d];exact List.mem_cons_self
  have j:=oG.1 a5
  have Nw:∀ aC,aC < R→b.getD aC true=true:=by
   intro aC A
   cases h:b.getD aC true with
   | true=>rfl
   | false=>
    have m:aC ∈ rem ops.length b:=oG.2 ⟨by omega,h⟩
    have B:(rem ops.length b).Pairwise (·< ·):=List.Pairwise.sublist List.filter_sublist List.pairwise_lt_range
    rw [d] at B m
    rcases List.mem_cons.1 m with rfl | m
    ·omega
    ·have:=(List.pairwise_cons.1 B).1 aC m
     omega
  simp only [Region.ready,List.size_toArray,List.mem_filter,List.mem_range,Bool.and_eq_true,Bool.not_eq_true']
  refine⟨j.1,j.2,?_⟩
  have f:ops.toArray[R]?=some ops[R]:=by simp [j.1]
  rw [f]
  simp only [Option.map_some,Option.getD_some,Array.all_eq_true',Bool.or_eq_true,Bool.not_eq_true']
  intro O g
  cases c:Region.binds .any O with
  | false=>exact .inl rfl
  | true=>
   refine .inr ?_
   simp only [rP,List.all_eq_true,List.mem_range] at k
   have:=k R j.1
   rw [show ops[R]?=some ops[R] by simp [j.1]] at this
   simp only [List.all_eq_true] at this
   have:=this O (by simpa using g)
   rw [c] at this
   have q:O.on < R:=by simpa [Nat.blt_eq] using this
   have aY:=Nw O.on q
   rw [Array.getD_eq_getD_getElem?] at aY ⊢
   have r:O.on < b.size:=by rw [bI];omega
   rw [Array.getElem?_eq_getElem r] at aY ⊢
   exact aY
 have Nx:∀ b:Array Bool,(rem ops.length b).Nodup:=fun b=>List.Nodup.sublist List.filter_sublist List.nodup_range
 intro i
 induction i with
 | zero=>
  intro b a aA bI s Ny n e
  have C:rem ops.length b=[]:=List.length_eq_zero_iff.1 (by omega)
  have d:Region.ready .any ops.toArray b=[]:=by
   cases o:Region.ready .any ops.toArray b with
   | nil=>rfl
   | cons R l=>
    have:=(z b R (by rw [o];exact List.mem_cons_self)).1
    rw [C] at this
    cases this
  rw [C] at e
  exact⟨d,y a aA n e⟩
 | succ i bO=>
  intro b a aA bI s Ny n e
  refine⟨fun d=>?_,fun R a5=>?_⟩
  ·cases o:rem ops.length b with
   | nil=>rw [o] at e;exact y a aA n e
   | cons R l=>
    have:=Nv b bI R l o
    rw [d] at this
    cases this
  ·obtain⟨t,aN,f,D⟩:=z b R a5
   obtain⟨aH,bX,u,F,aY⟩:=CF bI t
   have Nz:=(oG.1 t).1
   have d:oA (kH [] ops) (rem ops.length b) R=true:=by
    unfold oA
    rw [List.all_eq_true]
    intro aC A
    have G:=oG.1 A
    cases c:((kH [] ops).getD R 0).testBit aC with
    | false=>rfl
    | true=>
     have:=CE s k R aN f D aC c
     have r:aC < b.size:=by rw [bI];exact G.1
     have h:=G.2
     rw [Array.getD_eq_getD_getElem?,Array.getElem?_eq_getElem r] at this h
     simp at this h
     rw [this] at h
     cases h
   have H:del (rem ops.length b) R=rem ops.length (b.setIfInBounds R true):=by
    have I:=Nx b
    rw [u] at I
    rw [F,u,Cw I]
   have NA:(rem ops.length b).length=(rem ops.length (b.setIfInBounds R true)).length+1:=by rw [u,F];simp;omega
   rw [NA] at e
   have w:ops.toArray[R]?=some aN:=by simpa using f
   have NB:=e R aN t d w
   refine z9 w NB fun v cA aI S=>?_
   refine bO _ _ _ (by simp [bI]) ?_ (by omega) (n.trans aI) (by rw [← H];rw [← H] at S;exact S)
   intro aC NC x J O g c
   by_cases T:aC=R
   ·subst T
    rw [w] at x
    cases x
    have:=D O g c
    rw [Array.getD_eq_getD_getElem?,Array.getElem?_setIfInBounds]
    rw [Array.getD_eq_getD_getElem?] at this
    split
    ·rename_i ND
     split <;> simp_all
    ·exact this
   ·have NF:b.getD aC false=true:=by
     rw [Array.getD_eq_getD_getElem?,Array.getElem?_setIfInBounds,if_neg (fun O=>T O.symm),← Array.getD_eq_getD_getElem?] at J
     exact J
    have:=s aC NC x NF O g c
    rw [Array.getD_eq_getD_getElem?,Array.getElem?_setIfInBounds]
    rw [Array.getD_eq_getD_getElem?] at this
    split
    ·rename_i ND
     split
     ·rfl
     ·rename_i q;exact absurd (by rw [bI];exact Nz) q
    ·exact this
theorem CG(j:hG P E){id n:Nat}{ops:Array Oper}{draw:Bool}(f:rR E n ops draw=true){X:Fr}{a:Act}{aA:World}(o:fR n X a){aF:Fr→U→Prop}
  (g:bif vA E draw ops.toList then oB P E aA.heap.size ops.toList (kH [] ops.toList) ops.toList.length (List.range ops.toList.length) X aA.heap aF
   else iX P E (o8 E draw ops.toList) aA.heap.size ops.toList ops.toList X aA.heap aF) {Q:Exit→Act→World→Prop} (p:∀ b c cA,fR n b c→eJ aA cA→aF b cA.heap→Q .normal c cA) :
  (Code.region id ops draw).wp P Q a aA:=by
 obtain⟨l⟩:=ops
 simp only [rR,Bool.and_eq_true] at f
 obtain⟨u,f⟩:=f
 have q:l.all (oD n)=true:=u
 cases draw with
 | false=>
  have w:iX P E (o8 E false l) aA.heap.size l l X aA.heap aF:=g
  have s:=xT j (S:=0) (fun aC=>by simp) q o w
  refine wp_region ?_
  have key:∀ (h:List Nat) (a:Act) (e:World),eJ aA e→iF P E (o8 E false l) aA.heap.size l.toArray (fun c aB=>∃ b,fR n b c∧aF b aB) h a e.heap→wpOps P l.toArray Q h a e:=by
   intro h
   induction h with
   | nil=>intro a e aI ⟨b,r,S⟩;exact p b a e r aI S
   | cons R h bO=>
    intro a e aI S
    rw [wpOps_cons]
    simp only [iF] at S
    cases k:l.toArray[R]? with
    | none=>simp only [k] at S;unfold wpOp;simp only [k];exact bO a e aI S
    | some aN=>simp only [k] at S;exact z9 k S fun v cA x cV=>bO _ cA (aI.trans x) cV
  rw [List.range_eq_range']
  exact key _ a aA (eJ.refl aA) (by simpa using s)
 | true=>
  simp only [Bool.not_true,Bool.false_or,Bool.and_eq_true] at f
  have t:eJ aA { aA with drawn:=aA.drawn+1 }:=⟨rfl,rfl,rfl⟩
  refine wp_region_any j.mixed ?_
  have m:rem l.length (Array.replicate l.length false)=List.range' 0 l.length:=by
   unfold rem
   rw [List.range_eq_range',List.filter_eq_self]
   intro aC y
   rw [Array.getD_eq_getD_getElem?,Array.getElem?_replicate]
   have:aC < l.length:=by simpa [List.mem_range'_1] using y
   simp [this]
  have z:xU l.toArray (Array.replicate l.toArray.size false):=by
   intro R aN _ d
   rw [Array.getD_eq_getD_getElem?,Array.getElem?_replicate] at d
   simp only [List.size_toArray] at d
   split at d <;> simp at d
  cases i:vA E true l with
  | true=>
   rw [show({ toList:=l }:Array Oper).toList=l from rfl,i,cond_true] at g
   have A:=GR j q (by simpa using f.1) (by simp) List.nodup_range o g
   refine GU (E:=E) (md:=true) (cQ:=aA.heap.size) f.2 (aF:=fun c aB=>∃ b,fR n b c∧aF b aB) (iQ:=aA) ?_ _ _ _ _ (by simp) z ?_ t ?_
   ·rintro c cA aI ⟨b,r,S⟩
    exact p b c cA r aI S
   ·simp only [List.size_toArray];rw [m];simp
   ·simp only [List.size_toArray];rw [m,← List.range_eq_range',List.length_range];exact A
  | false=>
  rw [show({ toList:=l }:Array Oper).toList=l from rfl,i,cond_false] at g
  have s:=xT j (S:=0) (fun aC=>by simp) q o g
  have B:rQ E (o8 E true l) l=true:=by
   unfold vA at i
   unfold o8
   cases aY:rQ E false l with
   | true=>simp [aY]
   | false=>simp [aY] at i ⊢;exact i
  refine GS (md:=o8 E true l) (cQ:=aA.heap.size) B (aF:=fun c aB=>∃ b,fR n b c∧aF b aB) (iQ:=aA) ?_ _ _ _ _ (by simp) ?_ ?_ t ?_
  ·rintro c cA aI ⟨b,r,S⟩
   exact p b c cA r aI S
  ·intro R aN _ d
   rw [Array.getD_eq_getD_getElem?,Array.getElem?_replicate] at d
   simp only [List.size_toArray] at d
   split at d <;> simp at d
  ·simp only [List.size_toArray];rw [m];simp
  ·simp only [List.size_toArray];rw [m];exact s
def a2.up:a2→Exit
 | .normal=>.normal
 | .exit id=>.exit id
 | .ret=>.ret
theorem GV(v:hG P E){n:Nat}:∀ {c:Code} {Q:a2→Fr→U→Prop} {X:Fr} {a:Act} {aA:World} {i:Exit→Act→World→Prop},mW E n c=true→fR n X a→den P E c Q X aA.heap→
  (∀ O g h cA,fR n g h→eJ aA cA→Q O g cA.heap→i O.up h cA)→c.wp P i a aA:=by
 intro c
 induction c with
 | skip=>intro Q X a aA i f e b d;exact wp_skip (d .normal X a aA e (eJ.refl aA) b)
 | label l=>intro Q X a aA i f e b d;exact wp_label (d .normal X a aA e (eJ.refl aA) b)
 | ret=>intro Q X a aA i f e b d;exact wp_ret (d .ret X a aA e (eJ.refl aA) b)
 | exit id=>intro Q X a aA i f e b d;exact wp_exit (d (.exit id) X a aA e (eJ.refl aA) b)
 | region id ops draw=>
  intro Q X a aA i f e b d
  exact CG v f e b fun g h cA r aI S=>d .normal g h cA r aI S
 | seq N aQ o p=>
  intro Q X a aA i f e b d
  simp only [mW,Bool.and_eq_true] at f
  refine wp_seq (o f.1 e b fun O g h cA r aI S=>?_)
  cases O with
  | normal=>exact p f.2 r S fun w x bL j y s2 z=>d w x bL j y (aI.trans s2) z
  | exit id=>exact d (.exit id) g h cA r aI S
  | ret=>exact d .ret g h cA r aI S
 | cond c N aQ o p=>
  intro Q X a aA i f e b d
  simp only [mW,Bool.and_eq_true] at f
  simp only [den] at b
  split at b
  ·rename_i t q
   have A:a.eval c=.bool t:=by rw [e.cS];exact q
   refine wp_cond A ?_
   cases t with
   | true=>simp only [cond_true,xC q] at b;exact o f.1 e b d
   | false=>simp only [cond_false,xC q] at b;exact p f.2 e b d
  ·cases b
 | block id c bO=>
  intro Q X a aA i f e b d
  refine wp_block (bO f e b fun O g h cA r aI S=>?_)
  cases O with
  | normal=>exact d .normal g h cA r aI S
  | ret=>exact d .ret g h cA r aI S
  | exit u=>
   simp only [a2.inBlock] at S
   simp only [a2.up,Exit.inBlock]
   cases k:Nat.beq u id with
   | true=>
    simp only [k,cond_true] at S
    rw [if_pos (Nat.eq_of_beq_eq_true k)]
    exact d .normal g h cA r aI S
   | false=>
    simp only [k,cond_false] at S
    rw [if_neg (fun O=>by subst O;simp at k)]
    exact d (.exit u) g h cA r aI S
 | scope c bO=>
  intro Q X a aA i f e b d
  refine wp_scope_straight (bO f e b fun O g h cA r aI S=>?_)
  cases O <;> exact d _ g h cA r aI S
 | loop c bO=>
  intro Q X a aA i f e b d
  obtain⟨m,b⟩:=b
  refine wp_loop_rounds m ?_
  have key:∀ m X a j,fR n X a→eJ aA j→iter (fun B=>den P E c (a2.then B Q)) m X j.heap→Code.rounds P c i m a j:=by
   intro m
   induction m with
   | zero=>intro X a j _ _ Z;exact Z.elim
   | succ m C=>
    intro X a j e aI Z
    rw [rounds_succ]
    refine bO f e Z fun O g h cA r s S=>?_
    cases O with
    | normal=>exact C g h cA r (aI.trans s) S
    | exit id=>exact d (.exit id) g h cA r (aI.trans s) S
    | ret=>exact d .ret g h cA r (aI.trans s) S
  exact key m X a aA e (eJ.refl aA) b
 | _=>intro Q X a aA i f e b d;exact b.elim
theorem Ab(args:List Value)(n:Nat)(b:args.length≤n):fR n (tD args) { tmps:=args.toArray ++ Array.replicate (n - args.length) undef,defers:=[] }:=by
 refine⟨by simp;omega,rfl,fun t=>?_⟩
 unfold tD
 rw [Array.getD_eq_getD_getElem?]
 by_cases Z:t < args.length
 ·rw [Array.getElem?_append_left (by simpa using Z)]
  simp [Z]
 ·rw [Array.getElem?_append_right (by simpa using Z)]
  have a:args[t]?=none:=by simp;omega
  rw [a]
  simp only [List.size_toArray]
  rw [Array.getElem?_replicate]
  split <;> rfl
def vF(tmps:Array Value):ResultVar→Sem Value
 | .tmp t=>pure (tmps.getD t undef)
 | .cell a t=>do loadVar t (← asAddr (tmps.getD a undef))
theorem xV(c:hG P E){n:Nat}{X:Fr}{a:Act}(b:fR n X a){aA:World}:∀ {l:List ResultVar} {aF:List Value→Prop},oC E X aA.heap l aF→∃ bV,aF bV∧(l.mapM (vF a.tmps)).run P aA=Result.ok bV aA
 | [],aF,Z=>⟨[],Z,rfl⟩
 | .tmp t :: l,aF,Z=>by
  obtain⟨bV,aY,d⟩:=xV c b (l:=l) Z
  refine⟨_,aY,?_⟩
  rw [List.mapM_cons]
  simp only [vF,Sem.run_bind,Sem.run_pure,Result.andThen,d,b.get t]
 | .cell N t :: l,aF,Z=>by
  simp only [oC] at Z
  split at Z
  ·rename_i aE R f g
   obtain⟨v,aY,d⟩:=Cd (P:=P) c g Z
   obtain⟨bV,h,i⟩:=xV c b (l:=l) aY
   refine⟨_,h,?_⟩
   have e:=d aA rfl
   simp only [Instr.loadAt,Instr.sureAddr,pure_bind] at e
   rw [List.mapM_cons]
   simp only [vF,Sem.run_bind,Sem.run_pure,Result.andThen,i,b.get N,f,asAddr,e]
  ·cases Z
theorem GW(e:hG P E){f:FuncId}{fn:Func}{c:Code}{dE:List ResultVar}(g:P.funcs[f]?=some fn)(h:fn.body=some c)(i:mW E fn.ntmps c=true)(j:fn.results.toList=dE)
  {args:List Value} (k:args.length≤fn.ntmps) {Z:U} {Y:Value→U→Prop}
  (l:den P E c (fun O X aB=>match O with | .exit _=>False | _=>oC E X aB dE fun bV=>Y (tE bV) aB) (tD args) Z):mB P f args.toArray Z Y:=by
 intro aA m
 subst m
 refine calls_of_wp g h ?_
 have n:=Ab args fn.ntmps k
 have o:fn.ntmps - args.toArray.size=fn.ntmps - args.length:=by simp
 rw [o]
 refine GV e i n l fun O p d cA r aI S=>?_
 have b:(oC E p cA.heap dE fun bV=>Y (tE bV) cA.heap)→∃ v,(results fn d.tmps).run P cA=.ok v cA∧Y v cA.heap:=by
  intro S
  obtain⟨bV,aY,a⟩:=xV e r S
  refine⟨_,?_,aY⟩
  have b:results fn d.tmps=(fn.results.mapM (vF d.tmps) >>= fun bV=>pure (if Z:bV.size=1 then bV[0] else .tuple bV)):=rfl
  rw [b,Sem.run_bind,Array.mapM_eq_mapM_toList,Sem.run_map,j,a]
  simp only [Result.andThen,Sem.run_pure]
  congr 1
  match bV with
  | []=>rfl
  | [t]=>rfl
  | t :: q :: jO=>simp [tE]
 cases O with
 | normal=>obtain⟨v,aY,a⟩:=b S;exact⟨r.defers,v,aY,v,rfl,aI,a⟩
 | ret=>obtain⟨v,aY,a⟩:=b S;exact⟨r.defers,v,aY,v,rfl,aI,a⟩
 | exit id=>exact S.elim
end
set_option linter.unusedSimpArgs false
theorem rT{n:Int}{aF a:Int→Prop}(b:∀ n,aF n→a n)(Z:a6 n aF):a6 n a:=⟨b _ Z.out⟩
theorem GX{op:BinOp}{S:IntKind}{a K:Int}{aF c:Value→Prop}(b:∀ v,aF v→c v)(Z:xH op S a K aF):xH op S a K c:=by
 cases op <;> first
  | exact b _ Z
  | exact rT (fun n=>b _) Z
  | exact⟨Z.1,rT (fun n=>b _) Z.2⟩
  | exact Z
theorem GY{E:Env}{op:BinOp}{t:TypeId}{N aQ:Value}{aF c:Value→Prop}(b:∀ v,aF v→c v)(Z:s5 E op t N aQ aF):s5 E op t N aQ c:=by
 unfold s5 at *
 split at Z
 ·rename_i S a cV K
  split at Z
  ·exact⟨Z.1,rT (fun n=>b _) Z.2⟩
  ·exact⟨Z.1,rT (fun n=>b _) Z.2⟩
  ·cases O:o7 S cV with
   | false=>rw [O] at Z;cases Z
   | true=>rw [O] at Z;exact GX b Z
 ·split at Z
  ·exact⟨Z.1,b _ Z.2⟩
  ·exact b _ Z
  ·exact b _ Z
  ·cases Z
 ·split at Z
  ·split at Z
   ·exact b _ Z
   ·exact b _ Z
   ·cases Z
  ·cases Z
 ·split at Z
  ·split at Z
   ·exact b _ Z
   ·exact b _ Z
   ·cases Z
  ·cases Z
 ·cases Z
theorem GZ{op:UnOp}{N:Value}{aF b:Value→Prop}(a:∀ v,aF v→b v)(Z:s6 op N aF):s6 op N b:=by
 unfold s6 at *
 split at Z
 ·exact rT (fun n=>a _) Z
 ·exact rT (fun n=>a _) Z
 ·exact a _ Z
 ·cases Z
theorem G0{eI:IntKind}{v:Value}{aF a:Int→Prop}(b:∀ n,aF n→a n)(Z:aW eI v aF):aW eI v a:=by
 obtain⟨m,O,g⟩:=bN Z
 subst O
 have this:∀ aC:IntKind,o7 aC aC=true:=fun aC=>by cases aC <;> rfl
 simp only [aW,this,cond_true]
 exact b _ g
theorem xW{S:hE}{v:Value}{aF d:Value→Prop}(b:∀ v,aF v→d v)(Z:rK S v aF):rK S v d:=by
 cases S with
 | int S=>exact G0 (fun n=>b _) Z
 | bool=>obtain⟨n,O,g⟩:=iE (show eS v _ from Z);subst O;exact b _ g
 | str=>obtain⟨n,O,g⟩:=B3 (show xF v _ from Z);subst O;exact b _ g
 | slice=>obtain⟨a,l,c,O,g⟩:=b0 (show aU v _ from Z);subst O;exact b _ g
 | ptr=>obtain⟨n,O,g⟩:=B4 (show xG v _ from Z);subst O;exact b _ g
theorem CH:∀ {b:List hE} {l:List Value} {aF a:List Value→Prop},(∀ v,aF v→a v)→u3 b l aF→u3 b l a
 | [],l,aF,a,c,Z=>by obtain⟨O,g⟩:=hK Z;subst O;exact c _ g
 | S :: b,l,aF,a,c,Z=>by
  obtain⟨v,bV,O,g⟩:=e1 Z
  subst O
  exact xW (fun e d=>CH (fun f=>c _) d) g
theorem CI{R:dL}{v:Value}{aF a:Value→Prop}(b:∀ v,aF v→a v)(Z:rL R v aF):rL R v a:=by
 unfold rL at *
 split at Z
 ·obtain⟨c9,O,g⟩:=zZ Z
  subst O
  rename_i O
  exact CH (fun bV=>b _) g
 ·split at Z
  ·rename_i c S O
   exact xW b Z
  ·cases Z
theorem CJ{E:Env}:∀ {jO:List TypeId} {l:List Value} {aF a:List Value→Prop},(∀ v,aF v→a v)→s3 E jO l aF→s3 E jO l a
 | [],l,aF,a,b,Z=>by obtain⟨O,g⟩:=hK Z;subst O;exact b _ g
 | t :: jO,l,aF,a,b,Z=>by
  obtain⟨v,bV,O,g⟩:=e1 Z
  subst O
  unfold s3 cW
  simp only
  split at g
  ·rename_i R O
   exact CI (fun d c=>CJ (fun e=>b _) c) g
  ·cases g
theorem Ac{E:Env}{t:TypeId}{v:Value}{aF b:Value→Prop}(a:∀ v,aF v→b v)(Z:p5 E t v aF):p5 E t v b:=by
 unfold p5 at *
 split at Z
 ·rename_i R O
  split at Z
  ·rename_i jO c
   obtain⟨c9,O,g⟩:=B6 Z
   subst O
   exact CJ (fun bV=>a _) g
  ·rename_i d
   exact CI a Z
 ·exact a _ Z
theorem CK{a:M}{l:Nat}{R:Int}{h4:Nat}{aF b:Addr→Prop}(c:∀ aE,aF aE→b aE)(Z:c2 a l R h4 aF):c2 a l R h4 b:=by
 obtain⟨aV,Z⟩:=Z
 refine⟨aV,?_⟩
 cases a with
 | none=>exact Z
 | some p=>exact c _ Z
theorem G1{aI:ByteArray}{R:Int}{aF a:Int→Prop}(b:∀ aE,aF aE→a aE)(Z:u4 aI R aF):u4 aI R a:=by
 obtain⟨aV,Z⟩:=Z
 refine⟨aV,?_⟩
 split at Z
 ·rename_i O;exact b _ Z
 ·cases Z
theorem CL{Z:U}{aE:Addr}{aF b:Value→Prop}(c:∀ v,aF v→b v)(a:fB Z aE aF):fB Z aE b:=by
 unfold fB at *
 split at a
 ·rename_i O;exact c _ a
 ·cases a
theorem CM{Z:U}{aE:Addr}:∀ {a:List hE} {R:Nat} {aF b:List Value→Prop},(∀ v,aF v→b v)→s7 Z aE R a aF→s7 Z aE R a b
 | [],R,aF,b,c,d=>c _ d
 | S :: a,R,aF,b,c,d=>CL (fun v g=>xW (fun a a=>CM (fun bV=>c _) a) g) d
theorem G2{R:dL}{Z:U}{aE:Addr}{aF b:Value→Prop}(c:∀ v,aF v→b v)(a:s8 R Z aE aF):s8 R Z aE b:=by
 obtain⟨ty,fM,K⟩:=R
 cases ty with
 | struct e2=>exact CM (fun bV=>c _) a
 | tuple jO=>exact a
 | _=>
  match fM,a with
  | [S],a=>exact CL (fun v g=>xW c g) a
theorem vG{v:Option Value}{aT aQ:Nat}{aF a:Nat→Prop}(b:∀ n,aF n→a n)(Z:n8 v aT aQ aF):n8 v aT aQ a:=by
 unfold n8 at *
 split at Z
 ·exact b _ Z
 ·exact⟨Z.1,b _ Z.2⟩
 ·cases Z
theorem G3{h4:Nat}{a:M}{l c:Nat}{bQ a5 b:Option Value}{aF d:M→Nat→Nat→Prop}(e:∀ a l c,aF a l c→d a l c)(Z:hX h4 a l c bQ a5 b aF):hX h4 a l c bQ a5 b d:=by
 unfold hX at *
 split at Z
 ·cases Z
 ·rename_i i
  exact vG (fun m g=>vG (fun aB f=>vG (fun l h=>e _ _ _ h) f) g) Z
theorem G4{aI:ByteArray}{bQ a5:Option Value}{aF a:ByteArray→Prop}(b:∀ aI,aF aI→a aI)(Z:u5 aI bQ a5 aF):u5 aI bQ a5 a:=
 vG (fun aB a=>vG (fun l c=>b _ c) a) Z
theorem CN:∀ {rest:List Value} {N:Value} {aF b:Value→Prop},(∀ v,aF v→b v)→mC N rest aF→mC N rest b
 | [],N,aF,b,c,Z=>by unfold mC at *;exact c _ Z
 | aQ :: rest,N,aF,b,c,Z=>by
  cases N with
  | int S a=>
   cases aQ with
   | int cV K=>unfold mC at *;exact CN c Z
   | _=>simp [mC] at Z
  | _=>cases aQ <;> simp [mC] at Z
theorem CO:∀ {rest:List Value} {N:Value} {aF b:Value→Prop},(∀ v,aF v→b v)→mD N rest aF→mD N rest b
 | [],N,aF,b,c,Z=>by unfold mD at *;exact c _ Z
 | aQ :: rest,N,aF,b,c,Z=>by
  cases N with
  | int S a=>
   cases aQ with
   | int cV K=>unfold mD at *;exact CO c Z
   | _=>simp [mD] at Z
  | _=>cases aQ <;> simp [mD] at Z
theorem G5{E:Env}{t:TypeId}{v:Value}{aF a:Value→Prop}(b:∀ v,aF v→a v)(Z:u6 E t v aF):u6 E t v a:=by
 unfold u6 at *
 split at Z
 ·rename_i O;exact b _ Z
 ·rename_i O;exact b _ Z
 ·cases Z
theorem G6{E:Env}{c:Call}{X:Fr}{aF b:Value→Prop}(a:∀ v,aF v→b v)(Z:tA E c X aF):tA E c X b:=by
 obtain⟨callee,args,oF⟩:=c
 unfold tA at *
 simp only at *
 split at Z
 ·split at Z
  ·rename_i e d;exact G5 a Z
  ·cases Z
 ·split at Z
  ·rename_i O;exact CN a Z
  ·cases Z
 ·split at Z
  ·rename_i O;exact CO a Z
  ·cases Z
 ·split at Z
  ·rename_i O
   split at Z
   ·rename_i d;exact⟨Z.1,a _ Z.2⟩
   ·cases Z
  ·rename_i O
   split at Z
   ·rename_i d;exact⟨Z.1,a _ Z.2⟩
   ·cases Z
  ·cases Z
 ·cases Z
theorem Ad{E:Env}{op:Op}{X:Fr}{Z:U}{aF j:Value→Prop}(d:∀ v,aF v→j v)(b:hQ E op X Z aF):hQ E op X Z j:=by
 cases op with
 | move N=>exact d _ b
 | assign N=>exact d _ b
 | pick c a K=>
  simp only [hQ] at *
  split at b
  ·rename_i t O
   cases t <;> exact d _ b
  ·cases b
 | load t a=>
  simp only [hQ] at *
  split at b
  ·rename_i e g;exact G2 d b
  ·cases b
 | binOp op t N aQ o=>exact GY d b
 | unOp op t N=>exact GZ d b
 | convert aI aT N=>
  simp only [hQ] at *
  split at b
  ·rename_i e g h;exact rT (fun n=>d _) b
  ·cases b
 | indexAddr t N R=>
  simp only [hQ] at *
  split at b
  ·rename_i e g h
   split at b
   ·rename_i i;exact CK (fun aE=>d _) b
   ·cases b
  ·split at b
   ·split at b
    ·exact CK (fun aE=>d _) b
    ·cases b
   ·cases b
  ·cases b
 | index t N R=>
  simp only [hQ] at *
  split at b
  ·rename_i e g h;exact G1 (fun aE=>d _) b
  ·cases b
 | extract N R=>
  simp only [hQ] at *
  split at b
  ·rename_i e
   split at b
   ·rename_i g;exact d _ b
   ·cases b
  ·cases b
 | fieldAddr aI N f=>
  simp only [hQ] at *
  split at b
  ·rename_i e g
   split at b
   ·rename_i h
    split at b
    ·rename_i R i
     cases k:Nat.beq R.leaves.length 0 with
     | true=>rw [k] at b;cases b
     | false=>rw [k] at b;exact d _ b
    ·cases b
   ·cases b
  ·cases b
 | field t N f=>
  simp only [hQ] at *
  split at b
  ·rename_i e g
   split at b
   ·rename_i h
    split at b
    ·rename_i i;exact d _ b
    ·cases b
    ·rename_i R p q i
     split at b
     ·rename_i r
      exact d _ b
     ·cases b
    ·cases b
   ·cases b
  ·cases b
 | build t parts=>
  simp only [hQ] at *
  split at b
  ·rename_i e2 fM K e
   cases m:(!e2.isEmpty && rM E e2) with
   | false=>rw [m] at b;cases b
   | true=>
    rw [m] at b
    simp only [cond_true] at *
    split at b
    ·rename_i g;exact d _ b
    ·cases b
  ·cases b
 | nilCheck N=>
  simp only [hQ] at *
  split at b
  ·rename_i e;exact d _ b
  ·cases b
 | slice t N bQ a5 s=>
  simp only [hQ] at *
  split at b
  ·rename_i e g
   split at b
   ·rename_i h;exact G3 (fun a l c=>d _) b
   ·cases b
  ·rename_i e g
   split at b
   ·exact G4 (fun aI=>d _) b
   ·cases b
  ·cases b
 | call c=>exact G6 d b
 | _=>exact b
theorem CP{aE:Addr}:∀ {l:List Value} {R:Nat} {Z:U} {aF b:U→Prop},(∀ Z,aF Z→b Z)→rN Z aE R l aF→rN Z aE R l b
 | [],R,Z,aF,b,c,a=>c _ a
 | v :: bV,R,Z,aF,b,c,a=>by
  unfold rN at *
  cases d:mE v with
  | false=>rw [d] at a;cases a
  | true=>rw [d] at a;exact⟨a.1,CP c a.2⟩
theorem G7{R:dL}{Z:U}{aE:Addr}{v:Value}{aF c:U→Prop}(d:∀ Z,aF Z→c Z)(a:tB R Z aE v aF):tB R Z aE v c:=by
 cases v with
 | agg c9=>
  unfold tB at *
  cases b:Nat.beq c9.toList.length R.leaves.length with
  | false=>simp only [b] at a;cases a
  | true=>simp only [b] at *;exact CP d a
 | tuple c9=>exact a
 | _=>
  unfold tB at *
  cases b:Nat.beq 1 R.leaves.length with
  | false=>simp only [b] at a;cases a
  | true=>simp only [b] at *;exact⟨a.1,d _ a.2⟩
theorem G8{Z:U}{O:TypeId}{R:dL}{a:M}{l c:Nat}{N:Value}{aF e:M→Nat→Nat→U→Prop}(b:∀ a l c Z,aF a l c Z→e a l c Z)(f:hF Z O R a l c N aF):hF Z O R a l c N e:=by
 obtain⟨n,c9,aY,g,h,i⟩:=f
 refine⟨n,c9,aY,g,fun d=>?_,fun d=>?_⟩
 ·have:=h d
  cases a with
  | none=>exact b _ _ _ _ this
  | some p=>exact⟨this.1,b _ _ _ _ this.2⟩
 ·obtain⟨j,k,m,o,q,r⟩:=i d
  exact⟨j,k,m,o,q,fun s t=>b _ _ _ _ (r s t)⟩
theorem G9{Z:U}{h4:Nat}{a:M}{l:Nat}{N:Value}{aF c:Int→U→Prop}(d:∀ n Z,aF n Z→c n Z)(e:mF Z h4 a l N aF):mF Z h4 a l N c:=by
 obtain⟨n,c9,aY,f,b⟩:=e
 refine⟨n,c9,aY,f,?_⟩
 cases a with
 | none=>exact d _ _ b
 | some p=>exact⟨b.1,d _ _ b.2⟩
theorem Ha{Z:U}{R:dL}{a:M}{l:Nat}{aF d:U→Prop}(c:∀ Z,aF Z→d Z)(b:xJ Z R a l aF):xJ Z R a l d:=by
 cases a with
 | none=>exact c _ b
 | some p=>
  cases l with
  | zero=>exact c _ b
  | succ l=>exact⟨b.1,c _ b.2⟩
theorem Hb{Z:U}{aE:Addr}{b d:Int→Int→U→Prop}{e f:Prop}(aY:∀ R c Z,b R c Z→d R c Z)(aV:e→f)(g:xK Z aE b e):xK Z aE d f:=by
 obtain⟨a,aI,pos,K,c,aT⟩:=g
 exact⟨a,aI,pos,K,fun O=>aY _ _ _ (c O),fun O=>aV (aT O)⟩
theorem Hc{Z:U}{a:M}{l:Nat}{aF b:ByteArray→Prop}(c:∀ aI,aF aI→b aI)(d:xL Z a l aF):xL Z a l b:=by
 cases a with
 | none=>exact c _ d
 | some p=>obtain⟨e,aY,f,g⟩:=d;exact⟨e,aY,f,c _ g⟩
theorem Ae{P:Program}{E:Env}{op:Op}{t0:TypeId}{X:Fr}{Z:U}{aF k:Value→U→Prop}(d:∀ v Z,aF v Z→k v Z)(b:iW P E op t0 X Z aF):iW P E op t0 X Z k:=by
 cases op with
 | range t N=>
  simp only [iW] at *
  split at b
  ·exact d _ _ b
  ·cases b
 | next N K=>
  cases K with
  | false=>exact b
  | true=>
   simp only [iW,cond_true] at *
   split at b
   ·exact Hb (fun _ _ _=>d _ _) (d _ _) b
   ·cases b
 | convert aI aT N=>
  simp only [iW] at *
  split at b
  ·split at b
   ·exact Hc (fun _=>d _ _) b
   ·cases b
  ·cases b
 | store t N v=>
  simp only [iW] at *
  split at b
  ·rename_i e h;exact G7 (fun Z=>d _ _) b
  ·cases b
 | box O v=>exact d _ _ b
 | alloc O=>
  simp only [iW] at *
  split at b
  ·cases b
  ·rename_i R f e
   exact d _ _ b
  ·cases b
 | makeSlice t l c=>
  simp only [iW] at *
  split at b
  ·rename_i e h j
   split at b
   ·cases b
   ·rename_i R f i
    exact⟨b.1,d _ _ b.2⟩
   ·cases b
  ·cases b
 | buildSlice t n parts=>
  simp only [iW] at *
  split at b
  ·rename_i e
   split at b
   ·cases b
   ·rename_i R f i
    cases m:Nat.ble (n*R.leaves.length) 16777216 with
    | false=>rw [m] at b;cases b
    | true=>
     rw [m] at b
     simp only [cond_true] at *
     split at b
     ·exact d _ _ b
     ·cases b
   ·cases b
  ·cases b
 | call c=>
  obtain⟨callee,args,oF⟩:=c
  simp only [iW] at *
  split at b
  ·split at b
   ·rename_i aI N t p e h
    cases bI:tC E p with
    | false=>rw [bI] at b;cases b
    | true=>
     rw [bI] at b
     simp only [cond_true] at *
     split at b
     ·rename_i j i
      split at b
      ·cases b
      ·rename_i R f o
       exact G8 (fun a l c Z=>d _ _) b
      ·cases b
     ·cases b
   ·cases b
  ·split at b
   ·rename_i e h
    split at b
    ·rename_i j i
     split at b
     ·cases b
     ·rename_i R f o
      exact G9 (fun n Z=>d _ _) b
     ·cases b
    ·cases b
   ·cases b
  ·split at b
   ·rename_i e h
    split at b
    ·rename_i j i
     split at b
     ·cases b
     ·rename_i R f o
      exact Ha (fun Z=>d _ _) b
     ·cases b
    ·cases b
   ·cases b
  ·split at b
   ·rename_i e;exact mB.mono b fun v aB g=>Ac (fun q=>d _ _) g
   ·cases b
  ·cases b
 | _=>exact b
theorem Hd{P:Program}{E:Env}{op:Op}{t0:TypeId}{X:Fr}{Z:U}{aF b:Value→Prop}(d:∀ v,aF v→b v)(a:rO P E op t0 X Z aF):rO P E op t0 X Z b:=by
 cases op with
 | call c=>
  simp only [rO] at *
  split at a
  ·obtain⟨v,aY,e⟩:=a
   exact⟨v,aY,Ac d e⟩
  ·cases a
 | _=>exact a
theorem xX{P:Program}{E:Env}{md:Bool}{cQ:Nat}{aN:Oper}{X:Fr}{Z:U}{aF d:Value→U→Prop}(b:∀ v Z,aF v Z→d v Z)(a:mG P E md cQ aN X Z aF):mG P E md cQ aN X Z d:=by
 unfold mG at *
 cases c:fV E aN.op with
 | pure=>simp only [c] at *;exact Ad (fun v=>b v _) a
 | load=>
  simp only [c] at *
  cases md with
  | false=>exact Ad (fun v=>b v _) a
  | true=>
   simp only [cond_true] at *
   split at a
   ·exact⟨a.1,Ad (fun v=>b v _) a.2⟩
   ·cases a
 | quiet=>simp only [c] at *;exact Hd (fun v=>b v _) a
 | call=>
  simp only [c] at *
  cases md with
  | false=>simp only [cond_false] at *;exact Ae b a
  | true=>simp only [cond_true] at *;exact Ae (fun v aB S=>⟨S.1,b _ _ S.2⟩) a
 | act=>simp only [c] at *;exact Ae b a
theorem tL{P:Program}{E:Env}{md:Bool}{cQ:Nat}{all:List Oper}:∀ {l:List Oper} {X:Fr} {Z:U} {aF c:Fr→U→Prop},(∀ X Z,aF X Z→c X Z)→iX P E md cQ all l X Z aF→iX P E md cQ all l X Z c
 | [],X,Z,aF,c,b,a=>b _ _ a
 | aN :: rest,X,Z,aF,c,b,a=>by
  unfold iX at *
  split at a
  ·rename_i O;exact xX (fun v aB=>tL b) a
  ·rename_i aC want O
   split at a
   ·cases a
   ·rename_i t d
    split at a
    ·rename_i K e
     cases K <;> cases want <;> simp only [cond_true,cond_false] at*<;> first
      | exact tL b a
      | exact xX (fun v aB=>tL b) a
    ·exact tL b a
    ·cases a
theorem CQ{P:Program}{E:Env}{cQ:Nat}{all:List Oper}{R:Nat}{X:Fr}{Z:U}{aF b:Fr→U→Prop}(c:∀ X Z,aF X Z→b X Z)(a:p7 P E cQ all R X Z aF):p7 P E cQ all R X Z b:=by
 unfold p7 at *
 split at a
 ·exact tL c a
 ·cases a
theorem CR{f g:Nat→Prop}(a:∀ R,f R→g R):∀ {l:List Nat},vB f l→vB g l
 | [],_=>trivial
 | [R],Z=>a R Z
 | R :: aC :: l,Z=>⟨a R Z.1,CR a Z.2⟩
theorem Af{P:Program}{E:Env}{cQ:Nat}{all:List Oper}{c:List Nat}{aF d:Fr→U→Prop}(b:∀ X Z,aF X Z→d X Z):∀ {n:Nat} {todo:List Nat} {X:Fr} {Z:U},oB P E cQ all c n todo X Z aF→oB P E cQ all c n todo X Z d
 | 0,_,X,Z,a=>b _ _ a
 | n+1,todo,X,Z,a=>by
  unfold oB at *
  split at a
  ·rename_i O;exact CQ (fun X Z=>Af b) a
  ·rename_i O;exact CR (fun R g=>CQ (fun X Z=>Af b) g) a
theorem vH{P:Program}{E:Env}:∀ {c:Code} {Q d:a2→Fr→U→Prop} {X:Fr} {Z:U},(∀ O X Z,Q O X Z→d O X Z)→den P E c Q X Z→den P E c d X Z:=by
 intro c
 induction c with
 | skip=>intro Q d X Z b a;exact b _ _ _ a
 | label l=>intro Q d X Z b a;exact b _ _ _ a
 | ret=>intro Q d X Z b a;exact b _ _ _ a
 | exit id=>intro Q d X Z b a;exact b _ _ _ a
 | region id ops draw=>
  intro Q d X Z b a
  simp only [den] at *
  cases j:vA E draw ops.toList with
  | true=>rw [j] at a;simp only [cond_true] at a ⊢;exact Af (b _) a
  | false=>rw [j] at a;simp only [cond_false] at a ⊢;exact tL (b _) a
 | seq N aQ e f=>
  intro Q d X Z b a
  refine e (fun O k aB g=>?_) a
  cases O with
  | normal=>exact f b g
  | exit id=>exact b _ _ _ g
  | ret=>exact b _ _ _ g
 | cond c N aQ e f=>
  intro Q d X Z b a
  simp only [den] at *
  split at a
  ·rename_i t O
   cases t with
   | true=>exact e b a
   | false=>exact f b a
  ·cases a
 | block id c bO=>
  intro Q d X Z b a
  refine bO (fun O k aB g=>?_) a
  cases O with
  | normal=>exact b _ _ _ g
  | ret=>exact b _ _ _ g
  | exit o=>
   simp only [a2.inBlock] at *
   cases m:Nat.beq o id with
   | true=>rw [m] at g;exact b _ _ _ g
   | false=>rw [m] at g;exact b _ _ _ g
 | scope c bO=>intro Q d X Z b a;exact bO b a
 | loop c bO=>
  intro Q d X Z b a
  obtain⟨n,a⟩:=a
  refine⟨n,?_⟩
  have key:∀ n X Z,iter (fun h=>den P E c (a2.then h Q)) n X Z→iter (fun h=>den P E c (a2.then h d)) n X Z:=by
   intro n
   induction n with
   | zero=>intro X Z g;exact g
   | succ n p=>
    intro X Z g
    refine bO (fun O k aB i=>?_) g
    cases O with
    | normal=>exact p _ _ i
    | exit id=>exact b _ _ _ i
    | ret=>exact b _ _ _ i
  exact key n X Z a
 | _=>intro Q d X Z b a;exact a
theorem CS(N aQ:Fr→U→Prop)(Q:a2→Fr→U→Prop):a2.then N (a2.then aQ Q)=a2.then N Q:=by
 funext O
 cases O <;> rfl
theorem mH{v:Value}{aF:Addr→Prop}(Z:fU v aF):∃ aE,v=.pointer (some aE)∧aF aE:=by
 cases v with
 | pointer a=>cases a with
  | some aE=>exact⟨aE,rfl,Z⟩
  | none=>cases Z
 | _=>cases Z
variable {P:Program} {E:Env}
def a7(E:Env)(dE:List ResultVar)(Y:Value→U→Prop):a2→Fr→U→Prop:=
 fun O X aB=>match O with | .exit _=>False | _=>oC E X aB dE fun bV=>Y (tE bV) aB
def vI(X:Fr):List (Nat × Value)→Fr
 | []=>X
 | p :: l=>vI (jY X p.1 p.2) l
def xY(X:Fr):List (Nat × Value)→Prop
 | []=>True
 | p :: l=>X p.1=p.2∧xY X l
theorem Ag:∀ {l:List (Nat × Value)} {X:Fr},xY X l→vI X l=X
 | [],_,_=>rfl
 | p :: l,X,Z=>by
  have O:jY X p.1 p.2=X:=u2 Z.1
  show vI (jY X p.1 p.2) l=X
  rw [O];exact Ag Z.2
theorem bT{c:Code}{Q:a2→Fr→U→Prop}{X:Fr}{Z:U}(l:List (Nat × Value))(a:xY X l){t:Prop}(b:den P E c Q (vI X l) Z=t)(g:t):den P E c Q X Z:=by
 rw [← b,Ag a] at g;exact g
def first:Nat→Code→Code
 | 1,.seq a _=>a
 | n+2,.seq a K=>.seq a (first (n+1) K)
 | _,c=>c
def rest:Nat→Code→Code
 | 1,.seq _ K=>K
 | n+2,.seq _ K=>rest (n+1) K
 | _,_=>.skip
theorem CT{d:Fr→U→Prop}{Q:a2→Fr→U→Prop}:∀ {n:Nat} {c:Code} (_:∀ X Z,d X Z→den P E (rest n c) Q X Z) {X:Fr} {Z:U},den P E (first n c) (a2.then d Q) X Z→den P E c Q X Z:=by
 have key:∀ (c:Code),(∀ X Z,d X Z→den P E .skip Q X Z)→∀ {X:Fr} {Z:U},den P E c (a2.then d Q) X Z→den P E c Q X Z:=by
  intro c b X Z g
  refine vH (fun O X Z g=>?_) g
  cases O with
  | normal=>exact b _ _ g
  | exit R=>exact g
  | ret=>exact g
 have one:∀ (a K:Code),(∀ X Z,d X Z→den P E K Q X Z)→∀ {X:Fr} {Z:U},den P E a (a2.then d Q) X Z→den P E (.seq a K) Q X Z:=by
  intro a K b X Z g
  show den P E a (a2.then (den P E K Q) Q) X Z
  refine vH (fun O X Z g=>?_) g
  cases O with
  | normal=>exact b _ _ g
  | exit R=>exact g
  | ret=>exact g
 intro n
 induction n with
 | zero=>
  intro c b X Z g
  have f:first 0 c=c:=by cases c <;> rfl
  have h:rest 0 c=.skip:=by cases c <;> rfl
  rw [f] at g;rw [h] at b;exact key c b g
 | succ n bO=>
  intro c b X Z g
  cases c with
  | seq a K=>
   cases n with
   | zero=>exact one a K b g
   | succ m=>
    have e:den P E a (a2.then (den P E (first (m+1) K) (a2.then d Q)) (a2.then d Q)) X Z:=g
    rw [CS] at e <;> skip
    all_goals show den P E a (a2.then (den P E K Q) Q) X Z
    all_goals refine vH (fun O X Z g=>?_) e
    all_goals cases O with
     | normal=>exact bO b g
     | exit R=>exact g
     | ret=>exact g
  | _=>exact key _ (by cases n <;> exact b) (by cases n <;> exact g)
theorem c4(n:Nat){c r:Code}{a:Fr→U→Prop}{Q:a2→Fr→U→Prop}(b:rest n c=r)(d:∀ X Z,a X Z→den P E r Q X Z){X:Fr}{Z:U}(g:den P E (first n c) (a2.then a Q) X Z):den P E c Q X Z:=by
 subst b;exact CT d g
theorem fZ{c a r:Code}{b:Fr→U→Prop}{Q:a2→Fr→U→Prop}(d:c=.seq a r)(e:∀ X Z,b X Z→den P E r Q X Z){X:Fr}{Z:U}(g:den P E a (a2.then b Q) X Z):den P E c Q X Z:=by
 subst d;exact CT (n:=1) e g
theorem fA{c a:Code}{R:Nat}{Q:a2→Fr→U→Prop}(b:c=.block R a){X:Fr}{Z:U}(g:den P E a (a2.inBlock R Q) X Z):den P E c Q X Z:=by
 subst b;exact g
theorem He{c a:Code}{Q:a2→Fr→U→Prop}(b:c=.scope a){X:Fr}{Z:U}(g:den P E a Q X Z):den P E c Q X Z:=by
 subst b;exact g
theorem fK{c K:Code}{Q:a2→Fr→U→Prop}(T:Nat→Fr→U→Prop)(a:c=.loop K)(aV:∀ X Z,T 0 X Z→False)(bI:∀ n X Z,T (n+1) X Z→den P E K (a2.then (T n) Q) X Z)(n:Nat)(X:Fr)(Z:U)(g:T n X Z):den P E c Q X Z:=by
 subst a
 refine⟨n,?_⟩
 induction n generalizing X Z with
 | zero=>exact(aV X Z g).elim
 | succ n bO=>
  show den P E K (a2.then (iter (fun b=>den P E K (a2.then b Q)) n) Q) X Z
  refine vH (fun O X Z g=>?_) (bI n X Z g)
  cases O with
  | normal=>exact bO _ _ g
  | exit R=>exact g
  | ret=>exact g
theorem bR{S:IntKind}{v:Value}{n:Int}{aF:Int→Prop}(O:v=.int S n)(g:aF n):aW S v aF:=by
 subst O;cases S <;> exact g
theorem cY{v:Value}{n:Bool}{aF:Bool→Prop}(O:v=.bool n)(g:aF n):eS v aF:=by subst O;exact g
theorem p9{v:Value}{n:Addr}{aF:Addr→Prop}(O:v=.pointer (some n))(g:aF n):fU v aF:=by subst O;exact g
theorem bD{v:Value}{a:M}{l c:Nat}{aF:M→Nat→Nat→Prop}(O:v=.slice a l c)(g:aF a l c):aU v aF:=by subst O;exact g
theorem eW{v:Value}{l:List Value}{aF:List Value→Prop}(O:v=.agg l.toArray)(g:aF l):eA v aF:=by subst O;exact g
theorem iG{v:Value}{aF:List Value→Prop}(Z:eA v aF):∃ l,v=.agg l.toArray∧aF l:=by
 obtain⟨c9,O,g⟩:=zZ Z;exact⟨c9.toList,by rw [O],g⟩
theorem g7{v:Value}{l:List Value}{aF:List Value→Prop}(O:v=.tuple l.toArray)(g:aF l):c1 v aF:=by subst O;exact g
theorem cK{v:Value}{bV:List Value}{aF:Value→List Value→Prop}(g:aF v bV):cW (v :: bV) aF:=g
theorem dY{aF:Prop}(g:aF):b6 [] aF:=g
theorem dQ(a:hG P E){f:FuncId}{fn:Func}{c:Code}{dE:List ResultVar}(b:P.funcs[f]?=some fn)(d:fn.body=some c)(e:mW E fn.ntmps c=true)(g:fn.results.toList=dE)
  {args:List Value} (h:Nat.ble args.length fn.ntmps=true) {Z:U} {Y:Value→U→Prop}
  (i:den P E c (a7 E dE Y) (tD args) Z):mB P f args.toArray Z Y:=
 GW a b d e g (Nat.le_of_ble_eq_true h) i
end Go.Gv
namespace Go.Gv
abbrev W:Bool:=true
abbrev aR:Bool:=false
abbrev eG(Z:U)(aE:Addr)(aF:Bool→Prop):Prop:=fB Z aE fun v=>eS v aF
abbrev dP(Z:U)(aE:Addr)(aF:M→Nat→Nat→Prop):Prop:=fB Z aE fun v=>aU v aF
abbrev cX(Z:U)(S:IntKind)(aE:Addr)(aF:Int→Prop):Prop:=fB Z aE fun v=>aW S v aF
abbrev e9(l:List Value)(aF:Bool→List Value→Prop):Prop:=cW l fun v aQ=>eS v fun K=>aF K aQ
abbrev cR(l:List Value)(aF:M→Nat→Nat→List Value→Prop):Prop:=cW l fun v aQ=>aU v fun a l c=>aF a l c aQ
abbrev dM(l:List Value)(S:IntKind)(aF:Int→List Value→Prop):Prop:=cW l fun v aQ=>aW S v fun N=>aF N aQ
theorem bE{v:Value}{aF:M→Nat→Nat→Prop}{P:Prop}(g:aU v aF)(f:∀ a l c,v=.slice a l c→aF a l c→P):P:=by
 obtain⟨a,l,c,O,g⟩:=b0 g
 exact f a l c O g
theorem a8{S:IntKind}{v:Value}{aF:Int→Prop}{P:Prop}(g:aW S v aF)(f:∀ N,v=.int S N→aF N→P):P:=by
 obtain⟨N,O,g⟩:=bN g
 exact f N O g
theorem vJ{v:Value}{aF:Bool→Prop}{P:Prop}(g:eS v aF)(f:∀ N,v=.bool N→aF N→P):P:=by
 obtain⟨N,O,g⟩:=iE g
 exact f N O g
theorem hH{v:Value}{aF:Addr→Prop}{P:Prop}(g:fU v aF)(f:∀ N,v=.pointer (some N)→aF N→P):P:=by
 obtain⟨N,O,g⟩:=mH g
 exact f N O g
end Go.Gv
