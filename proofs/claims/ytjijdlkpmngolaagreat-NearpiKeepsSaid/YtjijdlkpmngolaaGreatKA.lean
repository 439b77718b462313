import Derived.Orders
import Derived.Still
import Derived.Below
import Derived.KernelRfl
import Derived.Tactics
import Derived.Laws.Externs
import Derived.Laws.Append
import Derived.Laws.Slices
import Derived.Laws.Entries
import Derived.WalkSpells
import Derived.LoopN
import Derived.Scope
import Derived.Laws.Cells
set_option linter.unusedVariables false
namespace Go.Gv
abbrev S:=Option Addr
abbrev Fr:=Nat→Value
abbrev U:=Array Obj
def k0(X:Fr)(aZ:Nat)(v:Value):Fr:=fun t=>bif Nat.beq t aZ then v else X t
def lT(X:Fr):Option Nat→Value→Fr
 | some aZ,v=>k0 X aZ v
 | none,_=>X
def c3(X:Fr):Operand→Value
 | .tmp t=>X t
 | .const v=>v
 | .global g=>.pointer (some ⟨g,0,none⟩)
 | .func f=>.func (.func f) #[] #[]
def x5(X:Fr):Operand→Bool→Fr
 | .tmp t,K=>k0 X t (.bool K)
 | _,_=>X
theorem x6{X:Fr}{aZ:Nat}{v:Value}(Z:X aZ=v):k0 X aZ v=X:=by
 funext t
 unfold k0
 cases N:Nat.beq t aZ with
 | false=>rfl
 | true=>obtain rfl:=Nat.eq_of_beq_eq_true N;exact Z.symm
theorem Ab{X:Fr}{c:Operand}{K:Bool}(Z:c3 X c=.bool K):x5 X c K=X:=by
 cases c with
 | tmp t=>exact x6 Z
 | _=>rfl
def hB(Z:U)(a:Addr):Option Value:=
 match Z[a.block]? with
 | some (.cells c _ _)=>if a.spot.isSome then none else c[a.off]?
 | _=>none
def mS(Z:U)(a:Addr):Bool:=
 match Z[a.block]? with
 | some (.cells _ _ (bW,a8))=>bW≤a.off && a.off < a8
 | _=>false
def gO(Z:U)(a:Addr)(v:Value):U:=Z.modify a.block fun
   | .cells c elem frozen=>.cells (if a.spot.isSome then c else c.setIfInBounds a.off v) elem frozen
   | aQ=>aQ
theorem Iu(aE:World)(a:Addr):aE.cell? a=hB aE.heap a:=rfl
def jB(Z:U)(p:Addr):Nat→List Value→U
 | _,[]=>Z
 | O,v :: b8=>jB (gO Z (p.add O) v) p (O+1) b8
def qD(Z:U)(p:Addr):Nat→List Value→Prop
 | _,[]=>True
 | O,v :: b8=>hB Z (p.add O)=some v∧qD Z p (O+1) b8
def pO(Z:U)(p:Addr):Nat→Nat→Prop
 | _,0=>True
 | O,n+1=>((∃ v,hB Z (p.add O)=some v)∧mS Z (p.add O)=false)∧pO Z p (O+1) n
structure e2(aE cK:World):Prop where
 os:cK.os=aE.os
 tape:cK.tape=aE.tape
 output:cK.output=aE.output
theorem e2.refl(aE:World):e2 aE aE:=⟨rfl,rfl,rfl⟩
theorem e2.trans{a K c:World}(Z:e2 a K)(R:e2 K c):e2 a c:=⟨R.os.trans Z.os,R.tape.trans Z.tape,R.output.trans Z.output⟩
def n1(P:Program)(f:FuncId)(args:Array Value)(Z:U)(Y:Value→U→Prop):Prop:=
 ∀ aE:World,aE.heap=Z→Calls P f args aE fun N cK=>∃ v,N=.returned v∧e2 aE cK∧Y v cK.heap
theorem n1.mono{P:Program}{f:FuncId}{args:Array Value}{Z:U}{Y hC:Value→U→Prop}(a:n1 P f args Z Y)(b:∀ v aB,Y v aB→hC v aB):n1 P f args Z hC:=
 fun aE c=>(a aE c).mono fun _ _ ⟨v,N,aG,r⟩=>⟨v,N,aG,b _ _ r⟩
inductive h3 where
 | int (R:IntKind) | bool | str | slice | ptr
inductive rC where
 | int (R:IntKind) | bool | str | slice (N:TypeId) | ptr (N:TypeId) | struct (fI:List (Nat × TypeId)) | tuple (kQ:List TypeId)
structure dW where
 ty:rC
 leaves:List h3
 bytes:Nat
inductive sJ where
 | body | quiet | rD | rE
def BP:Array Value→Sem Value:=fun args=>do
 let (L,aT,K) ← Extern.MathBitsCarry.three "Sub64" args
 pure (Extern.MathBitsCarry.pair ((L+Extern.MathBitsCarry.m64 - aT - K) % Extern.MathBitsCarry.m64) (if L < aT+K then 1 else 0))
structure Env where
 types:List (Nat × dW)
 fns:List (Nat × sJ)
 BQ:List (Nat × (Nat × TypeId)):=[]
def look{dF:Type}:List (Nat × dF)→Nat→Option dF
 | [],_=>none
 | (R,L) :: l,n=>bif Nat.beq R n then some L else look l n
theorem Ac{dF:Type}{l:List (Nat × dF)}{n:Nat}{L:dF}(Z:look l n=some L):(n,L) ∈ l:=by
 induction l with
 | nil=>simp [look] at Z
 | cons p l bZ=>
  obtain⟨R,aT⟩:=p
  unfold look at Z
  cases N:Nat.beq R n with
  | false=>rw [N] at Z;exact List.mem_cons_of_mem _ (bZ Z)
  | true=>
   obtain rfl:=Nat.eq_of_beq_eq_true N
   rw [N] at Z
   cases Z
   exact List.mem_cons_self
def rF:IntKind→IntKind→Bool
 | .i8,.i8 | .i16,.i16 | .i32,.i32 | .i64,.i64 | .u8,.u8 | .u16,.u16 | .u32,.u32 | .u64,.u64=>true
 | _,_=>false
theorem Ad{aD R:IntKind}(Z:rF aD R=true):aD=R:=by cases aD <;> cases R <;> first | rfl | cases Z
def h3.zero:h3→Value
 | .int R=>.int R 0
 | .bool=>.bool false
 | .str=>.string ByteArray.empty
 | .slice=>.slice none 0 0
 | .ptr=>.pointer none
def BR:h3→Value→Bool
 | .int R,.int c1 n=>rF R c1 && n == 0
 | .bool,.bool K=>!K
 | .str,.string aG=>aG.size == 0
 | .slice,.slice none 0 0=>true
 | .ptr,.pointer none=>true
 | _,_=>false
theorem Iv{R:h3}{v:Value}(Z:BR R v=true):v=R.zero:=by
 cases R <;> cases v <;> simp only [BR,Bool.and_eq_true,Bool.false_eq_true] at Z
 ·obtain⟨a1,a⟩:=Z
  rw [← Ad a1]
  simp at a
  simp [h3.zero,a]
 ·simp at Z;simp [h3.zero,Z]
 ·rename_i aG
  have:aG=ByteArray.empty:=by
   apply ByteArray.ext
   have aB:aG.size=0:=by simpa using Z
   exact Array.eq_empty_of_size_eq_zero aB
  rw [this];rfl
 ·split at Z <;> simp_all [h3.zero]
 ·split at Z <;> simp_all [h3.zero]
def wF:List h3→List Value→Bool
 | [],[]=>true
 | R :: a,v :: b8=>BR R v && wF a b8
 | _,_=>false
theorem DZ:∀ {a:List h3} {b8:List Value},wF a b8=true→b8=a.map h3.zero
 | [],[],_=>rfl
 | R :: a,v :: b8,Z=>by
  simp only [wF,Bool.and_eq_true] at Z
  rw [Iv Z.1,DZ Z.2];rfl
 | [],_ :: _,Z=>by simp [wF] at Z
 | _ :: _,[],Z=>by simp [wF] at Z
def qE:Option TypeDesc→rC→Bool
 | some (.int R),.int c1=>rF R c1
 | some .bool,.bool=>true
 | some .string,.str=>true
 | some (.slice N),.slice a=>Nat.beq N a
 | some (.pointer N),.ptr a=>Nat.beq N a
 | some (.struct fI),.struct a=>decide (fI.toList.map (fun f=>(f.offset,f.type))=a)
 | some (.tuple kQ),.tuple b=>decide (kQ.toList=b)
 | some (.array _ _),.struct a=>a.isEmpty
 | _,_=>false
def lI(P:Program)(t:TypeId)(O:dW):Bool:=
 qE (P.underlying t) O.ty && match P.info? t with
  | some inf=>Nat.beq inf.size O.leaves.length && Nat.beq inf.bytes O.bytes && match O.ty with
   | .tuple _=>true
   | _=>match inf.zero with
    | some bS=>wF O.leaves bS.cells.toList
    | none=>false
  | none=>false
def BS(P:Program)(f:FuncId)(R:sJ):Bool:=
 match P.funcs[f]? with
 | some fn=>match R with
  | .body | .quiet=>fn.body.isSome && !(fn.name == "runtime.NumGoroutine")
  | .rD | .rE=>fn.body.isNone && !(fn.name == "runtime.NumGoroutine")
 | none=>false
def D0(P:Program)(t:TypeId)(p:Nat × TypeId):Bool:=
 match P.underlying t with
 | some (.array n N)=>Nat.beq n p.1 && Nat.beq N p.2
 | _=>false
def D1(P:Program)(E:Env):Bool:=((E.types.all fun (t,O)=>lI P t O) && (E.fns.all fun (f,R)=>BS P f R)) && E.BQ.all fun (t,p)=>D0 P t p
def eU(v:Value)(aH:Bool→Prop):Prop:=match v with | .bool K=>aH K | _=>False
def a0(R:IntKind)(v:Value)(aH:Int→Prop):Prop:=match v with | .int c1 n=>(bif rF R c1 then aH n else False) | _=>False
def Ae(v:Value)(aH:ByteArray→Prop):Prop:=match v with | .string aG=>aH aG | _=>False
def aR(v:Value)(aH:S→Nat→Nat→Prop):Prop:=match v with | .slice a l c=>aH a l c | _=>False
def gW(v:Value)(aH:Addr→Prop):Prop:=match v with | .pointer (some aI)=>aH aI | _=>False
def Af(v:Value)(aH:S→Prop):Prop:=match v with | .pointer a=>aH a | _=>False
def uN:h3→Value→(Value→Prop)→Prop
 | .int R,v,aH=>a0 R v fun n=>aH (.int R n)
 | .bool,v,aH=>eU v fun K=>aH (.bool K)
 | .str,v,aH=>Ae v fun aG=>aH (.string aG)
 | .slice,v,aH=>aR v fun a l c=>aH (.slice a l c)
 | .ptr,v,aH=>Af v fun a=>aH (.pointer a)
def cV(l:List Value)(aH:Value→List Value→Prop):Prop:=match l with | v :: b8=>aH v b8 | []=>False
def b9(l:List Value)(aH:Prop):Prop:=match l with | []=>aH | _=>False
def x7:List h3→List Value→(List Value→Prop)→Prop
 | [],l,aH=>b9 l (aH [])
 | R :: a,l,aH=>cV l fun v b8=>uN R v fun b=>x7 a b8 fun a=>aH (b :: a)
def eQ(v:Value)(aH:List Value→Prop):Prop:=match v with | .agg dR=>aH dR.toList | _=>False
def cW(v:Value)(aH:List Value→Prop):Prop:=match v with | .tuple dR=>aH dR.toList | _=>False
def uO(O:dW)(v:Value)(aH:Value→Prop):Prop:=
 match O.ty with
 | .struct _=>eQ v fun l=>x7 O.leaves l fun b8=>aH (.agg b8.toArray)
 | _=>match O.leaves with
  | [R]=>uN R v aH
  | _=>False
def wG(E:Env):List TypeId→List Value→(List Value→Prop)→Prop
 | [],l,aH=>b9 l (aH [])
 | t :: kQ,l,aH=>cV l fun v b8=>match look E.types t with
  | some O=>uO O v fun a=>wG E kQ b8 fun b=>aH (a :: b)
  | none=>False
def sK(E:Env)(t:TypeId)(v:Value)(aH:Value→Prop):Prop:=
 match look E.types t with
 | some O=>match O.ty with
  | .tuple kQ=>cW v fun l=>wG E kQ l fun b8=>aH (.tuple b8.toArray)
  | _=>uO O v aH
 | none=>aH v
def iQ(R:IntKind)(L aT:Int):Int:=R.wrap (L*2 ^ (min aT.toNat R.bits))
def hG(R:IntKind)(L aT:Int):Int:=L.fdiv (2 ^ (min aT.toNat R.bits))
def j1(R:IntKind)(L aT:Int):Int:=R.wrap (BitVec.ofInt R.bits L &&& BitVec.ofInt R.bits aT).toNat
def wH(R:IntKind)(L aT:Int):Int:=R.wrap (BitVec.ofInt R.bits L ||| BitVec.ofInt R.bits aT).toNat
def D2(R:IntKind)(L aT:Int):Int:=R.wrap (BitVec.ofInt R.bits L ^^^ BitVec.ofInt R.bits aT).toNat
def Iw(R:IntKind)(L aT:Int):Int:=R.wrap (BitVec.ofInt R.bits L &&& ~~~(BitVec.ofInt R.bits aT)).toNat
structure bB(n:Int)(aH:Int→Prop):Prop where
 out:aH n
def Ag(op:BinOp)(R:IntKind)(a K:Int)(aH:Value→Prop):Prop:=
 match op with
 | .add=>bB (R.wrap (a+K)) fun n=>aH (.int R n)
 | .sub=>bB (R.wrap (a - K)) fun n=>aH (.int R n)
 | .mul=>bB (R.wrap (a*K)) fun n=>aH (.int R n)
 | .quo=>K ≠ 0∧bB (R.wrap (a.tdiv K)) fun n=>aH (.int R n)
 | .rem=>K ≠ 0∧bB (a.tmod K) fun n=>aH (.int R n)
 | .and=>bB (j1 R a K) fun n=>aH (.int R n)
 | .or=>bB (wH R a K) fun n=>aH (.int R n)
 | .xor=>bB (D2 R a K) fun n=>aH (.int R n)
 | .andNot=>bB (Iw R a K) fun n=>aH (.int R n)
 | .eql=>aH (.bool (a == K))
 | .neq=>aH (.bool (a != K))
 | .lss=>aH (.bool (decide (a < K)))
 | .leq=>aH (.bool (decide (a≤K)))
 | .gtr=>aH (.bool (decide (a > K)))
 | .geq=>aH (.bool (decide (a≥K)))
 | _=>False
def wI(E:Env)(op:BinOp)(t:TypeId)(L aT:Value)(aH:Value→Prop):Prop:=
 match L,aT with
 | .int R a,.int c1 K=>
  match op with
  | .shl=>0≤K∧bB (iQ R a K) fun n=>aH (.int R n)
  | .shr=>0≤K∧bB (hG R a K) fun n=>aH (.int R n)
  | op=>bif rF R c1 then Ag op R a K aH else False
 | .string a,.string K=>
  match op with
  | .add=>(((a.size+K.size:Nat):Int)≤9223372036854775807)∧aH (.string (a ++ K))
  | .eql=>aH (.bool (a.toList == K.toList))
  | .neq=>aH (.bool (!(a.toList == K.toList)))
  | _=>False
 | .bool a,.bool K=>
  match look E.types t with
  | some ⟨.bool,_,_⟩=>(match op with
   | .eql=>aH (.bool (a == K))
   | .neq=>aH (.bool (!(a == K)))
   | _=>False)
  | _=>False
 | .slice a _ _,.slice none _ _=>
  match look E.types t with
  | some ⟨.slice _,_,_⟩=>(match op with
   | .eql=>aH (.bool a.isNone)
   | .neq=>aH (.bool (!a.isNone))
   | _=>False)
  | _=>False
 | _,_=>False
def Ix(R:IntKind)(n:Int):Int:=D2 R (bif R.signed then -1 else R.max) n
def wJ(op:UnOp)(L:Value)(aH:Value→Prop):Prop:=
 match op,L with
 | .neg,.int R n=>bB (R.wrap (0 - n)) fun n=>aH (.int R n)
 | .xor,.int R n=>bB (Ix R n) fun n=>aH (.int R n)
 | .not,.bool K=>aH (.bool (!K))
 | _,_=>False
def c6(a:S)(l:Nat)(O:Int)(jC:Nat)(aH:Addr→Prop):Prop:=
 (0≤O∧O < (l:Int))∧match a with
  | some p=>aH (p.add (O.toNat*jC))
  | none=>False
def x8(aG:ByteArray)(O:Int)(aH:Int→Prop):Prop:=
 0≤O∧match aG[O.toNat]? with
  | some K=>aH K.toNat
  | none=>False
def fZ(Z:U)(aI:Addr)(aH:Value→Prop):Prop:=match hB Z aI with | some v=>aH v | none=>False
def wK(Z:U)(aI:Addr):Nat→List h3→(List Value→Prop)→Prop
 | _,[],aH=>aH []
 | O,R :: a,aH=>fZ Z (aI.add O) fun v=>uN R v fun b=>wK Z aI (O+1) a fun b8=>aH (b :: b8)
def wL(O:dW)(Z:U)(aI:Addr)(aH:Value→Prop):Prop:=
 match O.ty with
 | .struct _=>wK Z aI 0 O.leaves fun b8=>aH (.agg b8.toArray)
 | .tuple _=>False
 | _=>match O.leaves with
  | [R]=>fZ Z aI fun v=>uN R v aH
  | _=>False
def qF(v:Option Value)(a aT:Nat)(aH:Nat→Prop):Prop:=
 match v with
 | none=>aH a
 | some (.int _ O)=>(0≤O∧O≤(aT:Int))∧aH O.toNat
 | _=>False
def jT(a:S)(m l jC:Nat):S:=if m=l then a else a.map (·.add (l*jC))
def iR(jC:Nat)(a:S)(len cap:Nat)(bW a8 b:Option Value)(aH:S→Nat→Nat→Prop):Prop:=
 match a8,b with
 | none,some _=>False
 | _,_=>qF b cap cap fun m=>qF a8 len m fun Z=>qF bW 0 Z fun l=>aH (jT a m l jC) (Z - l) (m - l)
def x9(aG:ByteArray)(bW a8:Option Value)(aH:ByteArray→Prop):Prop:=
 qF a8 aG.size aG.size fun Z=>qF bW 0 Z fun l=>aH (aG.extract l Z)
def BT(cells:List Value)(off:Nat)(b8:List Value):List Value:=cells.take off ++ (b8 ++ cells.drop (off+b8.length))
def wM(place:Nat→Option (Nat × Nat))(cells:List Value):List (Nat × Value)→Option (List Value)
 | []=>some cells
 | (O,v) :: rest=>
  match place O with
  | none=>none
  | some (off,size)=>bif Nat.beq v.cells.toList.length size && Nat.ble (off+v.cells.toList.length) cells.length then wM place (BT cells off v.cells.toList) rest else none
def BU(E:Env)(fI:List (Nat × TypeId))(f:Nat):Option (Nat × Nat):=
 match fI[f]? with
 | some (off,t)=>match look E.types t with
  | some O=>some (off,O.leaves.length)
  | none=>none
 | none=>none
def uP(E:Env):List (Nat × TypeId)→Bool
 | []=>true
 | (_,t) :: l=>match look E.types t with
  | some _=>uP E l
  | none=>false
def n2:Value→List Value→(Value→Prop)→Prop
 | L,[],aH=>aH L
 | .int R L,.int _ aT :: rest,aH=>n2 (.int R (if aT > L then aT else L)) rest aH
 | _,_,_=>False
def n3:Value→List Value→(Value→Prop)→Prop
 | L,[],aH=>aH L
 | .int R L,.int _ aT :: rest,aH=>n3 (.int R (if aT < L then aT else L)) rest aH
 | _,_,_=>False
def yA(E:Env)(t:TypeId)(v:Value)(aH:Value→Prop):Prop:=
 match look E.types t,v with
 | some ⟨.slice _,_,_⟩,.slice _ n _=>aH (.int .i64 (n:Int))
 | some ⟨.str,_,_⟩,.string aG=>aH (.int .i64 (aG.size:Int))
 | _,_=>False
def oV(L aT bS:Int)(aH:Int→Int→Prop):Prop:=(0≤L∧0≤aT∧0≤bS∧bS≤1)∧aH ((L+aT+bS) % 18446744073709551616) ((L+aT+bS) / 18446744073709551616)
def sL(L aT bS:Int)(aH:Int→Int→Prop):Prop:=(0≤L∧0≤aT∧0≤bS∧bS≤1∧aT < 18446744073709551616)∧aH ((L - aT - bS) % 18446744073709551616) (if L < aT+bS then 1 else 0)
def wN(E:Env)(c:Call)(X:Fr)(aH:Value→Prop):Prop:=
 match c.callee with
 | .builtin .len=>(match c.args.toList,c.argTypes.toList with
  | L :: _,t :: _=>yA E t (c3 X L) aH
  | _,_=>False)
 | .builtin .max=>(match c.args.toList.map (c3 X) with
  | L :: rest=>n2 L rest aH
  | []=>False)
 | .builtin .min=>(match c.args.toList.map (c3 X) with
  | L :: rest=>n3 L rest aH
  | []=>False)
 | .value (.func f)=>(match look E.fns f with
  | some .rD=>(match c.args.toList.map (c3 X) with
   | [.int .u64 L,.int .u64 aT,.int .u64 bS]=>oV L aT bS fun aG c=>aH (.tuple #[.int .u64 aG,.int .u64 c])
   | _=>False)
  | some .rE=>(match c.args.toList.map (c3 X) with
   | [.int .u64 L,.int .u64 aT,.int .u64 bS]=>sL L aT bS fun aG c=>aH (.tuple #[.int .u64 aG,.int .u64 c])
   | _=>False)
  | _=>False)
 | _=>False
def iJ(E:Env)(op:Op)(X:Fr)(Z:U)(aH:Value→Prop):Prop:=
 match op with
 | .move L=>aH (c3 X L)
 | .assign L=>aH (c3 X L)
 | .pick c a K=>(match c3 X c with
  | .bool t=>cond t (aH (c3 X a)) (aH (c3 X K))
  | _=>False)
 | .load t a=>(match c3 X a,look E.types t with
  | .pointer (some aI),some O=>wL O Z aI aH
  | _,_=>False)
 | .binOp op t L aT _=>wI E op t (c3 X L) (c3 X aT) aH
 | .unOp op _ L=>wJ op (c3 X L) aH
 | .convert aG aZ L=>(match look E.types aG,look E.types aZ,c3 X L with
  | some ⟨.int _,_,_⟩,some ⟨.int R,_,_⟩,.int _ n=>bB (R.wrap n) fun n=>aH (.int R n)
  | _,_,_=>False)
 | .indexAddr t L O=>(match look E.types t,c3 X L,c3 X O with
  | some ⟨.slice N,_,_⟩,.slice a l _,.int _ n=>(match look E.types N with
   | some b=>c6 a l n b.leaves.length fun aI=>aH (.pointer (some aI))
   | none=>False)
  | _,.pointer (some aI),.int _ n=>(match look E.BQ t with
   | some (m,N)=>(match look E.types N with
    | some b=>c6 (some aI) m n b.leaves.length fun aI=>aH (.pointer (some aI))
    | none=>False)
   | none=>False)
  | _,_,_=>False)
 | .index t L O=>(match look E.types t,c3 X L,c3 X O with
  | some ⟨.str,_,_⟩,.string aG,.int _ n=>x8 aG n fun K=>aH (.int .u8 K)
  | _,_,_=>False)
 | .extract L O=>(match c3 X L with
  | .tuple b8=>(match b8.toList[O]? with
   | some v=>aH v
   | none=>False)
  | _=>False)
 | .fieldAddr aG L f=>(match c3 X L,look E.types aG with
  | .pointer (some aI),some ⟨.struct fI,_,_⟩=>(match fI[f]? with
   | some (off,t)=>(match look E.types t with
    | some O=>bif Nat.beq O.leaves.length 0 then False else aH (.pointer (some (aI.add off)))
    | none=>False)
   | none=>False)
  | _,_=>False)
 | .field t L f=>(match c3 X L,look E.types t with
  | .agg dR,some ⟨.struct fI,_,_⟩=>(match fI[f]? with
   | some (off,d)=>(match look E.types d with
    | some ⟨.struct _,gH,_⟩=>aH (.agg ((dR.toList.drop off).take gH.length).toArray)
    | some ⟨.tuple _,_,_⟩=>False
    | some _=>(match dR.toList[off]? with
     | some v=>aH v
     | none=>False)
    | none=>False)
   | none=>False)
  | _,_=>False)
 | .build t parts=>(match look E.types t with
  | some ⟨.struct fI,gH,_⟩=>bif !fI.isEmpty && uP E fI then(match wM (BU E fI) (gH.map h3.zero) (parts.toList.map fun (O,L)=>(O,c3 X L)) with
   | some cells=>aH (.agg cells.toArray)
   | none=>False) else False
  | _=>False)
 | .nilCheck L=>(match c3 X L with
  | .pointer (some aI)=>aH (.pointer (some aI))
  | _=>False)
 | .slice t L bW a8 d=>(match look E.types t,c3 X L with
  | some ⟨.slice N,_,_⟩,.slice a l c=>(match look E.types N with
   | some b=>iR b.leaves.length a l c (bW.map (c3 X)) (a8.map (c3 X)) (d.map (c3 X)) fun a l c=>aH (.slice a l c)
   | none=>False)
  | some ⟨.str,_,_⟩,.string aG=>(match d with
   | none=>x9 aG (bW.map (c3 X)) (a8.map (c3 X)) fun aG=>aH (.string aG)
   | some _=>False)
  | _,_=>False)
 | .call c=>wN E c X aH
 | _=>False
def iD(a9:List Value):Nat→List Value
 | 0=>[]
 | n+1=>a9 ++ iD a9 n
def dW.a9(O:dW):List Value:=O.leaves.map h3.zero
def dX(Z:U)(N:TypeId)(cells:List Value)(aH:Addr→U→Prop):Prop:=aH ⟨Z.size,0,none⟩ (Z.push (.cells cells.toArray N (0,0)))
def iS(Z:U)(N:TypeId)(O:dW)(n m:Int)(aH:Addr→U→Prop):Prop:=
 (0≤n∧n≤m∧1≤O.bytes∧(O.bytes:Int)*m≤281474976710656)∧
  aH ⟨Z.size,0,none⟩ (Z.push (.cells (iD O.a9 m.toNat).toArray N (0,0)))
def n4:Value→Bool
 | .agg _ | .tuple _=>false
 | _=>true
def cM(Z:U)(aI:Addr)(v:Value)(aH:U→Prop):Prop:=
 ((∃ aQ,hB Z aI=some aQ)∧mS Z aI=false)∧aH (gO Z aI v)
def uQ(Z:U)(aI:Addr):Nat→List Value→(U→Prop)→Prop
 | _,[],aH=>aH Z
 | O,v :: b8,aH=>bif n4 v then cM Z (aI.add O) v fun aB=>uQ aB aI (O+1) b8 aH else False
def wO(O:dW)(Z:U)(aI:Addr)(v:Value)(aH:U→Prop):Prop:=
 match v with
 | .agg dR=>bif Nat.beq dR.toList.length O.leaves.length then uQ Z aI 0 dR.toList aH else False
 | .tuple _=>False
 | v=>bif Nat.beq 1 O.leaves.length then cM Z aI v aH else False
def yB(Z:U)(jC:Nat)(L:Value)(n:Nat)(dR:List Value):Prop:=
 dR.length=n*jC∧(∀ v ∈ dR,n4 v=true)∧match L with
  | .slice (some K) _ _=>qD Z K 0 dR
  | .slice none _ _=>dR=[]
  | .string aG=>dR=(aG.extract 0 n).data.toList.map fun K=>.int .u8 K.toNat
  | _=>False
def Ah:Value→Option Nat
 | .slice _ n _=>some n
 | .string aG=>some aG.size
 | _=>none
def g3(Z:U)(N:TypeId)(O:dW)(a:S)(l c:Nat)(L:Value)(aH:S→Nat→Nat→U→Prop):Prop:=
 ∃ n dR,Ah L=some n∧yB Z O.leaves.length L n dR∧
  (l+n≤c→match a with
   | some p=>pO Z (p.add (l*O.leaves.length)) 0 dR.length∧aH a (l+n) c (jB Z (p.add (l*O.leaves.length)) 0 dR)
   | none=>aH a (l+n) c Z)∧
  (¬ l+n≤c→Builtin.nextslicecap (l+n) c*O.bytes≤281474976710656∧1≤O.bytes∧l+n≤9223372036854775807∧
   ∃ oW,yB Z O.leaves.length (.slice a l c) l oW∧
    ∀ b,l+n≤b→aH (some ⟨Z.size,0,none⟩) (l+n) b (Z.push (.cells (oW ++ (dR ++ iD O.a9 (b - (l+n)))).toArray N (0,0))))
def n5(Z:U)(jC:Nat)(a:S)(l:Nat)(L:Value)(aH:Int→U→Prop):Prop:=
 ∃ n dR,Ah L=some n∧yB Z jC L (Nat.min n l) dR∧match a with
  | some p=>pO Z p 0 dR.length∧aH (Nat.min n l:Int) (jB Z p 0 dR)
  | none=>aH (Nat.min n l:Int) Z
def Ai(Z:U)(O:dW)(a:S)(l:Nat)(aH:U→Prop):Prop:=
 match a,l with
 | none,_=>aH Z
 | some _,0=>aH Z
 | some p,l+1=>pO Z p 0 ((l+1)*O.leaves.length)∧aH (jB Z p 0 (iD O.a9 (l+1)))
def wP(E:Env)(t:TypeId):Bool:=
 match look E.types t with
 | some ⟨.slice _,_,_⟩=>true
 | some ⟨.str,_,_⟩=>true
 | _=>false
def Iy(Z:U)(aG:ByteArray)(aH:Addr→U→Prop):Prop:=aH ⟨Z.size,0,none⟩ (Z.push (.stringIter aG 0))
def D3(Z:U)(K:Nat)(aG:ByteArray)(pos:Nat):U:=Z.setIfInBounds K (.stringIter aG pos)
def Aj(Z:U)(aI:Addr)(a:Int→Int→U→Prop)(b:Prop):Prop:=
 aI.off=0∧∃ aG pos,Z[aI.block]?=some (.stringIter aG pos)∧(pos < aG.size→a (pos:Int) ((Utf8.decode aG pos).1:Int) (D3 Z aI.block aG (pos+(Utf8.decode aG pos).2)))∧(¬ pos < aG.size→b)
def Ak(Z:U)(a:S)(l:Nat)(aH:ByteArray→Prop):Prop:=
 match a with
 | none=>aH ByteArray.empty
 | some p=>∃ b:List UInt8,b.length=l∧qD Z p 0 (b.map fun K=>.int .u8 K.toNat)∧aH ⟨b.toArray⟩
def j2(P:Program)(E:Env)(op:Op)(t0:TypeId)(X:Fr)(Z:U)(aH:Value→U→Prop):Prop:=
 match op with
 | .range t L=>(match look E.types t,c3 X L with
  | some ⟨.str,_,_⟩,.string aG=>Iy Z aG fun p aB=>aH (.pointer (some p)) aB
  | _,_=>False)
 | .next b K=>cond K (match c3 X b with
  | .pointer (some aI)=>Aj Z aI (fun O c aB=>aH (.tuple #[.bool true,.int .i64 O,.int .i32 c]) aB) (aH (.tuple #[.bool false]) Z)
  | _=>False) False
 | .convert aG aZ L=>(match look E.types aG,look E.types aZ,c3 X L with
  | some ⟨.slice N,_,_⟩,some ⟨.str,_,_⟩,.slice a l _=>(match look E.types N with
   | some ⟨.int .u8,_,_⟩=>Ak Z a l fun t=>aH (.string t) Z
   | _=>False)
  | _,_,_=>False)
 | .store t L v=>(match c3 X L,look E.types t with
  | .pointer (some aI),some O=>wO O Z aI (c3 X v) (fun aB=>aH undef aB)
  | _,_=>False)
 | .box N v=>dX Z N (c3 X v).cells.toList fun p aB=>aH (.pointer (some p)) aB
 | .alloc N=>(match look E.types N with
  | some ⟨.tuple _,_,_⟩=>False
  | some O=>dX Z N O.a9 fun p aB=>aH (.pointer (some p)) aB
  | none=>False)
 | .makeSlice t l c=>(match look E.types t,c3 X l,c3 X c with
  | some ⟨.slice N,_,_⟩,.int _ n,.int _ m=>(match look E.types N with
   | some ⟨.tuple _,_,_⟩=>False
   | some O=>iS Z N O n m fun p aB=>aH (.slice (some p) n.toNat m.toNat) aB
   | none=>False)
  | _,_,_=>False)
 | .buildSlice t n parts=>(match look E.types t with
  | some ⟨.slice N,_,_⟩=>(match look E.types N with
   | some ⟨.tuple _,_,_⟩=>False
   | some O=>bif Nat.ble (n*O.leaves.length) 16777216 then(match wM (fun aD=>some (aD*O.leaves.length,O.leaves.length)) (iD O.a9 n) (parts.toList.map fun (aD,L)=>(aD,c3 X L)) with
    | some cells=>dX Z N cells fun p aB=>aH (.slice (some p) n n) aB
    | none=>False) else False
   | none=>False)
  | _=>False)
 | .call c=>(match c.callee with
  | .builtin .append=>(match c.args.toList,c.argTypes.toList with
   | [aG,L],[t,d]=>bif wP E d then(match look E.types t,c3 X aG with
    | some ⟨.slice N,_,_⟩,.slice a l e=>(match look E.types N with
     | some ⟨.tuple _,_,_⟩=>False
     | some O=>g3 Z N O a l e (c3 X L) fun a l c aB=>aH (.slice a l c) aB
     | none=>False)
    | _,_=>False) else False
   | _,_=>False)
  | .builtin .copy=>(match c.args.toList,c.argTypes.toList with
   | [aZ,L],t :: _=>(match look E.types t,c3 X aZ with
    | some ⟨.slice N,_,_⟩,.slice a l _=>(match look E.types N with
     | some ⟨.tuple _,_,_⟩=>False
     | some O=>n5 Z O.leaves.length a l (c3 X L) fun n aB=>aH (.int .i64 n) aB
     | none=>False)
    | _,_=>False)
   | _,_=>False)
  | .builtin .clear=>(match c.args.toList,c.argTypes.toList with
   | [aZ],[t]=>(match look E.types t,c3 X aZ with
    | some ⟨.slice N,_,_⟩,.slice a l _=>(match look E.types N with
     | some ⟨.tuple _,_,_⟩=>False
     | some O=>Ai Z O a l fun aB=>aH (.tuple #[]) aB
     | none=>False)
    | _,_=>False)
   | _,_=>False)
  | .value (.func f)=>(match look E.fns f with
   | some .body=>n1 P f (c.args.toList.map (c3 X)).toArray Z fun v aB=>sK E t0 v fun g=>aH g aB
   | _=>False)
  | _=>False)
 | _=>False
def D4(P:Program)(f:FuncId)(args:Array Value)(Z:U)(aH:Value→Prop):Prop:=∃ v,n1 P f args Z (fun a aB=>a=v∧aB=Z)∧aH v
def uR(P:Program)(E:Env)(op:Op)(t0:TypeId)(X:Fr)(Z:U)(aH:Value→Prop):Prop:=
 match op with
 | .call c=>(match c.callee with
  | .value (.func f)=>D4 P f (c.args.toList.map (c3 X)).toArray Z fun v=>sK E t0 v aH
  | _=>False)
 | _=>False
inductive BV where
 | pure | load | quiet | call | act
def gP(E:Env):Op→BV
 | .load ..=>.load
 | .move _ | .assign _ | .pick .. | .binOp .. | .unOp .. | .indexAddr .. | .index .. | .extract .. | .fieldAddr .. | .field .. | .build .. | .nilCheck _ | .slice ..=>.pure
 | .convert aG _ _=>(match look E.types aG with
  | some ⟨.slice _,_,_⟩=>.act
  | _=>.pure)
 | .call c=>(match c.callee with
  | .builtin .len | .builtin .max | .builtin .min=>.pure
  | .value (.func f)=>(match look E.fns f with
   | some .rD | some .rE=>.pure
   | some .quiet=>.quiet
   | _=>.call)
  | _=>.act)
 | .alloc _ | .box .. | .makeSlice .. | .buildSlice ..=>.call
 | _=>.act
def e4(c4:Nat)(Z aB:U):Prop:=∀ K,K < c4→aB[K]?=Z[K]?
def Iz(c4:Nat)(L:Value):Prop:=match L with | .pointer (some aI)=>aI.block < c4 | _=>False
def n6(P:Program)(E:Env)(md:Bool)(c4:Nat)(aQ:Oper)(X:Fr)(Z:U)(aH:Value→U→Prop):Prop:=
 match gP E aQ.op with
 | .pure=>iJ E aQ.op X Z (fun v=>aH v Z)
 | .load=>cond md (match aQ.op with
  | .load _ a=>Iz c4 (c3 X a)∧iJ E aQ.op X Z (fun v=>aH v Z)
  | _=>False) (iJ E aQ.op X Z (fun v=>aH v Z))
 | .quiet=>uR P E aQ.op aQ.type X Z (fun v=>aH v Z)
 | .call=>cond md (j2 P E aQ.op aQ.type X Z fun v aB=>e4 c4 Z aB∧aH v aB) (j2 P E aQ.op aQ.type X Z aH)
 | .act=>j2 P E aQ.op aQ.type X Z aH
def yC(all:List Oper)(aD:Nat):Option Nat:=match all[aD]? with | some aQ=>aQ.dst | none=>none
def j3(P:Program)(E:Env)(md:Bool)(c4:Nat)(all:List Oper):List Oper→Fr→U→(Fr→U→Prop)→Prop
 | [],X,Z,aH=>aH X Z
 | aQ :: rest,X,Z,aH=>
  match aQ.guard with
  | none=>n6 P E md c4 aQ X Z fun v aB=>j3 P E md c4 all rest (lT X aQ.dst v) aB aH
  | some (aD,want)=>
   match yC all aD with
   | none=>False
   | some t=>
    match X t with
    | .bool K=>cond K
      (cond want (n6 P E md c4 aQ (k0 X t (.bool true)) Z fun v aB=>j3 P E md c4 all rest (lT (k0 X t (.bool true)) aQ.dst v) aB aH)
       (j3 P E md c4 all rest (lT (k0 X t (.bool true)) aQ.dst undef) Z aH))
      (cond want (j3 P E md c4 all rest (lT (k0 X t (.bool false)) aQ.dst undef) Z aH)
       (n6 P E md c4 aQ (k0 X t (.bool false)) Z fun v aB=>j3 P E md c4 all rest (lT (k0 X t (.bool false)) aQ.dst v) aB aH))
    | .tuple _=>j3 P E md c4 all rest (lT X aQ.dst undef) Z aH
    | _=>False
def k1(md:Bool):BV→BV→Bool
 | .pure,_ | _,.pure=>true
 | .load,.load | .quiet,.quiet=>true
 | .load,.quiet | .quiet,.load=>true
 | .load,.call | .call,.load=>md
 | _,_=>false
def qG(a:List Nat):List Edge→Nat
 | []=>0
 | N :: l=>bif Region.binds .any N then(2 ^ N.on ||| a.getD N.on 0) ||| qG a l else qG a l
def lU(a:List Nat):List Oper→List Nat
 | []=>a
 | aQ :: l=>lU (a ++ [qG a aQ.after.toList]) l
def uS(ops:List Oper):Bool:=(List.range ops.length).all fun O=>match ops[O]? with
 | some aQ=>aQ.after.toList.all fun N=>!Region.binds .any N || Nat.blt N.on O
 | none=>true
def D5(E:Env)(md:Bool)(ops:List Oper)(a:List Nat)(O aD:Nat):Bool:=
 match ops[O]?,ops[aD]? with
 | some b,some c=>(a.getD O 0).testBit aD || (c.apart ops.toArray b && k1 md (gP E c.op) (gP E b.op))
 | _,_=>true
def uT(E:Env)(md:Bool)(ops:List Oper):Bool:=
 Region.noSelect ops.toArray && uS ops && (List.range ops.length).all fun O=>(List.range O).all fun aD=>D5 E md ops (lU [] ops) O aD
def rG(E:Env)(draw:Bool)(ops:List Oper):Bool:=draw && !uT E false ops
def yD(E:Env)(draw:Bool)(ops:List Oper):Bool:=draw && !uT E false ops && !uT E true ops
def qH(a:List Nat)(todo:List Nat)(O:Nat):Bool:=todo.all fun aD=>!(a.getD O 0).testBit aD
def D6(E:Env)(all:List Oper)(a:List Nat)(todo:List Nat)(O:Nat):Bool:=
 qH a todo O && todo.all fun aD=>Nat.beq aD O || (a.getD aD 0).testBit O || (match all[O]?,all[aD]? with
  | some a,some b=>a.apart all.toArray b && k1 true (gP E a.op) (gP E b.op)
  | _,_=>false)
def del(todo:List Nat)(O:Nat):List Nat:=todo.filter fun aD=>!Nat.beq aD O
def yE(f:Nat→Prop):List Nat→Prop
 | []=>True
 | [O]=>f O
 | O :: aD :: l=>f O∧yE f (aD :: l)
def sM(P:Program)(E:Env)(c4:Nat)(all:List Oper)(O:Nat)(X:Fr)(Z:U)(aH:Fr→U→Prop):Prop:=
 match all[O]? with
 | some aQ=>j3 P E true c4 all [aQ] X Z aH
 | none=>False
def qI(P:Program)(E:Env)(c4:Nat)(all:List Oper)(a:List Nat):Nat→List Nat→Fr→U→(Fr→U→Prop)→Prop
 | 0,_,X,Z,aH=>aH X Z
 | n+1,todo,X,Z,aH=>match todo.find? (D6 E all a todo) with
  | some O=>sM P E c4 all O X Z fun X Z=>qI P E c4 all a n (del todo O) X Z aH
  | none=>yE (fun O=>sM P E c4 all O X Z fun X Z=>qI P E c4 all a n (del todo O) X Z aH) (todo.filter (qH a todo))
inductive aV where
 | normal | exit (id:Nat) | ret
def aV.then(next:Fr→U→Prop)(Q:aV→Fr→U→Prop):aV→Fr→U→Prop
 | .normal=>next
 | .exit id=>Q (.exit id)
 | .ret=>Q .ret
def aV.inBlock(id:Nat)(Q:aV→Fr→U→Prop):aV→Fr→U→Prop
 | .exit a=>bif Nat.beq a id then Q .normal else Q (.exit a)
 | .normal=>Q .normal
 | .ret=>Q .ret
def iter(bA:(Fr→U→Prop)→Fr→U→Prop):Nat→Fr→U→Prop
 | 0=>fun _ _=>False
 | n+1=>bA (iter bA n)
def den(P:Program)(E:Env):Code→(aV→Fr→U→Prop)→Fr→U→Prop
 | .skip,Q,X,Z=>Q .normal X Z
 | .region _ ops draw,Q,X,Z=>bif yD E draw ops.toList then qI P E Z.size ops.toList (lU [] ops.toList) ops.toList.length (List.range ops.toList.length) X Z (Q .normal)
   else j3 P E (rG E draw ops.toList) Z.size ops.toList ops.toList X Z (Q .normal)
 | .seq a K,Q,X,Z=>den P E a (aV.then (den P E K Q) Q) X Z
 | .cond c a K,Q,X,Z=>match c3 X c with
  | .bool t=>cond t (den P E a Q (x5 X c true) Z) (den P E K Q (x5 X c false) Z)
  | _=>False
 | .block id c,Q,X,Z=>den P E c (aV.inBlock id Q) X Z
 | .loop c,Q,X,Z=>∃ n,iter (fun bP=>den P E c (aV.then bP Q)) n X Z
 | .exit id,Q,X,Z=>Q (.exit id) X Z
 | .ret,Q,X,Z=>Q .ret X Z
 | .rangeFunc ..,_,_,_=>False
 | .scope c,Q,X,Z=>den P E c Q X Z
 | .label _,Q,X,Z=>Q .normal X Z
 | .goto _,_,_,_=>False
 | .refuse _,_,_,_=>False
def wQ(args:List Value):Fr:=fun t=>match args[t]? with | some v=>v | none=>undef
def qJ(E:Env)(X:Fr)(Z:U):List ResultVar→(List Value→Prop)→Prop
 | [],aH=>aH []
 | .tmp t :: l,aH=>qJ E X Z l fun b8=>aH (X t :: b8)
 | .cell a t :: l,aH=>match X a,look E.types t with
  | .pointer (some aI),some O=>wL O Z aI fun v=>qJ E X Z l fun b8=>aH (v :: b8)
  | _,_=>False
def wR:List Value→Value
 | [v]=>v
 | b8=>.tuple b8.toArray
def dY(f:Func):Code:=match f.body with | some c=>c | none=>.skip
def a6:Code→List Bool→Code
 | c,[]=>c
 | .seq a _,false :: p=>a6 a p
 | .seq _ K,true :: p=>a6 K p
 | .cond _ a _,false :: p=>a6 a p
 | .cond _ _ K,true :: p=>a6 K p
 | .block _ c,_ :: p=>a6 c p
 | .loop c,_ :: p=>a6 c p
 | .scope c,_ :: p=>a6 c p
 | _,_ :: _=>.skip
def qK(n:Nat)(aQ:Oper):Bool:=match aQ.dst with | some aZ=>Nat.blt aZ n | none=>true
def uU(a:Env)(n:Nat)(ops:Array Oper)(draw:Bool):Bool:=
 ops.toList.all (qK n) && (!draw || (Region.noSelect ops.toList.toArray && uS ops.toList))
def oX(E:Env)(n:Nat):Code→Bool
 | .region _ ops draw=>uU E n ops draw
 | .seq a K=>oX E n a && oX E n K
 | .cond _ a K=>oX E n a && oX E n K
 | .block _ c=>oX E n c
 | .loop c=>oX E n c
 | .scope c=>oX E n c
 | .skip | .exit _ | .ret | .label _=>true
 | _=>false
set_option linter.unusedSimpArgs false
def yF(P:Program)(f:FuncId):sJ→Prop
 | .body | .quiet=>True
 | .rD=>∃ fn,P.funcs[f]?=some fn∧Extern.findNext fn=none∧Extern.find fn=some add64Entry
 | .rE=>∃ fn,P.funcs[f]?=some fn∧Extern.findNext fn=none∧Extern.find fn=some BP
structure h4(P:Program)(E:Env):Prop where
 ty:∀ t O,look E.types t=some O→lI P t O=true
 fn:∀ f R,look E.fns f=some R→BS P f R=true
 ext:∀ f R,look E.fns f=some R→yF P f R
 mixed:P.follows .mixedOrders=true
 arr:∀ t p,look E.BQ t=some p→P.underlying t=some (.array p.1 p.2)
def sJ.IA:sJ→Bool
 | .body | .quiet=>false
 | _=>true
theorem IB{P:Program}{l:List (Nat × sJ)}{r:List (Nat × sJ)}(N:l.filter (fun p=>p.2.IA)=r)(Z:∀ p ∈ r,yF P p.1 p.2):∀ p ∈ l,yF P p.1 p.2:=by
 intro p a
 obtain⟨f,R⟩:=p
 cases R with
 | body=>trivial
 | quiet=>trivial
 | rD=>exact Z (f,.rD) (by rw [← N];exact List.mem_filter.2 ⟨a,rfl⟩)
 | rE=>exact Z (f,.rE) (by rw [← N];exact List.mem_filter.2 ⟨a,rfl⟩)
theorem h4.mk'{P:Program}{E:Env}(Z:D1 P E=true)(b:∀ p ∈ E.fns,yF P p.1 p.2)(c:P.follows .mixedOrders=true):h4 P E:=by
 simp only [D1,Bool.and_eq_true,List.all_eq_true] at Z
 refine⟨fun t O a8=>Z.1.1 (t,O) (Ac a8),fun f R a=>Z.1.2 (f,R) (Ac a),fun f R a=>b (f,R) (Ac a),c,fun t p d=>?_⟩
 have:=Z.2 (t,p) (Ac d)
 unfold D0 at this
 split at this
 ·rename_i n N hu
  simp only [Bool.and_eq_true] at this
  rw [hu,Nat.eq_of_beq_eq_true this.1,Nat.eq_of_beq_eq_true this.2]
 ·cases this
section facts
variable {P:Program} {t N:TypeId} {gH:List h3} {K:Nat}
theorem wS{O:dW}(Z:lI P t O=true):qE (P.underlying t) O.ty=true:=by
 simp only [lI,Bool.and_eq_true] at Z;exact Z.1
theorem BW{R:IntKind}(Z:lI P t ⟨.int R,gH,K⟩=true):P.underlying t=some (.int R):=by
 have aB:=wS Z
 simp only at aB
 unfold qE at aB
 split at aB <;> simp_all
 exact Ad aB
theorem IC(Z:lI P t ⟨.bool,gH,K⟩=true):P.underlying t=some .bool:=by
 have aB:=wS Z
 simp only at aB
 unfold qE at aB
 split at aB <;> simp_all
theorem wT(Z:lI P t ⟨.str,gH,K⟩=true):P.underlying t=some .string:=by
 have aB:=wS Z
 simp only at aB
 unfold qE at aB
 split at aB <;> simp_all
theorem pP(Z:lI P t ⟨.slice N,gH,K⟩=true):P.underlying t=some (.slice N):=by
 have aB:=wS Z
 simp only at aB
 unfold qE at aB
 split at aB <;> simp_all
theorem D7{fI:List (Nat × TypeId)}(Z:lI P t ⟨.struct fI,gH,K⟩=true):(∃ a,P.underlying t=some (.struct a)∧a.toList.map (fun f=>(f.offset,f.type))=fI)∨(fI=[]∧∃ n N,P.underlying t=some (.array n N)):=by
 have aB:=wS Z
 simp only at aB
 unfold qE at aB
 split at aB <;> simp_all
theorem BX{fI:List (Nat × TypeId)}(b:fI ≠ [])(Z:lI P t ⟨.struct fI,gH,K⟩=true):∃ a,P.underlying t=some (.struct a)∧a.toList.map (fun f=>(f.offset,f.type))=fI:=by
 rcases D7 Z with Z | Z
 ·exact Z
 ·exact absurd Z.1 b
def rC.isTuple:rC→Bool
 | .tuple _=>true
 | _=>false
def rC.wU:rC→Bool
 | .struct _=>true
 | _=>false
theorem qL{O:dW}(Z:lI P t O=true):∃ inf,P.info? t=some inf∧inf.size=O.leaves.length∧inf.bytes=O.bytes:=by
 simp only [lI,Bool.and_eq_true] at Z
 obtain⟨_,Z⟩:=Z
 split at Z
 ·rename_i inf a8
  simp only [Bool.and_eq_true] at Z
  exact⟨inf,a8,Nat.eq_of_beq_eq_true Z.1.1,Nat.eq_of_beq_eq_true Z.1.2⟩
 ·simp at Z
theorem wV{O:dW}(Z:lI P t O=true)(b:O.ty.isTuple=false):
  ∃ inf,P.info? t=some inf∧inf.size=O.leaves.length∧inf.bytes=O.bytes∧∃ bS,inf.zero=some bS∧bS.cells.toList=O.a9:=by
 simp only [lI,Bool.and_eq_true] at Z
 obtain⟨_,Z⟩:=Z
 split at Z
 ·rename_i inf a8
  simp only [Bool.and_eq_true] at Z
  obtain⟨⟨a1,c⟩,a⟩:=Z
  split at a
  ·rename_i N;rw [N] at b;simp [rC.isTuple] at b
  ·split at a
   ·rename_i bS d
    exact⟨inf,a8,Nat.eq_of_beq_eq_true a1,Nat.eq_of_beq_eq_true c,bS,d,DZ a⟩
   ·simp at a
 ·simp at Z
theorem ID{O:dW}(Z:lI P t O=true)(bH:O.ty.wU=false):∃ aZ,P.underlying t=some aZ∧(∀ fI,aZ ≠ .struct fI)∧(∀ n N,aZ ≠ .array n N):=by
 have aB:=wS Z
 cases hu:P.underlying t with
 | none=>rw [hu] at aB;cases O.ty <;> simp [qE] at aB
 | some aZ=>
  rw [hu] at aB
  refine⟨aZ,rfl,?_,?_⟩
  ·rintro fI rfl
   cases a:O.ty <;> rw [a] at aB bH <;> simp [qE,rC.wU] at aB bH
  ·rintro n N rfl
   cases a:O.ty <;> rw [a] at aB bH <;> simp [qE,rC.wU] at aB bH
end facts
section runs
variable {P:Program} {t:TypeId}
theorem hD{aZ:TypeDesc}(Z:P.underlying t=some aZ)(aE:World):(underlying t).run P aE=.ok aZ aE:=run_underlying Z aE
theorem lV{inf:TypeInfo}(Z:P.info? t=some inf)(aE:World):(sizeOf t).run P aE=.ok inf.size aE:=by simp [sizeOf,typeInfo,Z]
theorem BY{inf:TypeInfo}(Z:P.info? t=some inf)(aE:World):(typeInfo t).run P aE=.ok inf aE:=by simp [typeInfo,Z]
theorem wW{inf:TypeInfo}{bS:Value}(Z:P.info? t=some inf)(a:inf.zero=some bS)(aE:World):(zeroValue t).run P aE=.ok bS aE:=by simp [zeroValue,typeInfo,Z,a]
theorem D8{O:dW}(Z:lI P t O=true)(bH:O.ty.wU=false)(aE:World):(isAgg t).run P aE=.ok false aE:=by
 obtain⟨aZ,aW,a1,a⟩:=ID Z bH
 unfold isAgg
 rw [Sem.run_bind,hD aW]
 cases aZ <;> first | rfl | exact absurd rfl (a1 _) | exact absurd rfl (a _ _)
theorem D9{fI:List (Nat × TypeId)}{gH:List h3}{K:Nat}(Z:lI P t ⟨.struct fI,gH,K⟩=true)(aE:World):(isAgg t).run P aE=.ok true aE:=by
 rcases D7 Z with ⟨a,aW,_⟩ | ⟨_,n,N,aW⟩ <;>
 ·unfold isAgg
  rw [Sem.run_bind,hD aW]
  rfl
theorem Al:∀ (b8:List Value) (aI:Addr) (O:Nat) (a:Array Value) (aE:World),qD aE.heap aI O b8→(loadCellsFrom aI O b8.length a).run P aE=.ok (a ++ b8.toArray) aE
 | [],aI,O,a,aE,_=>by simp [loadCellsFrom]
 | v :: b8,aI,O,a,aE,Z=>by
  have a2:aE.cell? (aI.add O)=some v:=Z.1
  have bZ:=Al b8 aI (O+1) (a.push v) aE Z.2
  simp only [List.length_cons,loadCellsFrom,Sem.run_bind,run_load,a2,Result.andThen,bZ]
  simp
theorem IE{v:Value}(Z:n4 v=true):v.oneCell'=true:=by cases v <;> first | rfl | cases Z
theorem BZ{aI:Addr}{v:Value}{aE:World}(a1:∃ aQ,hB aE.heap aI=some aQ)(a:mS aE.heap aI=false)(b:n4 v=true):(store aI v).run P aE=.ok () (aE.setCell aI v):=by
 obtain⟨aQ,c⟩:=a1
 have d:aE.cell? aI=some aQ:=c
 have e:aE.frozen? aI=false:=a
 rw [run_store P aE aI v _ (IE b),d]
 simp [e]
end runs
theorem jH{v:Value}{aH:Bool→Prop}(Z:eU v aH):∃ K,v=.bool K∧aH K:=by
 cases v <;> first | exact⟨_,rfl,Z⟩ | cases Z
theorem bT{R:IntKind}{v:Value}{aH:Int→Prop}(Z:a0 R v aH):∃ n,v=.int R n∧aH n:=by
 cases v with
 | int c1 n=>
  unfold a0 at Z
  cases N:rF R c1 with
  | false=>simp [N] at Z
  | true=>simp [N] at Z;obtain rfl:=Ad N;exact⟨n,rfl,Z⟩
 | _=>cases Z
theorem Ea{v:Value}{aH:ByteArray→Prop}(Z:Ae v aH):∃ aG,v=.string aG∧aH aG:=by
 cases v <;> first | exact⟨_,rfl,Z⟩ | cases Z
theorem b2{v:Value}{aH:S→Nat→Nat→Prop}(Z:aR v aH):∃ a l c,v=.slice a l c∧aH a l c:=by
 cases v <;> first | exact⟨_,_,_,rfl,Z⟩ | cases Z
theorem Eb{v:Value}{aH:S→Prop}(Z:Af v aH):∃ a,v=.pointer a∧aH a:=by
 cases v <;> first | exact⟨_,rfl,Z⟩ | cases Z
theorem Am{R:h3}{v:Value}{aH:Value→Prop}(Z:uN R v aH):aH v∧n4 v=true:=by
 cases R with
 | int R=>obtain⟨n,N,g⟩:=bT (show a0 R v _ from Z);subst N;exact⟨g,rfl⟩
 | bool=>obtain⟨n,N,g⟩:=jH (show eU v _ from Z);subst N;exact⟨g,rfl⟩
 | str=>obtain⟨n,N,g⟩:=Ea (show Ae v _ from Z);subst N;exact⟨g,rfl⟩
 | slice=>obtain⟨a,l,c,N,g⟩:=b2 (show aR v _ from Z);subst N;exact⟨g,rfl⟩
 | ptr=>obtain⟨n,N,g⟩:=Eb (show Af v _ from Z);subst N;exact⟨g,rfl⟩
theorem gG{l:List Value}{aH:Value→List Value→Prop}(Z:cV l aH):∃ v b8,l=v :: b8∧aH v b8:=by
 cases l <;> first | exact⟨_,_,rfl,Z⟩ | cases Z
theorem iT{l:List Value}{aH:Prop}(Z:b9 l aH):l=[]∧aH:=by
 cases l <;> first | exact⟨rfl,Z⟩ | cases Z
theorem Ec:∀ {a:List h3} {l:List Value} {aH:List Value→Prop},x7 a l aH→aH l
 | [],l,aH,Z=>by obtain⟨N,g⟩:=iT Z;subst N;exact g
 | R :: a,l,aH,Z=>by
  obtain⟨v,b8,N,g⟩:=gG Z
  subst N
  exact Ec (aH:=fun b=>aH (v :: b)) (Am g).1
theorem B0{v:Value}{aH:List Value→Prop}(Z:eQ v aH):∃ dR,v=.agg dR∧aH dR.toList:=by
 cases v <;> first | exact⟨_,rfl,Z⟩ | cases Z
theorem Ed{v:Value}{aH:List Value→Prop}(Z:cW v aH):∃ dR,v=.tuple dR∧aH dR.toList:=by
 cases v <;> first | exact⟨_,rfl,Z⟩ | cases Z
theorem Ee{O:dW}{v:Value}{aH:Value→Prop}(Z:uO O v aH):aH v:=by
 unfold uO at Z
 split at Z
 ·obtain⟨dR,N,g⟩:=B0 Z
  subst N
  have:=Ec g
  simpa using this
 ·split at Z
  ·exact(Am Z).1
  ·cases Z
theorem Ef{E:Env}:∀ {kQ:List TypeId} {l:List Value} {aH:List Value→Prop},wG E kQ l aH→aH l
 | [],l,aH,Z=>by obtain⟨N,g⟩:=iT Z;subst N;exact g
 | t :: kQ,l,aH,Z=>by
  obtain⟨v,b8,N,g⟩:=gG Z
  subst N
  split at g
  ·exact Ef (aH:=fun a=>aH (v :: a)) (Ee g)
  ·cases g
theorem B1{E:Env}{t:TypeId}{v:Value}{aH:Value→Prop}(Z:sK E t v aH):aH v:=by
 unfold sK at Z
 split at Z
 ·split at Z
  ·obtain⟨dR,N,g⟩:=Ed Z
   subst N
   have:=Ef g
   simpa using this
  ·exact Ee Z
 ·exact Z
section still
variable {P:Program} {E:Env}
theorem IF{op:BinOp}{R:IntKind}{a K:Int}{aH:Value→Prop}{t:TypeId}(Z:Ag op R a K aH)(a1:op ≠ .shl)(b:op ≠ .shr):
  ∃ v,aH v∧∀ aE,(binOp op t (.int R a) (.int R K)).run P aE=.ok v aE:=by
 cases op with
 | shl=>exact absurd rfl a1
 | shr=>exact absurd rfl b
 | add=>exact⟨_,Z.out,fun aE=>by simp [binOp,Op.intArith]⟩
 | sub=>exact⟨_,Z.out,fun aE=>by simp [binOp,Op.intArith]⟩
 | mul=>exact⟨_,Z.out,fun aE=>by simp [binOp,Op.intArith]⟩
 | quo=>exact⟨_,Z.2.out,fun aE=>by simp [binOp,Op.intDiv,Z.1]⟩
 | rem=>exact⟨_,Z.2.out,fun aE=>by simp [binOp,Op.intDiv,Z.1]⟩
 | and=>exact⟨_,Z.out,fun aE=>by rw [binOp_and];rfl⟩
 | or=>exact⟨_,Z.out,fun aE=>by rw [binOp_or];rfl⟩
 | xor=>exact⟨_,Z.out,fun aE=>by rw [binOp_xor];rfl⟩
 | andNot=>exact⟨_,Z.out,fun aE=>by rw [binOp_andNot];rfl⟩
 | eql=>exact⟨_,Z,fun aE=>by rw [binOp_eql];rfl⟩
 | neq=>exact⟨_,Z,fun aE=>by rw [binOp_neq];rfl⟩
 | lss=>exact⟨_,Z,fun aE=>by rw [binOp_lss];rfl⟩
 | leq=>exact⟨_,Z,fun aE=>by rw [binOp_leq];rfl⟩
 | gtr=>exact⟨_,Z,fun aE=>by rw [binOp_gtr];rfl⟩
 | geq=>exact⟨_,Z,fun aE=>by rw [binOp_geq];rfl⟩
theorem Eg{t:TypeId}(Z:P.underlying t=some .bool)(a K:Bool)(aE:World):(Op.equal t (.bool a) (.bool K)).run P aE=.ok (a == K) aE:=by
 have b:Op.maxDepth=9999+1:=rfl
 rw [Op.equal,b,Op.equalIn,Sem.run_bind,hD Z]
 rfl
theorem Eh{t N:TypeId}(Z:P.underlying t=some (.slice N))(a:S)(l c b dI:Nat)(aE:World):(Op.equal t (.slice a l c) (.slice none b dI)).run P aE=.ok a.isNone aE:=by
 have d:Op.maxDepth=9999+1:=rfl
 rw [Op.equal,d,Op.equalIn,Sem.run_bind,hD Z]
 cases a <;> rfl
theorem IG(dA:h4 P E){op:BinOp}{t:TypeId}{a7 bQ:Operand}{L aT:Value}{aH:Value→Prop}(Z:wI E op t L aT aH):
  ∃ v,aH v∧∀ aE,(do eqGuard op t a7 bQ L aT;binOp op t L aT:Sem Value).run P aE=.ok v aE:=by
 unfold wI at Z
 split at Z
 ·rename_i R a c1 K
  have b:eqGuard op t a7 bQ (.int R a) (.int c1 K)=pure ():=eqGuard_at_int ..
  split at Z
  ·exact⟨_,Z.2.out,fun aE=>by
    rw [b]
    have:¬ K < 0:=by omega
    simp [binOp,Op.shift,iQ,this]⟩
  ·exact⟨_,Z.2.out,fun aE=>by
    rw [b]
    have:¬ K < 0:=by omega
    simp [binOp,Op.shift,hG,this]⟩
  ·rename_i a1 e
   cases N:rF R c1 with
   | false=>simp [N] at Z
   | true=>
    simp only [N,cond_true] at Z
    obtain rfl:=Ad N
    obtain⟨v,b5,f⟩:=IF (P:=P) (t:=t) Z a1 e
    exact⟨v,b5,fun aE=>by rw [b];simp [f aE]⟩
 ·rename_i a K
  have b:eqGuard op t a7 bQ (.string a) (.string K)=pure ():=eqGuard_at_string ..
  split at Z
  ·refine⟨_,Z.2,fun aE=>?_⟩
   rw [b]
   have a1:¬ ((a.size+K.size:Nat):Int) > IntKind.i64.max:=by rw [IntKind.max_i64];omega
   simp only [binOp,Op.stringOp,pure_bind]
   rw [if_neg a1]
   rfl
  ·exact⟨_,Z,fun aE=>by rw [b];simp [binOp,Op.stringOp]⟩
  ·exact⟨_,Z,fun aE=>by rw [b];simp [binOp,Op.stringOp]⟩
  ·cases Z
 ·rename_i a K
  have b:eqGuard op t a7 bQ (.bool a) (.bool K)=pure ():=eqGuard_at_bool ..
  split at Z
  ·rename_i gH g d
   have hu:=IC (dA.ty _ _ d)
   split at Z
   ·exact⟨_,Z,fun aE=>by rw [b];simp [binOp,Eg hu]⟩
   ·exact⟨_,Z,fun aE=>by rw [b];simp [binOp,Eg hu]⟩
   ·cases Z
  ·cases Z
 ·rename_i a l c h dI
  have b:eqGuard op t a7 bQ (.slice a l c) (.slice none h dI)=pure ():=eqGuard_at_slice ..
  split at Z
  ·rename_i N gH g d
   have hu:=pP (dA.ty _ _ d)
   split at Z
   ·exact⟨_,Z,fun aE=>by rw [b];simp [binOp,Eh hu]⟩
   ·exact⟨_,Z,fun aE=>by rw [b];simp [binOp,Eh hu]⟩
   ·cases Z
  ·cases Z
 ·cases Z
theorem IH{op:UnOp}{L:Value}{aH:Value→Prop}(Z:wJ op L aH):∃ v,aH v∧∀ aE,(Op.unary op L).run P aE=.ok v aE:=by
 unfold wJ at Z
 split at Z
 ·exact⟨_,Z.out,fun aE=>by simp [Op.unary,Op.intArith]⟩
 ·rename_i R n
  refine⟨_,Z.out,fun aE=>?_⟩
  have N:(if R.signed=true then(-1:Int) else R.max)=bif R.signed then -1 else R.max:=by cases R.signed <;> rfl
  simp only [Op.unary,N]
  rfl
 ·exact⟨_,Z,fun aE=>by simp [Op.unary]⟩
 ·cases Z
theorem Ei{Z:U}{aI:Addr}:∀ {a:List h3} {O:Nat} {aH:List Value→Prop},wK Z aI O a aH→∃ b8,aH b8∧qD Z aI O b8∧b8.length=a.length
 | [],O,aH,aW=>⟨[],aW,trivial,rfl⟩
 | R :: a,O,aH,aW=>by
  unfold wK fZ at aW
  split at aW
  ·rename_i v b5
   obtain⟨b8,a1,b,c⟩:=Ei (aH:=fun b8=>aH (v :: b8)) (Am aW).1
   exact⟨v :: b8,a1,⟨b5,b⟩,by simp [c]⟩
  ·cases aW
theorem qM{Z aB:U}{aI:Addr}(N:aB[aI.block]?=Z[aI.block]?):hB aB aI=hB Z aI:=by unfold hB;rw [N]
theorem oY(aI:Addr)(O:Nat):(aI.add O).block=aI.block:=by unfold Addr.add;split <;> rfl
theorem Ej{Z aB:U}{aI:Addr}(N:aB[aI.block]?=Z[aI.block]?):∀ {b8:List Value} {O:Nat},qD Z aI O b8→qD aB aI O b8
 | [],_,_=>trivial
 | v :: b8,O,a=>⟨(qM (Z:=Z) (aB:=aB) (aI:=aI.add O) (by rw [oY];exact N)).trans a.1,Ej N a.2⟩
theorem Ek(dA:h4 P E){t:TypeId}{O:dW}(d:look E.types t=some O){Z:U}{aI:Addr}{aH:Value→Prop}(aW:wL O Z aI aH):
  ∃ v,aH v∧∀ aE:World,aE.heap[aI.block]?=Z[aI.block]?→(Instr.loadAt t (.pointer (some aI))).run P aE=.ok v aE:=by
 have a:=dA.ty _ _ d
 obtain⟨ty,gH,K⟩:=O
 unfold wL at aW
 split at aW
 ·rename_i fI N
  simp only at N aW
  subst N
  obtain⟨b8,a1,b,e⟩:=Ei aW
  refine⟨_,a1,fun aE c=>?_⟩
  obtain⟨inf,a8,bH,_⟩:=qL a
  have f:=Al (P:=P) b8 aI 0 #[] aE (Ej c b)
  simp only at bH
  simp only [Instr.loadAt,Instr.sureAddr,pure_bind,loadVar,Sem.run_bind,D9 a,Result.andThen,if_true,lV a8,loadCells,bH,← e,f]
  simp
 ·cases aW
 ·rename_i a1 b
  simp only at aW a1 b
  split at aW
  ·rename_i R
   unfold fZ at aW
   split at aW
   ·rename_i v b5
    refine⟨v,(Am aW).1,fun aE c=>?_⟩
    have bH:(dW.mk ty [R] K).ty.wU=false:=by
     cases ty <;> first | rfl | exact absurd rfl (a1 _)
    have g:aE.cell? aI=some v:=by rw [Iu,qM c];exact b5
    simp [Instr.loadAt,Instr.sureAddr,loadVar,D8 a bH,g]
   ·cases aW
  ·cases aW
theorem II{t N:TypeId}{inf:TypeInfo}(hu:P.underlying t=some (.slice N))(a8:P.info? N=some inf){a:S}{l c:Nat}{R:IntKind}{n:Int}{aH:Addr→Prop}
  (aW:c6 a l n inf.size aH):∃ aI,aH aI∧∀ aE,(Instr.indexAt t (.slice a l c) (.int R n)).run P aE=.ok (.pointer (some aI)) aE:=by
 obtain⟨⟨a2,a1⟩,aW⟩:=aW
 split at aW
 ·rename_i p
  refine⟨_,aW,fun aE=>?_⟩
  simp only [Instr.indexAt,asIntOf,pure_bind,Sem.run_bind,hD hu,Result.andThen]
  simp [a2,a1,lV a8]
 ·cases aW
theorem IJ{t N:TypeId}{inf:TypeInfo}{m:Nat}(hu:P.underlying t=some (.array m N))(a8:P.info? N=some inf){p:Addr}{R:IntKind}{n:Int}{aH:Addr→Prop}
  (aW:c6 (some p) m n inf.size aH):∃ aI,aH aI∧∀ aE,(Instr.indexAt t (.pointer (some p)) (.int R n)).run P aE=.ok (.pointer (some aI)) aE:=by
 obtain⟨⟨a2,a1⟩,aW⟩:=aW
 refine⟨_,aW,fun aE=>?_⟩
 simp only [Instr.indexAt,asIntOf,pure_bind,Sem.run_bind,hD hu,Result.andThen,Instr.sureAddr]
 simp [a2,a1,lV a8,hD hu]
theorem yG{P:Program}{v:Option Value}{b aT:Nat}{aH:Nat→Prop}(Z:qF v b aT aH):
  ∃ m,aH m∧(v=none→m=b)∧∀ L,v=some L→∀ code (aE:World),(Instr.sliceBound L aT code).run P aE=.ok m aE:=by
 unfold qF at Z
 split at Z
 ·exact⟨_,Z,⟨fun _=>rfl,fun L a=>(by cases a)⟩⟩
 ·rename_i R O
  refine⟨O.toNat,Z.2,⟨fun a=>(by cases a),fun L a code aE=>?_⟩⟩
  obtain rfl:=Option.some.inj a
  exact run_sliceBound aE R O aT code Z.1.1 Z.1.2
 ·cases Z
theorem IK{t N:TypeId}{inf:TypeInfo}(hu:P.underlying t=some (.slice N))(a8:P.info? N=some inf){a:S}{l c:Nat}{bW b d:Option Value}{aH:Value→Prop}
  (aW:iR inf.size a l c bW b d fun a l c=>aH (.slice a l c)):∃ v,aH v∧∀ aE,(Instr.sliceAt t (.slice a l c) bW b d).run P aE=.ok v aE:=by
 unfold iR at aW
 split at aW
 ·cases aW
 ·rename_i i
  obtain⟨m,aW,j,h⟩:=yG (P:=P) aW
  obtain⟨k,aW,a2,e⟩:=yG (P:=P) aW
  obtain⟨n,aW,f,g⟩:=yG (P:=P) aW
  refine⟨_,aW,fun aE=>?_⟩
  have a3:(Instr.sliceBounds true l c bW b d).run P aE=.ok (n,k,m) aE:=by
   unfold Instr.sliceBounds
   cases d with
   | none=>
    obtain rfl:=j rfl
    cases b with
    | none=>
     obtain rfl:=a2 rfl
     cases bW with
     | none=>obtain rfl:=f rfl;rfl
     | some L=>simp [g L rfl]
    | some aT=>
     cases bW with
     | none=>obtain rfl:=f rfl;simp [e aT rfl]
     | some L=>simp [g L rfl,e aT rfl]
   | some bS=>
    cases b with
    | none=>exact absurd rfl (i bS rfl)
    | some aT=>
     cases bW with
     | none=>obtain rfl:=f rfl;simp [e aT rfl,h bS rfl]
     | some L=>simp [g L rfl,e aT rfl,h bS rfl]
  simp only [Instr.sliceAt,Sem.run_bind,hD hu,Result.andThen,Instr.slice,a3,lV a8,jT]
  rfl
theorem IL{t:TypeId}(hu:P.underlying t=some .string){aG:ByteArray}{bW a:Option Value}{aH:Value→Prop}
  (aW:x9 aG bW a fun aG=>aH (.string aG)):∃ v,aH v∧∀ aE,(Instr.sliceAt t (.string aG) bW a none).run P aE=.ok v aE:=by
 unfold x9 at aW
 obtain⟨e,aW,a2,b⟩:=yG (P:=P) aW
 obtain⟨f,aW,c,d⟩:=yG (P:=P) aW
 refine⟨_,aW,fun aE=>?_⟩
 have a3:(Instr.sliceBounds false aG.size aG.size bW a none).run P aE=.ok (f,e,aG.size) aE:=by
  unfold Instr.sliceBounds
  cases a with
  | none=>
   obtain rfl:=a2 rfl
   cases bW with
   | none=>obtain rfl:=c rfl;rfl
   | some L=>simp [d L rfl]
  | some aT=>
   cases bW with
   | none=>obtain rfl:=c rfl;simp [b aT rfl]
   | some L=>simp [d L rfl,b aT rfl]
 simp only [Instr.sliceAt,Sem.run_bind,hD hu,Result.andThen,Instr.slice,Option.isSome_none,Bool.false_eq_true,if_false,a3]
 rfl
theorem El:∀ (l:List Value) (off R:Nat) (cells:Array Value),off+R+l.length≤cells.size→
  (l.zipIdx R).foldl (fun dR p=>dR.setIfInBounds (off+p.2) p.1) cells=(cells.toList.take (off+R) ++ (l ++ cells.toList.drop (off+R+l.length))).toArray
 | [],off,R,cells,Z=>by simp
 | v :: l,off,R,cells,Z=>by
  have a:off+R < cells.size:=by simp at Z;omega
  have bZ:=El l off (R+1) (cells.setIfInBounds (off+R) v) (by simp at Z ⊢;omega)
  simp only [List.zipIdx_cons,List.foldl_cons,bZ]
  congr 1
  have b:(cells.setIfInBounds (off+R) v).toList=cells.toList.set (off+R) v:=by simp
  rw [b]
  have c:off+(R+1)=off+R+1:=by omega
  have d:off+(R+1)+l.length=off+R+(l.length+1):=by omega
  have dC:off+R < cells.toList.length:=by simpa using a
  rw [d,c,List.length_cons,List.take_succ_eq_append_getElem (by simpa using a)]
  rw [List.getElem_set_self,List.take_set_of_le (Nat.le_refl _),List.drop_set_of_lt (by omega)]
  simp
theorem B2{B3 place:Nat→Option (Nat × Nat)}(a:∀ O,B3 O=place O):∀ (parts:List (Nat × Value)) (cells out:List Value),wM place cells parts=some out→
  Instr.fill B3 cells.toArray parts=some out.toArray
 | [],cells,out,Z=>by simp only [wM,Option.some.injEq] at Z;subst Z;rfl
 | (O,v) :: rest,cells,out,Z=>by
  unfold wM at Z
  unfold Instr.fill
  rw [a O]
  split at Z
  ·cases Z
  ·rename_i off size N
   rw [N]
   simp only
   cases aK:Nat.beq v.cells.toList.length size with
   | false=>rw [aK] at Z;cases Z
   | true=>
    cases bN:Nat.ble (off+v.cells.toList.length) cells.length with
    | false=>rw [aK,bN] at Z;cases Z
    | true=>
     rw [aK,bN] at Z
     simp only [Bool.and_self,cond_true] at Z
     have d1:v.cells.size=size:=by simpa using Nat.eq_of_beq_eq_true aK
     have d2:off+v.cells.size≤cells.length:=by simpa using Nat.le_of_ble_eq_true bN
     have b:=El v.cells.toList off 0 cells.toArray (by simpa using d2)
     have bZ:=B2 a rest _ out Z
     have c:(v.cells.zipIdx.foldl (fun dR (p:Value × Nat)=>dR.setIfInBounds (off+p.2) p.1) cells.toArray)=(BT cells off v.cells.toList).toArray:=by
      rw [← Array.foldl_toList,Array.toList_zipIdx,b]
      simp [BT]
     have cZ:¬ (v.cells.size ≠ size || off+v.cells.size > cells.toArray.size)=true:=by simp;omega
     rw [if_neg cZ]
     rw [← bZ]
     congr 1
theorem IM{a:List Field}(Z:∀ f ∈ a,∃ inf,P.info? f.type=some inf)(aE:World):
  (a.mapM fun (f:Field)=>(do pure (f.offset,← sizeOf f.type):Sem (Nat × Nat))).run P aE=.ok (a.map fun f=>(f.offset,P.cellsOf f.type)) aE:=by
 induction a with
 | nil=>rfl
 | cons f l bZ=>
  obtain⟨inf,a8⟩:=Z f (by simp)
  have b:=bZ fun g c=>Z g (by simp [c])
  rw [List.mapM_cons]
  simp only [Sem.run_bind,lV a8,Result.andThen,Sem.run_pure,b,List.map_cons,Program.cellsOf,a8]
  rfl
theorem Em:∀ {fI:List (Nat × TypeId)},uP E fI=true→∀ p ∈ fI,∃ O,look E.types p.2=some O
 | [],_,p,a=>by cases a
 | (off,t) :: l,Z,p,a=>by
  unfold uP at Z
  split at Z
  ·rename_i O a8
   rcases List.mem_cons.1 a with rfl | a
   ·exact⟨O,a8⟩
   ·exact Em Z p a
  ·cases Z
theorem IN{t:TypeId}{O:dW}(Z:lI P t O=true):P.cellsOf t=O.leaves.length:=by
 obtain⟨inf,a8,bH,_⟩:=qL Z
 simp [Program.cellsOf,a8,bH]
theorem En:∀ {rest:List Value} {L:Value} {aH:Value→Prop},n2 L rest aH→∃ v,aH v∧∀ aE,(rest.foldlM Builtin.max2 L:Sem Value).run P aE=.ok v aE
 | [],L,aH,Z=>by unfold n2 at Z;exact⟨L,Z,fun aE=>rfl⟩
 | aT :: rest,L,aH,Z=>by
  cases L with
  | int R a=>
   cases aT with
   | int c1 K=>
    unfold n2 at Z
    obtain⟨v,b5,b⟩:=En Z
    exact⟨v,b5,fun aE=>by simp only [List.foldlM_cons,Builtin.max2,pure_bind];exact b aE⟩
   | _=>simp [n2] at Z
  | _=>cases aT <;> simp [n2] at Z
theorem Eo:∀ {rest:List Value} {L:Value} {aH:Value→Prop},n3 L rest aH→∃ v,aH v∧∀ aE,(rest.foldlM Builtin.min2 L:Sem Value).run P aE=.ok v aE
 | [],L,aH,Z=>by unfold n3 at Z;exact⟨L,Z,fun aE=>rfl⟩
 | aT :: rest,L,aH,Z=>by
  cases L with
  | int R a=>
   cases aT with
   | int c1 K=>
    unfold n3 at Z
    obtain⟨v,b5,b⟩:=Eo Z
    exact⟨v,b5,fun aE=>by simp only [List.foldlM_cons,Builtin.min2,pure_bind];exact b aE⟩
   | _=>simp [n3] at Z
  | _=>cases aT <;> simp [n3] at Z
theorem IP(L aT c:Int)(a:0≤L)(b:0≤aT)(d:0≤c)(g:c≤1)(h:aT < 18446744073709551616)(aE:World):
  (BP #[.int .u64 L,.int .u64 aT,.int .u64 c]).run P aE=
   .ok (.tuple #[.int .u64 ((L - aT - c) % 18446744073709551616),.int .u64 (if L < aT+c then 1 else 0)]) aE:=by
 have key:∀ R:Nat,R≤1→(BP #[.int .u64 L,.int .u64 aT,.int .u64 (R:Int)]).run P aE=
   .ok (Extern.MathBitsCarry.pair ((L.toNat+Extern.MathBitsCarry.m64 - aT.toNat - R) % Extern.MathBitsCarry.m64) (if L.toNat < aT.toNat+R then 1 else 0)) aE:=by
  intro R i
  have:R=0∨R=1:=by omega
  rcases this with rfl | rfl <;> rfl
 obtain⟨R,rfl⟩:=Int.eq_ofNat_of_zero_le d
 rw [key R (by omega)]
 obtain⟨a7,rfl⟩:=Int.eq_ofNat_of_zero_le a
 obtain⟨bQ,rfl⟩:=Int.eq_ofNat_of_zero_le b
 simp only [Extern.MathBitsCarry.pair,Extern.MathBitsCarry.m64,Int.toNat_natCast]
 have e:Int.ofNat ((a7+2 ^ 64 - bQ - R) % 2 ^ 64)=((a7:Int) - bQ - R) % 18446744073709551616:=by
  simp;omega
 have f:Int.ofNat (if a7 < bQ+R then 1 else 0)=if (a7:Int) < bQ+R then 1 else 0:=by
  by_cases dC:a7 < bQ+R
  ·rw [if_pos dC,if_pos (by omega)];rfl
  ·rw [if_neg dC,if_neg (by omega)];rfl
 rw [e,f]
theorem An(dA:h4 P E){f:FuncId}{R:sJ}(a:look E.fns f=some R):∃ fn,P.funcs[f]?=some fn∧(fn.name == "runtime.NumGoroutine")=false∧(R=.body∨R=.quiet→fn.body.isSome=true)∧(R=.rD∨R=.rE→fn.body.isNone=true):=by
 have Z:=dA.fn _ _ a
 unfold BS at Z
 split at Z
 ·rename_i fn b
  refine⟨fn,b,?_⟩
  cases R <;> simp only [Bool.and_eq_true,Bool.not_eq_true'] at Z <;> simp [Z]
 ·cases Z
theorem IQ(dA:h4 P E){c:Call}{X:Fr}{t0:TypeId}{aH:Value→Prop}(Z:wN E c X aH):
  ∃ v,aH v∧∀ aE,(do let aZ ← resolve (c3 X) c t0;invoke aZ.target aZ.args:Sem Next).run P aE=.ok (.value v) aE:=by
 obtain⟨callee,⟨args⟩,⟨qN⟩⟩:=c
 unfold wN at Z
 simp only at Z
 split at Z
 ·
  split at Z
  ·rename_i L aC t kQ
   unfold yA at Z
   split at Z
   ·rename_i N gH K a n u b b5
    have hu:=pP (dA.ty _ _ b)
    refine⟨_,Z,fun aE=>?_⟩
    simp [resolve,invoke,builtin,Builtin.len_,b5,hD hu,goInt]
   ·rename_i gH K aG b b5
    have hu:=wT (dA.ty _ _ b)
    refine⟨_,Z,fun aE=>?_⟩
    simp [resolve,invoke,builtin,Builtin.len_,b5,hD hu,goInt]
   ·cases Z
  ·cases Z
 ·
  split at Z
  ·rename_i L rest N
   obtain⟨v,b5,i⟩:=En (P:=P) Z
   refine⟨v,b5,fun aE=>?_⟩
   have d:(List.map (c3 X) args)=L :: rest:=N
   simp [resolve,invoke,builtin,Builtin.max_,d,i]
  ·cases Z
 ·
  split at Z
  ·rename_i L rest N
   obtain⟨v,b5,i⟩:=Eo (P:=P) Z
   refine⟨v,b5,fun aE=>?_⟩
   have d:(List.map (c3 X) args)=L :: rest:=N
   simp [resolve,invoke,builtin,Builtin.min_,d,i]
  ·cases Z
 ·
  rename_i f
  split at Z
  ·rename_i b
   split at Z
   ·rename_i L aT bS N
    obtain⟨⟨a1,j,k,l⟩,Z⟩:=Z
    refine⟨_,Z,fun aE=>?_⟩
    obtain⟨fn,e,m,_,a3⟩:=An dA b
    obtain⟨o,g,p,q⟩:=dA.ext _ _ b
    obtain rfl:fn=o:=by rw [e] at g;exact Option.some.inj g
    have d:(List.map (c3 X) args)=[.int .u64 L,.int .u64 aT,.int .u64 bS]:=N
    have h:=run_callFunc_extern (P:=P) e m (a3 (by simp)) p q #[.int .u64 L,.int .u64 aT,.int .u64 bS] aE
    rw [run_add64 L aT bS a1 j k l] at h
    simp only [resolve,Deferred.ofValue,c3,pure_bind,invoke]
    have r:(#[] ++ Array.map (c3 X) { toList:=args } ++ #[]:Array Value)=#[.int .u64 L,.int .u64 aT,.int .u64 bS]:=by simp [d]
    rw [r,h]
    rfl
   ·cases Z
  ·rename_i b
   split at Z
   ·rename_i L aT bS N
    obtain⟨⟨a1,j,k,l,s⟩,Z⟩:=Z
    refine⟨_,Z,fun aE=>?_⟩
    obtain⟨fn,e,m,_,a3⟩:=An dA b
    obtain⟨o,g,p,q⟩:=dA.ext _ _ b
    obtain rfl:fn=o:=by rw [e] at g;exact Option.some.inj g
    have d:(List.map (c3 X) args)=[.int .u64 L,.int .u64 aT,.int .u64 bS]:=N
    have h:=run_callFunc_extern (P:=P) e m (a3 (by simp)) p q #[.int .u64 L,.int .u64 aT,.int .u64 bS] aE
    rw [IP L aT bS a1 j k l s] at h
    simp only [resolve,Deferred.ofValue,c3,pure_bind,invoke]
    have r:(#[] ++ Array.map (c3 X) { toList:=args } ++ #[]:Array Value)=#[.int .u64 L,.int .u64 aT,.int .u64 bS]:=by simp [d]
    rw [r,h]
    rfl
   ·cases Z
  ·cases Z
 ·cases Z
end still
set_option linter.unusedSimpArgs false
structure gM(n:Nat)(X:Fr)(a:Act):Prop where
 size:a.tmps.size=n
 defers:a.defers=[]
 get:∀ t,a.tmps.getD t undef=X t
theorem gM.c3{n:Nat}{X:Fr}{a:Act}(Z:gM n X a):a.eval=c3 X:=by
 funext L
 cases L with
 | tmp t=>exact Z.get t
 | _=>rfl
theorem gM.put{n:Nat}{X:Fr}{a:Act}(Z:gM n X a){aQ:Oper}(aW:qK n aQ=true)(v:Value):gM n (lT X aQ.dst v) (a.put aQ.dst v):=by
 unfold qK at aW
 cases N:aQ.dst with
 | none=>exact Z
 | some aZ=>
  rw [N] at aW
  have dC:aZ < n:=by simpa [Nat.blt_eq] using aW
  refine⟨by simp [Act.put,Z.size],by simp [Act.put,Z.defers],fun t=>?_⟩
  simp only [Act.put,lT,k0]
  rw [Array.getD_eq_getD_getElem?,Array.getElem?_setIfInBounds]
  cases c:Nat.beq t aZ with
  | true=>
   obtain rfl:=Nat.eq_of_beq_eq_true c
   have:t < a.tmps.size:=by rw [Z.size];exact dC
   simp [this]
  | false=>
   have:aZ ≠ t:=fun N=>by subst N;simp at c
   rw [if_neg this,← Array.getD_eq_getD_getElem?,Z.get t]
   rfl
section
variable {P:Program} {E:Env}
theorem B4(dA:h4 P E){aQ:Oper}{X:Fr}{Z:U}{aH:Value→Prop}(aW:iJ E aQ.op X Z aH):
  ∃ v,aH v∧∀ aE:World,(∀ t a aI,aQ.op=.load t a→c3 X a=.pointer (some aI)→aE.heap[aI.block]?=Z[aI.block]?)→(execOp (c3 X) aQ).run P aE=.ok (.value v) aE:=by
 obtain⟨dst,op,type,pos,after,guard⟩:=aQ
 simp only at aW
 cases op with
 | move L=>exact⟨_,aW,fun aE _=>rfl⟩
 | assign L=>exact⟨_,aW,fun aE _=>rfl⟩
 | pick c a K=>
  simp only [iJ] at aW
  split at aW
  ·rename_i t j
   cases t with
   | true=>exact⟨_,aW,fun aE _=>by simp [execOp,j,Go.asBool]⟩
   | false=>exact⟨_,aW,fun aE _=>by simp [execOp,j,Go.asBool]⟩
  ·cases aW
 | load t a=>
  simp only [iJ] at aW
  split at aW
  ·rename_i aI O B p
   obtain⟨v,b5,d⟩:=Ek dA p aW
   exact⟨v,b5,fun aE G=>by simp [execOp,B,d aE (G _ _ _ rfl B)]⟩
  ·cases aW
 | binOp op t L aT QI=>
  obtain⟨v,b5,d⟩:=IG dA (a7:=L) (bQ:=aT) aW
  exact⟨v,b5,fun aE _=>by
   have:=d aE
   simp only [execOp,Sem.run_bind] at this ⊢
   rw [this];rfl⟩
 | unOp op t L=>
  obtain⟨v,b5,d⟩:=IH (P:=P) aW
  exact⟨v,b5,fun aE _=>by simp [execOp,d aE]⟩
 | convert aG aZ L=>
  simp only [iJ] at aW
  split at aW
  ·rename_i QJ QK QL R gH K c1 n a1 e k
   have eL:=BW (dA.ty _ _ a1)
   have H:=BW (dA.ty _ _ e)
   exact⟨_,aW.out,fun aE _=>by simp [execOp,convert,hD eL,hD H,k,Conv.intToInt]⟩
  ·cases aW
 | indexAddr t L O=>
  simp only [iJ] at aW
  split at aW
  ·rename_i N gH K a l c R n a1 e k
   split at aW
   ·rename_i C q
    have eL:=pP (dA.ty _ _ a1)
    obtain⟨inf,a8,bH,_⟩:=qL (dA.ty _ _ q)
    rw [← bH] at aW
    obtain⟨aI,w,d⟩:=II eL a8 (c:=c) (R:=R) aW
    exact⟨_,w,fun aE _=>by simp [execOp,e,k,d aE]⟩
   ·cases aW
  ·rename_i aI R n e k
   split at aW
   ·rename_i m N I
    split at aW
    ·rename_i C q
     have eL:=dA.arr _ _ I
     obtain⟨inf,a8,bH,_⟩:=qL (dA.ty _ _ q)
     rw [← bH] at aW
     obtain⟨QM,w,d⟩:=IJ eL a8 (R:=R) aW
     exact⟨_,w,fun aE _=>by simp [execOp,e,k,d aE]⟩
    ·cases aW
   ·cases aW
  ·cases aW
 | index t L O=>
  simp only [iJ] at aW
  split at aW
  ·rename_i gH K aG R n a1 e k
   have eL:=wT (dA.ty _ _ a1)
   obtain⟨a2,aW⟩:=aW
   split at aW
   ·rename_i c x
    exact⟨_,aW,fun aE _=>by simp [execOp,e,k,Instr.index,asIntOf,hD eL,a2,x]⟩
   ·cases aW
  ·cases aW
 | extract L O=>
  simp only [iJ] at aW
  split at aW
  ·rename_i b8 y
   split at aW
   ·rename_i v b5
    have z:b8[O]?=some v:=by simpa using b5
    exact⟨v,aW,fun aE _=>by simp [execOp,y,Instr.extract,z]⟩
   ·cases aW
  ·cases aW
 | fieldAddr aG L f=>
  simp only [iJ] at aW
  split at aW
  ·rename_i aI fI gH K a1 e
   split at aW
   ·rename_i off t g
    split at aW
    ·rename_i O a8
     cases o:Nat.beq O.leaves.length 0 with
     | true=>simp [o] at aW
     | false=>
      simp only [o,cond_false] at aW
      obtain⟨h,cY,N⟩:=BX (by rintro rfl;simp at g) (dA.ty _ _ e)
      subst N
      have A:∃ b,h[f]?=some b∧b.offset=off∧b.type=t:=by
       rw [List.getElem?_map] at g
       cases i:h.toList[f]? with
       | none=>simp [i] at g
       | some b=>simp [i] at g;exact⟨b,by simpa using i,g.1,g.2⟩
      obtain⟨b,u,rfl,rfl⟩:=A
      exact⟨_,aW,fun aE _=>by
       obtain⟨inf,r,bH,_⟩:=qL (dA.ty _ _ a8)
       have J:¬ inf.size=0:=by rw [bH];intro Q;rw [Q] at o;simp at o
       simp [execOp,a1,Instr.fieldAt,hD cY,u,Instr.sureAddr,fieldPlace,lV r,J]⟩
    ·cases aW
   ·cases aW
  ·cases aW
 | field t L f=>
  simp only [iJ] at aW
  split at aW
  ·rename_i dR fI gH K a1 e
   split at aW
   ·rename_i off T g
    obtain⟨h,cY,N⟩:=BX (by rintro rfl;simp at g) (dA.ty _ _ e)
    subst N
    have A:∃ b,h[f]?=some b∧b.offset=off∧b.type=T:=by
     rw [List.getElem?_map] at g
     cases i:h.toList[f]? with
     | none=>simp [i] at g
     | some b=>simp [i] at g;exact⟨b,by simpa using i,g.1,g.2⟩
    obtain⟨b,u,rfl,rfl⟩:=A
    split at aW
    ·rename_i QN D eV p
     have j:=dA.ty _ _ p
     obtain⟨inf,r,bH,_⟩:=qL j
     refine⟨_,aW,fun aE _=>?_⟩
     simp only at bH
     have V:dR.extract b.offset (b.offset+inf.size)=((dR.toList.drop b.offset).take D.length).toArray:=by
      apply Array.ext'
      simp [bH]
     simp [execOp,a1,Instr.field,hD cY,u,eQ,part,D9 j,lV r,V,Go.asAgg]
    ·cases aW
    ·rename_i O Qx QO p
     split at aW
     ·rename_i v b5
      have z:dR[b.offset]?=some v:=by simpa using b5
      have bH:O.ty.wU=false:=by
       obtain⟨ty,D,eV⟩:=O
       cases ty <;> first | rfl | exact absurd rfl (Qx _ _ _)
      refine⟨v,aW,fun aE _=>?_⟩
      simp [execOp,a1,Instr.field,hD cY,u,part,D8 (dA.ty _ _ p) bH,z,Go.asAgg]
     ·cases aW
    ·cases aW
   ·cases aW
  ·cases aW
 | build t parts=>
  simp only [iJ] at aW
  split at aW
  ·rename_i fI gH K a1
   cases s:(!fI.isEmpty && uP E fI) with
   | false=>simp [s] at aW
   | true=>
    simp only [s,cond_true] at aW
    have Qy:uP E fI=true:=by simp only [Bool.and_eq_true] at s;exact s.2
    have Qz:fI ≠ []:=by rintro rfl;simp at s
    split at aW
    ·rename_i cells x
     refine⟨_,aW,fun aE _=>?_⟩
     have j:=dA.ty _ _ a1
     obtain⟨h,cY,N⟩:=BX Qz j
     subst N
     obtain⟨inf,a8,bH,a3,bS,o,QA⟩:=wV j rfl
     have F:=Em Qy
     have QB:∀ f ∈ h.toList,∃ inf,P.info? f.type=some inf:=by
      intro f g
      obtain⟨O,a8⟩:=F (f.offset,f.type) (List.mem_map.2 ⟨f,g,rfl⟩)
      obtain⟨inf,a1,_⟩:=qL (dA.ty _ _ a8)
      exact⟨inf,a1⟩
     have QC:=IM (P:=P) QB aE
     have QD:(h.mapM fun (f:Field)=>(do pure (f.offset,← sizeOf f.type):Sem (Nat × Nat))).run P aE=.ok (h.toList.map fun f=>(f.offset,P.cellsOf f.type)).toArray aE:=by
      rw [Array.mapM_eq_mapM_toList,Sem.run_map,QC];rfl
     have QE:∀ aD,((h.toList.map fun f=>(f.offset,P.cellsOf f.type)).toArray)[aD]?=BU E (h.toList.map fun f=>(f.offset,f.type)) aD:=by
      intro aD
      unfold BU
      rw [List.getElem?_map]
      cases i:h.toList[aD]? with
      | none=>simpa using i
      | some f=>
       obtain⟨O,a8⟩:=F (f.offset,f.type) (List.mem_map.2 ⟨f,List.mem_of_getElem? i,rfl⟩)
       have:P.cellsOf f.type=O.leaves.length:=IN (dA.ty _ _ a8)
       simp at i
       simp [i,a8,this]
     have QF:=B2 QE _ _ _ x
     simp only [execOp,Sem.run_bind,Instr.build,wW a8 o,Result.andThen,hD cY,QD]
     have QG:bS.cells=(gH.map h3.zero).toArray:=by apply Array.ext';simpa [dW.a9] using QA
     rw [QG]
     have QH:(Array.map (fun (L:Nat × Operand)=>match L with | (O,L)=>(O,c3 X L)) parts).toList=parts.toList.map fun (O,L)=>(O,c3 X L):=by simp
     rw [QH,QF]
     rfl
    ·cases aW
  ·cases aW
 | nilCheck L=>
  simp only [iJ] at aW
  split at aW
  ·rename_i aI y
   exact⟨_,aW,fun aE _=>by simp [execOp,y]⟩
  ·cases aW
 | slice t L bW a8 QP=>
  simp only [iJ] at aW
  split at aW
  ·rename_i N gH K a l c a1 e
   split at aW
   ·rename_i C q
    have eL:=pP (dA.ty _ _ a1)
    obtain⟨inf,r,bH,_⟩:=qL (dA.ty _ _ q)
    rw [← bH] at aW
    obtain⟨v,b5,d⟩:=IK eL r aW
    exact⟨v,b5,fun aE _=>by simp [execOp,e,d aE]⟩
   ·cases aW
  ·rename_i gH K aG a1 e
   split at aW
   ·have eL:=wT (dA.ty _ _ a1)
    obtain⟨v,b5,d⟩:=IL eL aW
    exact⟨v,b5,fun aE _=>by simp [execOp,e,d aE]⟩
   ·cases aW
  ·cases aW
 | call c=>
  obtain⟨v,b5,d⟩:=IQ dA (t0:=type) aW
  exact⟨v,b5,fun aE _=>d aE⟩
 | _=>exact aW.elim
end
set_option linter.unusedSimpArgs false
theorem add_zero(aI:Addr):aI.add 0=aI:=by simp [Addr.add]
theorem IS{Z:U}{a aI:Addr}{v aQ:Value}(b:hB Z aI=some aQ):∃ fO,hB (gO Z a v) aI=some fO:=by
 unfold hB gO at *
 rw [Array.getElem?_modify]
 split at b
 ·rename_i c N f e
  by_cases a3:a.block=aI.block
  ·rw [if_pos a3,e]
   simp only [Option.map_some]
   by_cases bH:aI.spot.isSome=true
   ·simp [bH] at b
   ·simp only [bH] at b ⊢
    have dC:aI.off < c.size:=by
     rcases Nat.lt_or_ge aI.off c.size with d | d
     ·exact d
     ·simp [Array.getElem?_eq_none d] at b
    cases a.spot.isSome with
    | true=>exact⟨aQ,by simpa using b⟩
    | false=>simp only [Bool.false_eq_true,if_false];rw [Array.getElem?_setIfInBounds];split <;> simp_all
  ·rw [if_neg a3,e];exact⟨aQ,b⟩
 ·cases b
theorem IT(Z:U)(a aI:Addr)(v:Value):mS (gO Z a v) aI=mS Z aI:=by
 unfold mS gO
 rw [Array.getElem?_modify]
 by_cases a3:a.block=aI.block
 ·rw [if_pos a3]
  cases c:Z[aI.block]? with
  | none=>rfl
  | some b=>cases b <;> rfl
 ·rw [if_neg a3]
theorem Ep{Z:U}{p a:Addr}{v:Value}:∀ {n O:Nat},pO Z p O n→pO (gO Z a v) p O n
 | 0,_,_=>trivial
 | n+1,O,bH=>by
  obtain⟨⟨⟨aQ,b⟩,c⟩,d⟩:=bH
  exact⟨⟨IS b,by rw [IT];exact c⟩,Ep d⟩
section
variable {P:Program} {E:Env}
theorem Er{aI:Addr}:∀ {l:List Value} {O:Nat} {aE:World} {aH:U→Prop},uQ aE.heap aI O l aH→∃ cK,(storeCells aI l O).run P aE=.ok () cK∧e2 aE cK∧aH cK.heap
 | [],O,aE,aH,Z=>⟨aE,rfl,e2.refl aE,Z⟩
 | v :: b8,O,aE,aH,Z=>by
  unfold uQ at Z
  cases a:n4 v with
  | false=>simp [a] at Z
  | true=>
   simp only [a,cond_true] at Z
   obtain⟨⟨a1,b⟩,c⟩:=Z
   have d:=BZ (P:=P) a1 b a
   obtain⟨cK,r,aG,R⟩:=Er (aE:=aE.setCell (aI.add O) v) c
   exact⟨cK,by simp only [storeCells,Sem.run_bind,d,Result.andThen,r],e2.trans (K:=aE.setCell _ v) ⟨rfl,rfl,rfl⟩ aG,R⟩
theorem Ao{p:Addr}:∀ {b8:List Value} {O:Nat} {aE:World},pO aE.heap p O b8.length→(∀ v ∈ b8,n4 v=true)→
  ∃ cK,(storeCells p b8 O).run P aE=.ok () cK∧e2 aE cK∧cK.heap=jB aE.heap p O b8
 | [],O,aE,_,_=>⟨aE,rfl,e2.refl aE,rfl⟩
 | v :: b8,O,aE,Z,a=>by
  obtain⟨⟨a1,b⟩,c⟩:=Z
  have d:=BZ (P:=P) a1 b (a v (by simp))
  obtain⟨cK,r,aG,R⟩:=Ao (aE:=aE.setCell (p.add O) v) (O:=O+1) (b8:=b8) (Ep c) (fun L e=>a L (by simp [e]))
  exact⟨cK,by simp only [storeCells,Sem.run_bind,d,Result.andThen,r],e2.trans (K:=aE.setCell _ v) ⟨rfl,rfl,rfl⟩ aG,R⟩
theorem yH(a9:List Value):∀ n,(iD a9 n).length=n*a9.length
 | 0=>by simp [iD]
 | n+1=>by simp [iD,yH a9 n,Nat.succ_mul];omega
theorem Es(a9:List Value):∀ n O,O < n*a9.length→(iD a9 n)[O]?=a9[O % a9.length]?
 | 0,O,Z=>by simp at Z
 | n+1,O,Z=>by
  simp only [iD]
  by_cases a8:O < a9.length
  ·rw [List.getElem?_append_left a8,Nat.mod_eq_of_lt a8]
  ·have a:a9.length≤O:=by omega
   rw [List.getElem?_append_right a,Es a9 n (O - a9.length) (by rw [Nat.succ_mul] at Z;omega)]
   congr 1
   rw [Nat.mod_eq_sub_mod a]
theorem B5(a9:List Value)(n m:Nat)(b:m=n*a9.length)(bS:Array Value)(c:bS=a9.toArray):(Array.range m).map (fun O=>bS[O % bS.size]!)=(iD a9 n).toArray:=by
 subst c;subst b
 apply Array.ext
 ·simp [yH]
 ·intro O a1 g
  simp only [Array.size_map,Array.size_range] at a1
  simp only [Array.getElem_map,Array.getElem_range]
  have d:0 < a9.length:=by
   rcases Nat.eq_zero_or_pos a9.length with Z | Z
   ·rw [Z] at a1;simp at a1
   ·exact Z
  have dC:O % a9.length < a9.length:=Nat.mod_lt _ d
  have a:=Es a9 n O a1
  rw [List.getElem?_eq_getElem dC,List.getElem?_eq_getElem (by rw [yH];exact a1)] at a
  have e:=Option.some.inj a
  have f:O % a9.toArray.size < a9.toArray.size:=by simpa using dC
  rw [getElem!_pos a9.toArray _ f]
  simp [e]
theorem Et(a9:List Value)(n m:Nat)(a:m=n*a9.length)(bS:Array Value)(b:m ≠ 0→bS=a9.toArray):(Array.range m).map (fun O=>bS[O % bS.size]!)=(iD a9 n).toArray:=by
 by_cases a2:m=0
 ·subst a2
  have:(iD a9 n).length=0:=by rw [yH];exact a.symm
  rw [List.length_eq_zero_iff] at this
  rw [this];simp
 ·exact B5 a9 n m a bS (b a2)
theorem B6(O:dW):O.a9.length=O.leaves.length:=by simp [dW.a9]
theorem Ap{aE:World}{jC:Nat}{L:Value}{n:Nat}{dR:List Value}(Z:yB aE.heap jC L n dR):(Builtin.firstCells jC n L).run P aE=.ok dR.toArray aE:=by
 obtain⟨a,_,Z⟩:=Z
 split at Z
 ·have b:=Al (P:=P) dR _ 0 #[] aE Z
  simp only [Builtin.firstCells,loadCells,← a,b]
  simp
 ·subst Z;rfl
 ·subst Z
  simp only [Builtin.firstCells,Sem.run_pure]
  congr 1
  apply Array.ext'
  simp
 ·cases Z
theorem Eu{L:Value}{n:Nat}(Z:Ah L=some n)(aE:World):(Builtin.lenOf L).run P aE=.ok n aE:=by
 unfold Ah at Z
 split at Z <;> simp_all [Builtin.lenOf]
theorem IU(dA:h4 P E){t:TypeId}(Z:wP E t=true):(∃ N,P.underlying t=some (.slice N))∨P.underlying t=some .string:=by
 unfold wP at Z
 split at Z
 ·rename_i a;exact .inl ⟨_,pP (dA.ty _ _ a)⟩
 ·rename_i a;exact .inr (wT (dA.ty _ _ a))
 ·cases Z
set_option maxHeartbeats 2000000 in
theorem IV(dA:h4 P E){t m N ty:TypeId}{O:dW}{gH:List h3}{K:Nat}(a1:look E.types t=some ⟨.slice N,gH,K⟩)(u:look E.types N=some O)(w:wP E m=true)
  (x:O.ty.isTuple=false) {a:S} {l c:Nat} {L:Value} {aE:World} {aH:Value→U→Prop} (aW:g3 aE.heap N O a l c L fun a l c aB=>aH (.slice a l c) aB) :
  ∃ v cK,(Builtin.append_ #[t,m] ty #[.slice a l c,L]).run P aE=.ok v cK∧e2 aE cK∧aH v cK.heap:=by
 have eL:=pP (dA.ty _ _ a1)
 obtain⟨inf,a8,bH,a3,bS,y,z⟩:=wV (dA.ty _ _ u) x
 have o:bS.cells=O.a9.toArray:=by apply Array.ext';simpa using z
 have h:=IU dA w
 obtain⟨n,dR,A,i,f,B⟩:=aW
 have j:=fun C=>Eu (P:=P) A C
 by_cases e:l+n≤c
 ·have f:=f e
  have g:(Builtin.firstCells inf.size n L).run P aE=.ok dR.toArray aE:=Ap (by rw [bH];exact i)
  cases a with
  | none=>
   refine⟨_,aE,?_,e2.refl aE,f⟩
   rcases h with ⟨q,b⟩ | b <;>
    simp [Builtin.append_,hD eL,hD b,lV a8,j,e,g]
  | some p=>
   obtain⟨D,k⟩:=f
   obtain⟨cK,r,aG,F⟩:=Ao (P:=P) D i.2.1
   refine⟨_,cK,?_,aG,by rw [F];exact k⟩
   rw [← bH] at r
   rcases h with ⟨q,b⟩ | b <;>
    simp [Builtin.append_,hD eL,hD b,lV a8,j,e,g,r]
 ·obtain⟨Qx,Qy,Qz,oW,G,k⟩:=B e
  have g:(Builtin.firstCells inf.size n L).run P aE.drew=.ok dR.toArray aE.drew:=Ap (by rw [bH];exact i)
  have H:(Builtin.firstCells inf.size l (.slice a l c)).run P aE.drew=.ok oW.toArray aE.drew:=Ap (by rw [bH];exact G)
  have I:inf.bytes ≠ 0:=by rw [a3];omega
  have J:¬ 281474976710656 < Builtin.nextslicecap (l+n) c*inf.bytes:=by rw [a3];omega
  obtain⟨d,s⟩:∃ d,d=Question.cut (.appendCap (l+n) c N) (aE.tape aE.drawn (.appendCap (l+n) c N)):=⟨_,rfl⟩
  have Q:l+n≤d:=by rw [s];simp only [Question.cut];omega
  have T:Builtin.zeroCells bS.cells (d - (l+n))=(iD O.a9 (d - (l+n))).toArray:=by
   unfold Builtin.zeroCells
   exact B5 O.a9 _ _ (by rw [o];simp) _ o
  have V:(Question.appendCap (l+n) c N).forced=false:=rfl
  refine⟨_,aE.drew.alloc (.cells (oW ++ (dR ++ iD O.a9 (d - (l+n)))).toArray N (0,0)),?_,⟨rfl,rfl,rfl⟩,k d Q⟩
  rcases h with ⟨q,b⟩ | b <;>
   simp [Builtin.append_,hD eL,hD b,lV a8,j,e,BY a8,I,J,H,g,wW a8 y,newRow,T,V,← s]
theorem IW(dA:h4 P E){t N ty:TypeId}{qN:List TypeId}{O:dW}{gH:List h3}{K:Nat}(a1:look E.types t=some ⟨.slice N,gH,K⟩)(g:look E.types N=some O)
  {a:S} {l c:Nat} {L:Value} {aE:World} {aH:Value→U→Prop} (aW:n5 aE.heap O.leaves.length a l L fun n aB=>aH (.int .i64 n) aB) :
  ∃ v cK,(Builtin.copy_ (t :: qN).toArray ty #[.slice a l c,L]).run P aE=.ok v cK∧e2 aE cK∧aH v cK.heap:=by
 have eL:=pP (dA.ty _ _ a1)
 obtain⟨inf,a8,bH,_⟩:=qL (dA.ty _ _ g)
 obtain⟨n,dR,h,b,aW⟩:=aW
 have d:=fun i=>Eu (P:=P) h i
 have e:(Builtin.firstCells inf.size (Nat.min n l) L).run P aE=.ok dR.toArray aE:=Ap (by rw [bH];exact b)
 have f:min n l=Nat.min n l:=rfl
 cases a with
 | none=>
  refine⟨_,aE,?_,e2.refl aE,aW⟩
  simp [Builtin.copy_,hD eL,lV a8,d,e,goInt,f]
 | some p=>
  obtain⟨j,k⟩:=aW
  obtain⟨cK,r,aG,m⟩:=Ao (P:=P) j b.2.1
  refine⟨_,cK,?_,aG,by rw [m];exact k⟩
  simp [Builtin.copy_,hD eL,lV a8,d,e,goInt,r,f]
theorem IX(O:dW):∀ v ∈ O.a9,n4 v=true:=by
 intro v b5
 obtain⟨R,_,rfl⟩:=List.mem_map.1 b5
 cases R <;> rfl
theorem Ev{a9:List Value}(Z:∀ v ∈ a9,n4 v=true):∀ n,∀ v ∈ iD a9 n,n4 v=true
 | 0,v,b5=>by simp [iD] at b5
 | n+1,v,b5=>by
  simp only [iD,List.mem_append] at b5
  rcases b5 with b5 | b5
  ·exact Z v b5
  ·exact Ev Z n v b5
theorem IY(dA:h4 P E){t N ty:TypeId}{O:dW}{gH:List h3}{K:Nat}(a1:look E.types t=some ⟨.slice N,gH,K⟩)(d:look E.types N=some O)(e:O.ty.isTuple=false)
  {a:S} {l c:Nat} {aE:World} {aH:Value→U→Prop} (aW:Ai aE.heap O a l fun aB=>aH (.tuple #[]) aB) :
  ∃ v cK,(Builtin.clear_ #[t] ty #[.slice a l c]).run P aE=.ok v cK∧e2 aE cK∧aH v cK.heap:=by
 have eL:=pP (dA.ty _ _ a1)
 obtain⟨inf,a8,bH,a3,bS,f,g⟩:=wV (dA.ty _ _ d) e
 have b:bS.cells=O.a9.toArray:=by apply Array.ext';simpa using g
 cases a with
 | none=>exact⟨_,aE,by simp [Builtin.clear_,hD eL],e2.refl aE,aW⟩
 | some p=>
  cases l with
  | zero=>exact⟨_,aE,by simp [Builtin.clear_,hD eL],e2.refl aE,aW⟩
  | succ l=>
   obtain⟨h,i⟩:=aW
   have j:(iD O.a9 (l+1)).length=(l+1)*O.leaves.length:=by rw [yH,B6]
   obtain⟨cK,r,aG,k⟩:=Ao (P:=P) (b8:=iD O.a9 (l+1)) (by rw [j];exact h) (Ev (IX O) _)
   have m:Builtin.zeroCells bS.cells (l+1)=(iD O.a9 (l+1)).toArray:=by
    unfold Builtin.zeroCells
    exact B5 O.a9 _ _ (by rw [b];simp) _ b
   refine⟨_,cK,?_,aG,by rw [k];exact i⟩
   simp [Builtin.clear_,hD eL,wW a8 f,m,r]
theorem IZ(dA:h4 P E){t N:TypeId}{O:dW}{gH:List h3}{K:Nat}(a1:look E.types t=some ⟨.slice N,gH,K⟩)(f:look E.types N=some O)(g:O.ty.isTuple=false)
  {R c1:IntKind} {n m:Int} {aE:World} {aH:Value→U→Prop} (aW:iS aE.heap N O n m fun p aB=>aH (.slice (some p) n.toNat m.toNat) aB) :
  ∃ v cK,(Instr.makeSlice t (.int R n) (.int c1 m)).run P aE=.ok v cK∧e2 aE cK∧aH v cK.heap:=by
 have eL:=pP (dA.ty _ _ a1)
 obtain⟨inf,a8,bH,a3,bS,h,i⟩:=wV (dA.ty _ _ f) g
 have j:bS.cells=O.a9.toArray:=by apply Array.ext';simpa using i
 obtain⟨⟨r,k,s,u⟩,l⟩:=aW
 have w:m≤281474976710656:=by
  have:(1:Int)*m≤(O.bytes:Int)*m:=Int.mul_le_mul_of_nonneg_right (by omega) (by omega)
  omega
 have x:¬ (O.bytes:Int)*n > 281474976710656:=by
  have:(O.bytes:Int)*n≤(O.bytes:Int)*m:=Int.mul_le_mul_of_nonneg_left k (by omega)
  omega
 have b:IntKind.i64.wrap n=n:=by simp [IntKind.wrap,IntKind.bits,IntKind.signed];omega
 have c:IntKind.i64.wrap m=m:=by simp [IntKind.wrap,IntKind.bits,IntKind.signed];omega
 have d:∀ aT:Array Value,(m.toNat*inf.size ≠ 0→aT=bS.cells)→(Array.range (m.toNat*inf.size)).map (fun aD=>aT[aD % aT.size]!)=(iD O.a9 m.toNat).toArray:=by
  intro aT o
  exact Et O.a9 _ _ (by rw [bH,B6]) _ fun Z=>by rw [o Z,j]
 refine⟨_,{ aE with heap:=aE.heap.push (.cells (iD O.a9 m.toNat).toArray N (0,0)) },?_,⟨rfl,rfl,rfl⟩,l⟩
 have aK:¬ m < 0:=by omega
 have bN:¬ (281474976710656:Int) < (inf.bytes:Int)*m:=by rw [a3];omega
 have cZ:¬ n < 0:=by omega
 have eN:¬ n > m:=by omega
 have e:¬ m < n:=by omega
 by_cases a2:m.toNat*inf.size=0
 ·have a:=d #[] (fun Z=>absurd a2 Z)
  rw [a2] at a
  have q:(iD O.a9 m.toNat).toArray=#[]:=by rw [← a];simp
  simp only [Instr.makeSlice,Sem.run_bind,hD eL,Result.andThen,Go.asInt,asIntOf,Sem.run_pure,BY a8,b,c]
  simp [aK,bN,cZ,eN,e,lV a8,a2,newRow,q,Array.range_zero']
 ·have a:=d bS.cells (fun _=>rfl)
  simp only [Instr.makeSlice,Sem.run_bind,hD eL,Result.andThen,Go.asInt,asIntOf,Sem.run_pure,BY a8,b,c]
  simp [aK,bN,cZ,eN,e,lV a8,a2,wW a8 h,newRow,a]
theorem I0{aE:World}{aI:Addr}{t0:TypeId}{b:Int→Int→U→Prop}{d:Prop}(aW:Aj aE.heap aI b d):
  (∃ O c cK,(Instr.next (.pointer (some aI)) true t0).run P aE=.ok (.tuple #[.bool true,.int .i64 O,.int .i32 c]) cK∧e2 aE cK∧b O c cK.heap)∨
  ((Instr.next (.pointer (some aI)) true t0).run P aE=.ok (.tuple #[.bool false]) aE∧d):=by
 obtain⟨K,off,f⟩:=aI
 obtain⟨a2,aG,pos,a3,cC,e⟩:=aW
 dsimp only at a2 a3 cC
 subst a2
 by_cases a:pos < aG.size
 ·refine .inl ⟨_,_,{ aE with heap:=D3 aE.heap K aG (pos+(Utf8.decode aG pos).2) },?_,⟨rfl,rfl,rfl⟩,cC a⟩
  simp only [Instr.next,getObj,setObj,Sem.run_bind,Sem.run,a3,Result.andThen,a,if_true]
  rfl
 ·refine .inr ⟨?_,e a⟩
  simp [Instr.next,getObj,Sem.run,a3,a]
theorem I1{aE:World}{a:S}{l c:Nat}{aH:ByteArray→Prop}(aW:Ak aE.heap a l aH):∃ aG,(Conv.bytesToString (.slice a l c)).run P aE=.ok (.string aG) aE∧aH aG:=by
 cases a with
 | none=>exact⟨_,rfl,aW⟩
 | some p=>
  obtain⟨b,d,e,f⟩:=aW
  refine⟨_,?_,f⟩
  have a1:=Al (P:=P) (b.map fun K=>Value.int .u8 K.toNat) p 0 #[] aE e
  rw [List.length_map,d] at a1
  have g:∀ (l:List UInt8) (aG:ByteArray),List.foldl (fun (K:ByteArray) (a:UInt8)=>K.push a) aG l=⟨aG.data ++ l.toArray⟩:=by
   intro l
   induction l with
   | nil=>intro aG;simp
   | cons L l bZ=>intro aG;rw [List.foldl_cons,bZ];simp [ByteArray.push]
  simp [Conv.bytesToString,loadCells,a1,g]
def oZ(P:Program)(aQ:Oper)(a:Act)(aE:World)(v:Value):Prop:=(execOp a.eval aQ).run P aE=.ok (.value v) aE
def B7(P:Program)(aQ:Oper)(a:Act)(aE:World)(v:Value):Prop:=
 ∃ f args,(execOp a.eval aQ).run P aE=.ok (.enter f args) aE∧Calls P f args aE (fun N cK=>N=.returned v∧e2 aE cK∧cK.heap=aE.heap)
def nE(P:Program)(aQ:Oper)(a:Act)(aE:World)(bP:Value→U→Prop):Prop:=
 (∃ v cK,(execOp a.eval aQ).run P aE=.ok (.value v) cK∧e2 aE cK∧bP v cK.heap)∨
 (∃ cK,(execOp a.eval aQ).run P aE=.ok .skip cK∧e2 aE cK∧bP undef cK.heap)∨
 (∃ f args,(execOp a.eval aQ).run P aE=.ok (.enter f args) aE∧Calls P f args aE (fun N cK=>∃ v,N=.returned v∧e2 aE cK∧bP v cK.heap))
theorem nE.mono{aQ:Oper}{a:Act}{aE:World}{bP gQ:Value→U→Prop}(b:∀ v Z,bP v Z→gQ v Z)(Z:nE P aQ a aE bP):nE P aQ a aE gQ:=by
 rcases Z with ⟨v,cK,r,aG,R⟩ | ⟨cK,r,aG,R⟩ | ⟨f,args,r,c⟩
 ·exact .inl ⟨v,cK,r,aG,b _ _ R⟩
 ·exact .inr (.inl ⟨cK,r,aG,b _ _ R⟩)
 ·exact .inr (.inr ⟨f,args,r,c.mono fun _ _ ⟨v,N,aG,R⟩=>⟨v,N,aG,b _ _ R⟩⟩)
theorem nE.some{aQ:Oper}{a:Act}{aE:World}{bP:Value→U→Prop}(Z:nE P aQ a aE bP):∃ v aB,bP v aB:=by
 rcases Z with ⟨v,cK,r,aG,R⟩ | ⟨cK,r,aG,R⟩ | ⟨f,args,r,c⟩
 ·exact⟨v,_,R⟩
 ·exact⟨_,_,R⟩
 ·obtain⟨N,cK,X,⟨v,_,_,R⟩,_⟩:=c []
  exact⟨v,_,R⟩
theorem nE.wp{aQ:Oper}{a:Act}{aE:World}{bP:Value→U→Prop}(Z:nE P aQ a aE bP){next:Act→World→Prop}{Q:Exit→Act→World→Prop}
  (b:∀ v cK,e2 aE cK→bP v cK.heap→next (a.put aQ.dst v) cK):aQ.wp P a aE next Q:=by
 unfold Oper.wp
 rcases Z with ⟨v,cK,r,aG,R⟩ | ⟨cK,r,aG,R⟩ | ⟨f,args,r,c⟩
 ·rw [r];exact b v cK aG R
 ·rw [r];exact b _ cK aG R
 ·rw [r,Oper.upon_enter]
  refine c.mono ?_
  rintro N cK ⟨v,rfl,aG,R⟩
  exact b v cK aG R
theorem B8(dA:h4 P E){aQ:Oper}{X:Fr}{a:Act}(s:a.eval=c3 X){aE:World}{aH:Value→U→Prop}(aW:j2 P E aQ.op aQ.type X aE.heap aH):nE P aQ a aE aH:=by
 have value:∀ v cK,(execOp (c3 X) aQ).run P aE=.ok (.value v) cK→e2 aE cK→aH v cK.heap→nE P aQ a aE aH:=by
  intro v cK j aG R
  exact .inl ⟨v,cK,by rw [s];exact j,aG,R⟩
 obtain⟨dst,op,type,pos,after,guard⟩:=aQ
 simp only at aW
 cases op with
 | range t L=>
  simp only [j2] at aW
  split at aW
  ·rename_i gH K aG b h
   have eL:=wT (dA.ty _ _ b)
   refine value _ { aE with heap:=aE.heap.push (.stringIter aG 0) } ?_ ⟨rfl,rfl,rfl⟩ aW
   simp [execOp,h,Instr.range,hD eL]
  ·cases aW
 | next L K=>
  cases K with
  | false=>exact aW.elim
  | true=>
   simp only [j2,cond_true] at aW
   split at aW
   ·rename_i aI h
    rcases I0 (P:=P) (t0:=type) aW with ⟨O,c,cK,r,aG,R⟩ | ⟨r,R⟩
    ·exact value _ cK (by simp [execOp,h,r]) aG R
    ·exact value _ aE (by simp [execOp,h,r]) ⟨rfl,rfl,rfl⟩ R
   ·cases aW
 | convert aG aZ L=>
  simp only [j2] at aW
  split at aW
  ·rename_i N gH K QK QL M l i F G h
   split at aW
   ·rename_i QM g4 H
    have eL:=pP (dA.ty _ _ F)
    have I:=wT (dA.ty _ _ G)
    have J:=BW (dA.ty _ _ H)
    obtain⟨aG,r,R⟩:=I1 (P:=P) (c:=i) aW
    refine value _ aE ?_ ⟨rfl,rfl,rfl⟩ R
    simp [execOp,h,convert,hD eL,hD I,hD J,r]
   ·cases aW
  ·cases aW
 | store t L v=>
  simp only [j2] at aW
  split at aW
  ·rename_i aI O h b
   obtain⟨inf,a8,bH,_⟩:=qL (dA.ty _ _ b)
   have run:∀ cK,(storeCells aI (c3 X v).cells.toList).run P aE=.ok () cK→(c3 X v).cells.size=inf.size→e2 aE cK→aH undef cK.heap→nE P ⟨dst,.store t L v,type,pos,after,guard⟩ a aE aH:=by
    intro cK j Q aG R
    refine .inr (.inl ⟨cK,?_,aG,R⟩)
    rw [s]
    simp [execOp,h,Instr.storeAt,Instr.sureAddr,storeVar,lV a8,Q,j]
   unfold wO at aW
   split at aW
   ·rename_i dR b5
    cases a3:Nat.beq dR.toList.length O.leaves.length with
    | false=>rw [a3] at aW;cases aW
    | true=>
     rw [a3] at aW
     simp only [cond_true] at aW
     obtain⟨cK,r,aG,R⟩:=Er (P:=P) aW
     have:=Nat.eq_of_beq_eq_true a3
     exact run cK (by rw [b5];exact r) (by rw [b5,bH,← this];simp [Value.cells]) aG R
   ·cases aW
   ·rename_i QN o A
    cases a3:Nat.beq 1 O.leaves.length with
    | false=>rw [a3] at aW;cases aW
    | true=>
     rw [a3] at aW
     simp only [cond_true] at aW
     obtain⟨⟨T,V⟩,Qx⟩:=aW
     have Qy:n4 (c3 X v)=true:=by
      cases N:c3 X v <;> first | rfl | exact absurd N (o _) | exact absurd N (A _)
     have p:(c3 X v).cells=#[c3 X v]:=by
      cases N:c3 X v <;> first | rfl | exact absurd N (o _) | exact absurd N (A _)
     have j:=BZ (P:=P) T V Qy
     have:=Nat.eq_of_beq_eq_true a3
     exact run (aE.setCell aI (c3 X v)) (by rw [p];simp [storeCells,add_zero,j]) (by rw [p,bH,← this];rfl) ⟨rfl,rfl,rfl⟩ Qx
  ·cases aW
 | box N v=>
  simp only [j2,dX] at aW
  refine value _ { aE with heap:=aE.heap.push (.cells (c3 X v).cells N (0,0)) } ?_ ⟨rfl,rfl,rfl⟩ aW
  simp [execOp,Instr.box,newVar,newRow]
 | alloc N=>
  simp only [j2] at aW
  split at aW
  ·cases aW
  ·rename_i O d b
   have e:O.ty.isTuple=false:=by
    obtain⟨ty,gH,K⟩:=O
    cases ty <;> first | rfl | exact absurd rfl (d _ _ _)
   obtain⟨inf,a8,bH,a3,bS,u,w⟩:=wV (dA.ty _ _ b) e
   have x:bS.cells=O.a9.toArray:=by apply Array.ext';simpa using w
   refine value _ { aE with heap:=aE.heap.push (.cells O.a9.toArray N (0,0)) } ?_ ⟨rfl,rfl,rfl⟩ aW
   simp [execOp,Instr.alloc,newVar,newRow,wW a8 u,x]
  ·cases aW
 | makeSlice t l c=>
  simp only [j2] at aW
  split at aW
  ·rename_i N gH K eR n Qz m b QA QB
   split at aW
   ·cases aW
   ·rename_i O d g
    have e:O.ty.isTuple=false:=by
     obtain⟨ty,gH,K⟩:=O
     cases ty <;> first | rfl | exact absurd rfl (d _ _ _)
    obtain⟨v,cK,r,aG,R⟩:=IZ (P:=P) (R:=eR) (c1:=Qz) dA b g e aW
    refine value v cK ?_ aG R
    simp [execOp,QA,QB,r]
   ·cases aW
  ·cases aW
 | buildSlice t n parts=>
  simp only [j2] at aW
  split at aW
  ·rename_i N gH K b
   split at aW
   ·cases aW
   ·rename_i O d g
    have e:O.ty.isTuple=false:=by
     obtain⟨ty,gH,K⟩:=O
     cases ty <;> first | rfl | exact absurd rfl (d _ _ _)
    cases y:Nat.ble (n*O.leaves.length) 16777216 with
    | false=>rw [y] at aW;cases aW
    | true=>
     rw [y] at aW
     simp only [cond_true] at aW
     split at aW
     ·rename_i cells p
      have eL:=pP (dA.ty _ _ b)
      obtain⟨inf,a8,bH,a3,bS,u,w⟩:=wV (dA.ty _ _ g) e
      have x:bS.cells=O.a9.toArray:=by apply Array.ext';simpa using w
      have QO:=Nat.le_of_ble_eq_true y
      have B:=B2 (B3:=fun aD=>some (aD*inf.size,inf.size)) (fun aD=>by rw [bH]) _ _ _ p
      refine value _ { aE with heap:=aE.heap.push (.cells cells.toArray N (0,0)) } ?_ ⟨rfl,rfl,rfl⟩ aW
      have QC:¬ n*inf.size > 2 ^ 24:=by rw [bH];omega
      have C:(Array.map (fun (L:Nat × Operand)=>match L with | (O,L)=>(O,c3 X L)) parts).toList=parts.toList.map fun (O,L)=>(O,c3 X L):=by simp
      have D:∀ aT:Array Value,(n*inf.size ≠ 0→aT=bS.cells)→(Array.range (n*inf.size)).map (fun aD=>aT[aD % aT.size]!)=(iD O.a9 n).toArray:=by
       intro aT QD
       exact Et O.a9 _ _ (by rw [bH,B6]) _ fun Z=>by rw [QD Z,x]
      by_cases a2:n*inf.size=0
      ·have q:=D #[] (fun Z=>absurd a2 Z)
       have QE:¬ (0:Nat) > 2 ^ 24:=by decide
       rw [a2] at q
       simp only [execOp,Sem.run_bind,Instr.buildSlice,hD eL,Result.andThen,lV a8,a2,if_neg QE,if_true,Sem.run_pure,q,C,B]
       rfl
      ·have q:=D bS.cells (fun _=>rfl)
       simp only [execOp,Sem.run_bind,Instr.buildSlice,hD eL,Result.andThen,lV a8,if_neg QC,a2,if_false,Sem.run_pure,wW a8 u]
       simp only [q,C,B]
       rfl
     ·cases aW
   ·cases aW
  ·cases aW
 | call c=>
  obtain⟨callee,⟨args⟩,⟨qN⟩⟩:=c
  simp only [j2] at aW
  split at aW
  ·
   split at aW
   ·rename_i aG L t QF
    cases z:wP E QF with
    | false=>rw [z] at aW;cases aW
    | true=>
     rw [z] at aW
     simp only [cond_true] at aW
     split at aW
     ·rename_i N gH K M l i b bH
      split at aW
      ·cases aW
      ·rename_i O d g
       have e:O.ty.isTuple=false:=by
        obtain⟨ty,gH,K⟩:=O
        cases ty <;> first | rfl | exact absurd rfl (d _ _ _)
       obtain⟨v,cK,r,k,R⟩:=IV (P:=P) (ty:=type) dA b g z e aW
       refine value v cK ?_ k R
       simp [execOp,resolve,invoke,builtin,bH,r]
      ·cases aW
     ·cases aW
   ·cases aW
  ·
   split at aW
   ·rename_i aZ L t kQ
    split at aW
    ·rename_i N gH K M l i b bH
     split at aW
     ·cases aW
     ·rename_i O d g
      obtain⟨v,cK,r,k,R⟩:=IW (P:=P) (ty:=type) (qN:=kQ) (c:=i) dA b g aW
      refine value v cK ?_ k R
      simp [execOp,resolve,invoke,builtin,bH,r]
     ·cases aW
    ·cases aW
   ·cases aW
  ·
   split at aW
   ·rename_i aZ t
    split at aW
    ·rename_i N gH K M l i b bH
     split at aW
     ·cases aW
     ·rename_i O d g
      have e:O.ty.isTuple=false:=by
       obtain⟨ty,gH,K⟩:=O
       cases ty <;> first | rfl | exact absurd rfl (d _ _ _)
      obtain⟨v,cK,r,k,R⟩:=IY (P:=P) (ty:=type) (c:=i) dA b g e aW
      refine value v cK ?_ k R
      simp [execOp,resolve,invoke,builtin,bH,r]
     ·cases aW
    ·cases aW
   ·cases aW
  ·
   rename_i f
   split at aW
   ·rename_i b
    obtain⟨fn,QG,o,a3,_⟩:=An dA b
    have a3:=a3 (.inl rfl)
    have QH:(execOp (c3 X) ⟨dst,.call ⟨.value (.func f),⟨args⟩,⟨qN⟩⟩,type,pos,after,guard⟩).run P aE=.ok (.enter f (args.map (c3 X)).toArray) aE:=by
     have QI:¬ fn.name="runtime.NumGoroutine":=by simpa using o
     have QJ:¬ fn.body=none:=by intro N;rw [N] at a3;cases a3
     simp [execOp,resolve,Deferred.ofValue,c3,invoke,callFunc,QG,QI,QJ]
    refine .inr (.inr ⟨f,_,by rw [s];exact QH,(aW aE rfl).mono ?_⟩)
    rintro N cK ⟨v,rfl,aG,R⟩
    exact⟨v,rfl,aG,B1 R⟩
   ·cases aW
  ·cases aW
 | _=>exact aW.elim
end
set_option linter.unusedSimpArgs false
section
variable {P:Program} {E:Env}
def fE(P:Program)(E:Env)(md:Bool)(c4:Nat)(ops:Array Oper)(aQ:Oper)(a:Act)(Z:U)(bP:Value→U→Prop):Prop:=
 if Region.wanted aQ (yielded ops a.tmps) then
  match gP E aQ.op with
  | .pure=>∃ v,(∀ aE,oZ P aQ a aE v)∧bP v Z
  | .load=>∃ v,(∀ aE:World,cond md (e4 c4 Z aE.heap) (aE.heap=Z)→oZ P aQ a aE v)∧bP v Z
  | .quiet=>∃ v,(∀ aE:World,aE.heap=Z→B7 P aQ a aE v)∧bP v Z
  | .call=>∀ aE:World,aE.heap=Z→nE P aQ a aE fun v aB=>(md=true→e4 c4 Z aB)∧bP v aB
  | .act=>∀ aE:World,aE.heap=Z→nE P aQ a aE bP
 else bP undef Z
def wX(Z:U):World:={ heap:=Z,tape:=fun _ _=>0,drawn:=0,os:=default,output:=#[] }
theorem mC{md:Bool}{c4:Nat}{ops:Array Oper}{aQ:Oper}{a:Act}{Z:U}{bP gQ:Value→U→Prop}(c:∀ v Z,bP v Z→gQ v Z)(bH:fE P E md c4 ops aQ a Z bP):fE P E md c4 ops aQ a Z gQ:=by
 unfold fE at *
 split
 ·rename_i b
  rw [if_pos b] at bH
  cases d:gP E aQ.op with
  | pure=>simp only [d] at bH ⊢;obtain⟨v,a1,e⟩:=bH;exact⟨v,a1,c _ _ e⟩
  | load=>simp only [d] at bH ⊢;obtain⟨v,a1,e⟩:=bH;exact⟨v,a1,c _ _ e⟩
  | quiet=>simp only [d] at bH ⊢;obtain⟨v,a1,e⟩:=bH;exact⟨v,a1,c _ _ e⟩
  | call=>simp only [d] at bH ⊢;exact fun aE b=>(bH aE b).mono fun v aB R=>⟨R.1,c _ _ R.2⟩
  | act=>simp only [d] at bH ⊢;exact fun aE b=>(bH aE b).mono c
 ·rename_i b;rw [if_neg b] at bH;exact c _ _ bH
theorem Ew{md:Bool}{c4:Nat}{ops:Array Oper}{aQ:Oper}{a:Act}{Z:U}{bP:Value→U→Prop}(bH:fE P E md c4 ops aQ a Z bP):∃ v aB,bP v aB:=by
 unfold fE at bH
 split at bH
 ·cases b:gP E aQ.op with
  | pure=>simp only [b] at bH;obtain⟨v,a1,c⟩:=bH;exact⟨_,_,c⟩
  | load=>simp only [b] at bH;obtain⟨v,a1,c⟩:=bH;exact⟨_,_,c⟩
  | quiet=>simp only [b] at bH;obtain⟨v,a1,c⟩:=bH;exact⟨_,_,c⟩
  | call=>simp only [b] at bH;obtain⟨v,aB,R⟩:=(bH (wX Z) rfl).some;exact⟨v,aB,R.2⟩
  | act=>simp only [b] at bH;exact(bH (wX Z) rfl).some
 ·exact⟨_,_,bH⟩
theorem oZ.inj{aQ:Oper}{a:Act}{aE:World}{v b:Value}(Z:oZ P aQ a aE v)(aB:oZ P aQ a aE b):v=b:=by
 unfold oZ at *
 rw [Z] at aB
 cases aB
 rfl
theorem e4.refl(c4:Nat)(Z:U):e4 c4 Z Z:=fun _ _=>rfl
theorem e4.symm{c4:Nat}{Z aB:U}(p:e4 c4 Z aB):e4 c4 aB Z:=fun K a3=>(p K a3).symm
theorem e4.trans{c4:Nat}{a K c:U}(p:e4 c4 a K)(aI:e4 c4 K c):e4 c4 a c:=fun O a8=>(aI O a8).trans (p O a8)
theorem Ex{md:Bool}{c4:Nat}{ops:Array Oper}{aQ:Oper}{a:Act}(b:gP E aQ.op=.pure∨¬ Region.wanted aQ (yielded ops a.tmps)=true){Z:U}{bP:Value→U→Prop}(bH:fE P E md c4 ops aQ a Z bP):
  ∃ v,∀ aB gQ,fE P E md c4 ops aQ a aB gQ↔gQ v aB:=by
 by_cases c:Region.wanted aQ (yielded ops a.tmps)=true
 ·rcases b with b | b
  ·simp only [fE,if_pos c,b] at bH
   obtain⟨v,a1,_⟩:=bH
   refine⟨v,fun aB gQ=>?_⟩
   simp only [fE,if_pos c,b]
   constructor
   ·rintro⟨f,d,e⟩
    have:=(a1 (wX aB)).inj (d (wX aB))
    subst this
    exact e
   ·intro g;exact⟨v,a1,g⟩
  ·exact absurd c b
 ·exact⟨undef,fun aB gQ=>by simp only [fE,if_neg c]⟩
theorem Ey{md:Bool}{c4:Nat}{ops:Array Oper}{aQ:Oper}{a:Act}(b:gP E aQ.op=.load∨gP E aQ.op=.quiet∨gP E aQ.op=.pure){Z:U}{bP:Value→U→Prop}(bH:fE P E md c4 ops aQ a Z bP):
  ∃ v,bP v Z∧∀ gQ:Value→U→Prop,gQ v Z→fE P E md c4 ops aQ a Z gQ:=by
 by_cases c:Region.wanted aQ (yielded ops a.tmps)=true
 ·rcases b with b | b | b <;> simp only [fE,if_pos c,b] at bH ⊢ <;> obtain⟨v,a1,d⟩:=bH <;> exact⟨v,d,fun gQ R=>⟨v,a1,R⟩⟩
 ·simp only [fE,if_neg c] at bH ⊢;exact⟨undef,bH,fun gQ R=>R⟩
theorem Ez{c4:Nat}{ops:Array Oper}{aQ:Oper}{a:Act}(c:gP E aQ.op=.load){Z:U}{bP:Value→U→Prop}(bH:fE P E true c4 ops aQ a Z bP):
  ∃ v,∀ aB gQ,e4 c4 Z aB→(fE P E true c4 ops aQ a aB gQ↔gQ v aB):=by
 by_cases b:Region.wanted aQ (yielded ops a.tmps)=true
 ·simp only [fE,if_pos b,c,cond_true] at bH
  obtain⟨v,a1,_⟩:=bH
  refine⟨v,fun aB gQ d=>?_⟩
  simp only [fE,if_pos b,c,cond_true]
  constructor
  ·rintro⟨h,e,f⟩
   have:=(a1 (wX aB) d).inj (e (wX aB) (e4.refl _ _))
   subst this
   exact f
  ·intro g;exact⟨v,fun aE b=>a1 aE (d.trans b),g⟩
 ·exact⟨undef,fun aB gQ _=>by simp only [fE,if_neg b]⟩
theorem EA{c4:Nat}{ops:Array Oper}{aQ:Oper}{a:Act}(c:gP E aQ.op=.call){Z:U}{bP:Value→U→Prop}(bH:fE P E true c4 ops aQ a Z bP):
  fE P E true c4 ops aQ a Z fun v aB=>e4 c4 Z aB∧bP v aB:=by
 by_cases b:Region.wanted aQ (yielded ops a.tmps)=true
 ·simp only [fE,if_pos b,c] at bH ⊢
  exact fun aE b=>(bH aE b).mono fun v aB R=>⟨R.1,R.1 trivial,R.2⟩
 ·simp only [fE,if_neg b] at bH ⊢;exact⟨e4.refl _ _,bH⟩
theorem EB{md:Bool}{c4:Nat}{ops:Array Oper}{O aD:Oper}{a:Act}(b:k1 md (gP E O.op) (gP E aD.op)=true){Z:U}{bP:Value→Value→U→Prop}
  (bH:fE P E md c4 ops O a Z fun v aB=>fE P E md c4 ops aD a aB fun cY d=>bP v cY d):fE P E md c4 ops aD a Z fun cY aB=>fE P E md c4 ops O a aB fun v d=>bP v cY d:=by
 have k:gP E O.op=.pure→fE P E md c4 ops aD a Z fun cY aB=>fE P E md c4 ops O a aB fun v d=>bP v cY d:=by
  intro g
  obtain⟨v,b5⟩:=Ex (.inl g) bH
  have a1:=(b5 _ _).1 bH
  exact mC (fun cY aB R=>(b5 aB _).2 R) a1
 have e:gP E aD.op=.pure→fE P E md c4 ops aD a Z fun cY aB=>fE P E md c4 ops O a aB fun v d=>bP v cY d:=by
  intro g
  obtain⟨l,a2,h⟩:=Ew bH
  obtain⟨cY,hu⟩:=Ex (.inl g) h
  exact(hu Z _).2 (mC (fun v aB R=>(hu aB _).1 R) bH)
 have f:(gP E O.op=.load∨gP E O.op=.quiet∨gP E O.op=.pure)→(gP E aD.op=.load∨gP E aD.op=.quiet∨gP E aD.op=.pure)→fE P E md c4 ops aD a Z fun cY aB=>fE P E md c4 ops O a aB fun v d=>bP v cY d:=by
  intro a1 m
  obtain⟨v,b5,n⟩:=Ey a1 bH
  obtain⟨cY,hu,o⟩:=Ey m b5
  exact o _ (n _ hu)
 cases a8:gP E O.op with
 | pure=>exact k a8
 | load=>
  cases c:gP E aD.op with
  | pure=>exact e c
  | load=>exact f (.inl a8) (.inl c)
  | quiet=>exact f (.inl a8) (.inr (.inl c))
  | call=>
   rw [a8,c] at b
   simp only [k1] at b
   subst b
   obtain⟨v,b5⟩:=Ez a8 bH
   have a1:=(b5 Z _ (e4.refl _ _)).1 bH
   exact mC (fun cY aB R=>(b5 aB _ R.1).2 R.2) (EA c a1)
  | act=>rw [a8,c] at b;simp [k1] at b
 | quiet=>
  cases c:gP E aD.op with
  | pure=>exact e c
  | load=>exact f (.inr (.inl a8)) (.inl c)
  | quiet=>exact f (.inr (.inl a8)) (.inr (.inl c))
  | call=>rw [a8,c] at b;simp [k1] at b
  | act=>rw [a8,c] at b;simp [k1] at b
 | call=>
  cases c:gP E aD.op with
  | pure=>exact e c
  | load=>
   rw [a8,c] at b
   simp only [k1] at b
   subst b
   have i:=EA a8 bH
   obtain⟨l,a2,j,h⟩:=Ew i
   obtain⟨cY,hu⟩:=Ez c h
   refine(hu Z _ j.symm).2 (mC (fun v aB R=>?_) i)
   exact(hu aB _ (j.symm.trans R.1)).1 R.2
  | quiet=>rw [a8,c] at b;simp [k1] at b
  | call=>rw [a8,c] at b;simp [k1] at b
  | act=>rw [a8,c] at b;simp [k1] at b
 | act=>
  cases c:gP E aD.op with
  | pure=>exact e c
  | load=>rw [a8,c] at b;simp [k1] at b
  | quiet=>rw [a8,c] at b;simp [k1] at b
  | call=>rw [a8,c] at b;simp [k1] at b
  | act=>rw [a8,c] at b;simp [k1] at b
theorem Aq{md:Bool}{c4:Nat}{ops:Array Oper}{aQ:Oper}{a:Act}{aZ:Option Tmp}{cY:Value}(b:∀ dR K,aQ.op ≠ .select dR K)(aW:∀ t,aZ=some t→t ∉ aQ.looksAt ops){Z:U}{bP:Value→U→Prop}:
  fE P E md c4 ops aQ (a.put aZ cY) Z bP=fE P E md c4 ops aQ a Z bP:=by
 have c:=execOp_put aQ b a aZ cY aW
 have d:=wanted_put aQ a aZ cY aW
 unfold fE oZ B7 nE
 rw [c,d]
def jI(P:Program)(E:Env)(md:Bool)(c4:Nat)(ops:Array Oper)(aH:Act→U→Prop):List Nat→Act→U→Prop
 | [],a,Z=>aH a Z
 | O :: l,a,Z=>match ops[O]? with
  | some aQ=>fE P E md c4 ops aQ a Z fun v aB=>jI P E md c4 ops aH l (a.put aQ.dst v) aB
  | none=>jI P E md c4 ops aH l a Z
theorem I2{md:Bool}{c4:Nat}{ops:Array Oper}{aH:Act→U→Prop}{O aD:Nat}{b c:Oper}(a8:ops[O]?=some b)(e:ops[aD]?=some c)(f:b.apart ops c=true)
  (g:∀ dR K,b.op ≠ .select dR K) (h:∀ dR K,c.op ≠ .select dR K) (i:k1 md (gP E b.op) (gP E c.op)=true) {l:List Nat} {a:Act} {Z:U}
  (bH:jI P E md c4 ops aH (O :: aD :: l) a Z):jI P E md c4 ops aH (aD :: O :: l) a Z:=by
 obtain⟨a1,j,k⟩:=Oper.apart_spec f
 simp only [jI,a8,e] at bH ⊢
 have m:fE P E md c4 ops b a Z fun v aB=>fE P E md c4 ops c a aB fun cY d=>jI P E md c4 ops aH l ((a.put b.dst v).put c.dst cY) d:=
  mC (fun v aB R=>by rw [Aq h a1] at R;exact R) bH
 have:=EB i m
 refine mC (fun cY aB R=>?_) this
 rw [Aq g k]
 refine mC (fun v d c1=>?_) R
 rw [Act.put_comm a v cY j] at c1
 exact c1
theorem I3{md:Bool}{c4:Nat}{ops:Array Oper}{b c:Oper}(e:b.apart ops c=true)
  (f:∀ dR K,b.op ≠ .select dR K) (g:∀ dR K,c.op ≠ .select dR K) (h:k1 md (gP E b.op) (gP E c.op)=true) {bP:Act→U→Prop} {a:Act} {Z:U}
  (bH:fE P E md c4 ops b a Z fun v aB=>fE P E md c4 ops c (a.put b.dst v) aB fun cY d=>bP ((a.put b.dst v).put c.dst cY) d) :
  fE P E md c4 ops c a Z fun cY aB=>fE P E md c4 ops b (a.put c.dst cY) aB fun v d=>bP ((a.put c.dst cY).put b.dst v) d:=by
 obtain⟨a1,i,j⟩:=Oper.apart_spec e
 have k:fE P E md c4 ops b a Z fun v aB=>fE P E md c4 ops c a aB fun cY d=>bP ((a.put b.dst v).put c.dst cY) d:=
  mC (fun v aB R=>by rw [Aq g a1] at R;exact R) bH
 have:=EB h k
 refine mC (fun cY aB R=>?_) this
 rw [Aq f j]
 refine mC (fun v d c1=>?_) R
 rw [Act.put_comm a v cY i] at c1
 exact c1
theorem Ar{todo:List Nat}{O aD:Nat}:aD ∈ del todo O↔aD ∈ todo∧aD ≠ O:=by
 unfold del
 rw [List.mem_filter]
 refine and_congr Iff.rfl ?_
 constructor
 ·intro Z N;subst N;simp at Z
 ·intro Z
  cases a3:Nat.beq aD O with
  | true=>exact absurd (Nat.eq_of_beq_eq_true a3) Z
  | false=>rfl
theorem EC{todo:List Nat}{O:Nat}(Z:todo.Nodup):(del todo O).Nodup:=Z.filter _
theorem I4(todo:List Nat)(O aD:Nat):del (del todo O) aD=del (del todo aD) O:=by
 unfold del
 rw [List.filter_filter,List.filter_filter]
 apply List.filter_congr
 intro L _
 rw [Bool.and_comm]
theorem ED:∀ {todo:List Nat} {O:Nat},O ∉ todo→del todo O=todo:=by
 intro todo O Z
 unfold del
 rw [List.filter_eq_self]
 intro L a
 cases a3:Nat.beq L O with
 | true=>obtain rfl:=Nat.eq_of_beq_eq_true a3;exact absurd a Z
 | false=>rfl
theorem EE{aL b3:List Nat}{O:Nat}(Z:(aL ++ O :: b3).Nodup):del (aL ++ O :: b3) O=aL ++ b3:=by
 have a1:O ∉ aL:=fun a=>by
  have:=List.nodup_append.1 Z
  exact this.2.2 O a O List.mem_cons_self rfl
 have b:O ∉ b3:=(List.nodup_cons.1 (List.nodup_append.1 Z).2.1).1
 have N:del (aL ++ O :: b3) O=del aL O ++ del (O :: b3) O:=by unfold del;rw [List.filter_append]
 have c:del (O :: b3) O=del b3 O:=by unfold del;rw [List.filter_cons];simp
 rw [N,c,ED a1,ED b]
theorem EF{todo:List Nat}{O:Nat}(Z:todo.Nodup)(a8:O ∈ todo):(del todo O).length+1=todo.length:=by
 obtain⟨aL,b3,rfl⟩:=List.append_of_mem a8
 rw [EE Z]
 simp;omega
def anyS(P:Program)(E:Env)(md:Bool)(c4:Nat)(ops:Array Oper)(b:List Nat)(aH:Act→U→Prop):Nat→List Nat→Act→U→Prop
 | 0,_,a,Z=>aH a Z
 | n+1,todo,a,Z=>∀ O aQ,O ∈ todo→qH b todo O=true→ops[O]?=some aQ→fE P E md c4 ops aQ a Z fun v aB=>anyS P E md c4 ops b aH n (del todo O) (a.put aQ.dst v) aB
theorem EG{a todo:List Nat}{O aD:Nat}(Z:qH a todo O=true):qH a (del todo aD) O=true:=by
 unfold qH at *
 rw [List.all_eq_true] at *
 exact fun L b=>Z L (Ar.1 b).1
theorem I5{md:Bool}{c4:Nat}{ops:Array Oper}{e:List Nat}{aH:Act→U→Prop}(l:∀ (aD:Nat) (aQ:Oper) dR K,ops[aD]?=some aQ→aQ.op ≠ .select dR K){O:Nat}{b:Oper}(i:ops[O]?=some b):∀ {n:Nat} {todo:List Nat},todo.length=n+1→todo.Nodup→O ∈ todo→qH e todo O=true→
  (∀ aD ∈ todo,aD ≠ O→(e.getD aD 0).testBit O=true∨∃ c,ops[aD]?=some c∧b.apart ops c=true∧k1 md (gP E b.op) (gP E c.op)=true)→∀ {a:Act} {Z:U},
  (fE P E md c4 ops b a Z fun v aB=>anyS P E md c4 ops e aH n (del todo O) (a.put b.dst v) aB)→anyS P E md c4 ops e aH (n+1) todo a Z:=by
 intro n
 induction n with
 | zero=>
  intro todo m j a8 o k a Z bH aD c f g d
  have:aD=O:=by
   obtain⟨L,rfl⟩:=List.length_eq_one_iff.1 m
   simp at a8 f
   rw [a8,f]
  subst this
  rw [i] at d
  cases d
  exact bH
 | succ n bZ=>
  intro todo m j a8 o k a Z bH aD c f g d
  by_cases h:aD=O
  ·subst h
   rw [i] at d
   cases d
   exact bH
  ·have q:(e.getD aD 0).testBit O ≠ true:=by
    unfold qH at g
    rw [List.all_eq_true] at g
    have:=g O a8
    intro N
    rw [N] at this
    cases this
   rcases k aD f h with r | ⟨z,p,s,t⟩
   ·exact absurd r q
   ·rw [d] at p
    cases p
    have a1:fE P E md c4 ops b a Z fun v aB=>fE P E md c4 ops c (a.put b.dst v) aB fun cY u=>(fun a Z=>anyS P E md c4 ops e aH n (del (del todo O) aD) a Z) ((a.put b.dst v).put c.dst cY) u:=
     mC (fun v aB R=>R aD c (Ar.2 ⟨f,h⟩) (EG g) d) bH
    have w:=I3 s (fun dR K=>l O b dR K i) (fun dR K=>l aD c dR K d) t a1
    refine mC (fun cY aB R=>?_) w
    refine bZ (todo:=del todo aD) ?_ (EC j) (Ar.2 ⟨a8,fun N=>h N.symm⟩) (EG o) (fun L x y=>k L (Ar.1 x).1 y) ?_
    ·have:=EF j f;omega
    ·rw [I4];exact R
theorem I6{md:Bool}{c4:Nat}{ops:Array Oper}{aH:Act→U→Prop}{O:Nat}{l c:List Nat}(d:∀ a Z,jI P E md c4 ops aH l a Z→jI P E md c4 ops aH c a Z){a:Act}{Z:U}
  (bH:jI P E md c4 ops aH (O :: l) a Z):jI P E md c4 ops aH (O :: c) a Z:=by
 simp only [jI] at *
 split
 ·rename_i aQ b
  simp only [b] at bH
  exact mC (fun v aB R=>d _ _ R) bH
 ·rename_i b
  simp only [b] at bH
  exact d _ _ bH
def free(E:Env)(md:Bool)(ops:Array Oper)(O aD:Nat):Prop:=
 ∃ a b,ops[O]?=some a∧ops[aD]?=some b∧a.apart ops b=true∧(∀ dR K,a.op ≠ .select dR K)∧(∀ dR K,b.op ≠ .select dR K)∧k1 md (gP E a.op) (gP E b.op)=true
theorem EH{md:Bool}{c4:Nat}{ops:Array Oper}{aH:Act→U→Prop}{aD:Nat}{b3:List Nat}:∀ {aL:List Nat},(∀ O ∈ aL,free E md ops O aD)→∀ {a:Act} {Z:U},jI P E md c4 ops aH (aL ++ aD :: b3) a Z→jI P E md c4 ops aH (aD :: (aL ++ b3)) a Z
 | [],_,a,Z,bH=>bH
 | O :: aL,b,a,Z,bH=>by
  have bZ:=fun {a Z}=>EH (c4:=c4) (aH:=aH) (b3:=b3) (aL:=aL) (fun L c=>b L (List.mem_cons_of_mem _ c)) (a:=a) (Z:=Z)
  have a1:jI P E md c4 ops aH (O :: aD :: (aL ++ b3)) a Z:=I6 (fun a Z=>bZ) bH
  obtain⟨j,k,d,e,f,g,h,i⟩:=b O List.mem_cons_self
  exact I2 d e f g h i a1
end
set_option linter.unusedSimpArgs false
section
variable {P:Program} {E:Env}
theorem I7(dA:h4 P E){aQ:Oper}{X:Fr}{a:Act}(e:a.eval=c3 X)(b:gP E aQ.op=.quiet){Z:U}{aH:Value→Prop}(aW:uR P E aQ.op aQ.type X Z aH):
  ∃ v,aH v∧∀ aE:World,aE.heap=Z→B7 P aQ a aE v:=by
 obtain⟨dst,op,type,pos,after,guard⟩:=aQ
 simp only at aW b
 cases op with
 | call c=>
  obtain⟨callee,⟨args⟩,qN⟩:=c
  simp only [uR] at aW
  split at aW
  ·rename_i f
   obtain⟨v,a1,g⟩:=aW
   refine⟨v,B1 g,fun aE d=>?_⟩
   have h:look E.fns f=some .quiet:=by
    simp only [gP] at b
    split at b <;> first | assumption | cases b
   obtain⟨fn,i,j,a3,_⟩:=An dA h
   have a3:=a3 (.inr rfl)
   refine⟨f,(args.map (c3 X)).toArray,?_,(a1 aE d).mono ?_⟩
   ·have k:¬ fn.name="runtime.NumGoroutine":=by simpa using j
    have l:¬ fn.body=none:=by intro N;rw [N] at a3;cases a3
    rw [e]
    simp [execOp,resolve,Deferred.ofValue,c3,invoke,callFunc,i,k,l]
   ·rintro N cK ⟨m,rfl,aG,rfl,R⟩
    exact⟨rfl,aG,by rw [R,d]⟩
  ·cases aW
 | _=>simp [uR] at aW
theorem B9(dA:h4 P E){md:Bool}{c4:Nat}{ops:Array Oper}{aQ:Oper}{X:Fr}{a:Act}(c:a.eval=c3 X){Z:U}{bP:Value→U→Prop}(aW:n6 P E md c4 aQ X Z bP)
  (g:Region.wanted aQ (yielded ops a.tmps)=true):fE P E md c4 ops aQ a Z bP:=by
 unfold n6 at aW
 unfold fE
 rw [if_pos g]
 cases b:gP E aQ.op with
 | pure=>
  simp only [b] at aW ⊢
  obtain⟨v,b5,d⟩:=B4 dA aW
  exact⟨v,fun aE=>by unfold oZ;rw [c];exact d aE fun t L aI N _=>by rw [N] at b;simp [gP] at b,b5⟩
 | load=>
  simp only [b] at aW ⊢
  cases md with
  | false=>
   simp only [cond_false] at aW ⊢
   obtain⟨v,b5,d⟩:=B4 dA aW
   exact⟨v,fun aE e=>by unfold oZ;rw [c];exact d aE fun t L aI N _=>by rw [e],b5⟩
  | true=>
   simp only [cond_true] at aW ⊢
   split at aW
   ·rename_i t L N
    obtain⟨a3,aW⟩:=aW
    obtain⟨v,b5,d⟩:=B4 dA aW
    refine⟨v,fun aE h=>?_,b5⟩
    unfold oZ
    rw [c]
    refine d aE fun j k aI f i=>?_
    rw [N] at f
    cases f
    rw [i] at a3
    exact h _ a3
   ·cases aW
 | quiet=>
  simp only [b] at aW ⊢
  obtain⟨v,b5,d⟩:=I7 dA c b aW
  exact⟨v,d,b5⟩
 | call=>
  simp only [b] at aW ⊢
  cases md with
  | false=>
   intro aE e
   subst e
   simp only [cond_false] at aW
   exact(B8 dA c aW).mono fun v aB R=>⟨fun N=>(by cases N),R⟩
  | true=>
   intro aE e
   subst e
   simp only [cond_true] at aW
   exact(B8 dA c aW).mono fun v aB R=>⟨fun _=>R.1,R.2⟩
 | act=>
  simp only [b] at aW ⊢
  intro aE e
  subst e
  exact B8 dA c aW
theorem EI{all:List Oper}{n:Nat}{X:Fr}{a:Act}(d:gM n X a){aQ:Oper}{aD t:Nat}{want K:Bool}(e:aQ.guard=some (aD,want))(b:yC all aD=some t)(a3:X t=.bool K):
  Region.wanted aQ (yielded all.toArray a.tmps)=(K == want):=by
 have a1:a.tmps[t]?=some (.bool K):=by
  have:=d.get t
  rw [a3,Array.getD_eq_getD_getElem?] at this
  cases c:a.tmps[t]? with
  | none=>rw [c] at this;simp [undef] at this
  | some v=>rw [c] at this;simp at this;rw [this]
 have f:((all.toArray[aD]?).bind (·.dst)).bind (a.tmps[·]?)=some (.bool K):=by
  unfold yC at b
  split at b
  ·rename_i h g
   simp [g,b,a1]
  ·cases b
 unfold Region.wanted yielded
 rw [e]
 simp only [f]
 cases K <;> cases want <;> rfl
theorem EJ{all:List Oper}{n:Nat}{X:Fr}{a:Act}(c:gM n X a){aQ:Oper}{aD t:Nat}{want:Bool}{b8:Array Value}(d:aQ.guard=some (aD,want))(b:yC all aD=some t)(a3:X t=.tuple b8):
  Region.wanted aQ (yielded all.toArray a.tmps)=false:=by
 have a1:a.tmps[t]?=none∨a.tmps[t]?=some (.tuple b8):=by
  have:=c.get t
  rw [a3,Array.getD_eq_getD_getElem?] at this
  cases e:a.tmps[t]? with
  | none=>exact .inl rfl
  | some v=>rw [e] at this;simp at this;rw [this];exact .inr rfl
 have f:(all.toArray[aD]?).bind (·.dst)=some t:=by
  unfold yC at b
  split at b
  ·rename_i h g
   simp [g,b]
  ·cases b
 unfold Region.wanted yielded
 rw [d]
 simp only [f,Option.bind_some]
 rcases a1 with a1 | a1 <;> rw [a1] <;> rfl
theorem As(dA:h4 P E){md:Bool}{c4 n:Nat}{all:List Oper}:∀ {l:List Oper} {R:Nat} {X:Fr} {a:Act} {Z:U} {aH:Fr→U→Prop},(∀ aD,l[aD]?=all[R+aD]?)→l.all (qK n)=true→gM n X a→
  j3 P E md c4 all l X Z aH→jI P E md c4 all.toArray (fun e aB=>∃ c,gM n c e∧aH c aB) (List.range' R l.length) a Z
 | [],R,X,a,Z,aH,_,_,f,aW=>⟨X,f,aW⟩
 | aQ :: rest,R,X,a,Z,aH,m,a3,f,aW=>by
  simp only [List.all_cons,Bool.and_eq_true] at a3
  obtain⟨p,q⟩:=a3
  have r:all.toArray[R]?=some aQ:=by have:=m 0;simp at this;simpa using this.symm
  have s:∀ aD,rest[aD]?=all[R+1+aD]?:=fun aD=>by have:=m (aD+1);simpa [Nat.add_assoc,Nat.add_comm 1 aD] using this
  simp only [List.length_cons,List.range'_succ,jI,r]
  have next:∀ b,gM n b a→∀ v aB,j3 P E md c4 all rest (lT b aQ.dst v) aB aH→jI P E md c4 all.toArray (fun e aB=>∃ c,gM n c e∧aH c aB) (List.range' (R+1) rest.length) (a.put aQ.dst v) aB:=
   fun b g v aB h=>As dA s q (g.put p v) h
  have run:∀ b,gM n b a→Region.wanted aQ (yielded all.toArray a.tmps)=true→n6 P E md c4 aQ b Z (fun v aB=>j3 P E md c4 all rest (lT b aQ.dst v) aB aH)→
    fE P E md c4 all.toArray aQ a Z fun v aB=>jI P E md c4 all.toArray (fun e aB=>∃ c,gM n c e∧aH c aB) (List.range' (R+1) rest.length) (a.put aQ.dst v) aB:=
   fun b g d h=>mC (fun v aB c1=>next b g v aB c1) (B9 dA g.c3 h d)
  have skip:∀ b,gM n b a→Region.wanted aQ (yielded all.toArray a.tmps)=false→j3 P E md c4 all rest (lT b aQ.dst undef) Z aH→
    fE P E md c4 all.toArray aQ a Z fun v aB=>jI P E md c4 all.toArray (fun e aB=>∃ c,gM n c e∧aH c aB) (List.range' (R+1) rest.length) (a.put aQ.dst v) aB:=by
   intro b g d h
   unfold fE
   rw [if_neg (by rw [d];decide)]
   exact next b g undef Z h
  unfold j3 at aW
  split at aW
  ·rename_i i
   exact run X f (by simp [Region.wanted,i]) aW
  ·rename_i aD want i
   split at aW
   ·cases aW
   ·rename_i t o
    split at aW
    ·rename_i K j
     have d:=EI (all:=all) f i o j
     have k:gM n (k0 X t (.bool K)) a:=by rw [x6 j];exact f
     cases K <;> cases want <;> simp only [cond_true,cond_false] at aW
     ·exact run _ k (by rw [d];rfl) aW
     ·exact skip _ k (by rw [d];rfl) aW
     ·exact skip _ k (by rw [d];rfl) aW
     ·exact run _ k (by rw [d];rfl) aW
    ·rename_i b8 j
     exact skip X f (EJ (all:=all) f i o j) aW
    ·cases aW
theorem I8(dA:h4 P E){c4 n:Nat}{all:List Oper}{O:Nat}{aQ:Oper}(m:all[O]?=some aQ)(k:qK n aQ=true){X:Fr}{a:Act}{Z:U}{aH:Fr→U→Prop}(e:gM n X a)
  (aW:j3 P E true c4 all [aQ] X Z aH):fE P E true c4 all.toArray aQ a Z fun v aB=>∃ b,gM n b (a.put aQ.dst v)∧aH b aB:=by
 have run:∀ c,gM n c a→Region.wanted aQ (yielded all.toArray a.tmps)=true→n6 P E true c4 aQ c Z (fun v aB=>j3 P E true c4 all [] (lT c aQ.dst v) aB aH)→
   fE P E true c4 all.toArray aQ a Z fun v aB=>∃ b,gM n b (a.put aQ.dst v)∧aH b aB:=
  fun c f d j=>mC (fun v aB c1=>⟨_,f.put k v,c1⟩) (B9 dA f.c3 j d)
 have skip:∀ c,gM n c a→Region.wanted aQ (yielded all.toArray a.tmps)=false→j3 P E true c4 all [] (lT c aQ.dst undef) Z aH→
   fE P E true c4 all.toArray aQ a Z fun v aB=>∃ b,gM n b (a.put aQ.dst v)∧aH b aB:=by
  intro c f d j
  unfold fE
  rw [if_neg (by rw [d];decide)]
  exact⟨_,f.put k undef,j⟩
 unfold j3 at aW
 split at aW
 ·rename_i g
  exact run X e (by simp [Region.wanted,g]) aW
 ·rename_i aD want g
  split at aW
  ·cases aW
  ·rename_i t l
   split at aW
   ·rename_i K h
    have d:=EI (all:=all) e g l h
    have i:gM n (k0 X t (.bool K)) a:=by rw [x6 h];exact e
    cases K <;> cases want <;> simp only [cond_true,cond_false] at aW
    ·exact run _ i (by rw [d];rfl) aW
    ·exact skip _ i (by rw [d];rfl) aW
    ·exact skip _ i (by rw [d];rfl) aW
    ·exact run _ i (by rw [d];rfl) aW
   ·rename_i b8 h
    exact skip X e (EJ (all:=all) e g l h) aW
   ·cases aW
theorem EK{f:Nat→Prop}:∀ {l:List Nat},yE f l→∀ O ∈ l,f O
 | [O],Z,aD,a=>by simp at a;subst a;exact Z
 | O :: R :: l,Z,aD,a=>by
  rcases List.mem_cons.1 a with rfl | a
  ·exact Z.1
  ·exact EK Z.2 aD a
theorem I9{ops:List Oper}(a:Region.noSelect ops.toArray=true):∀ (aD:Nat) (aQ:Oper) dR K,ops.toArray[aD]?=some aQ→aQ.op ≠ .select dR K:=by
 intro aD aQ dR K b N
 have c:ops[aD]?=some aQ:=by simpa using b
 have:=List.mem_of_getElem? c
 simp only [Region.noSelect,Array.all_eq_true',List.mem_toArray] at a
 have:=a aQ this
 rw [N] at this
 simp at this
theorem Ja(dA:h4 P E){c4 n:Nat}{all:List Oper}(a3:all.all (qK n)=true)(p:Region.noSelect all.toArray=true){e:List Nat}{aH:Fr→U→Prop}:∀ {m:Nat} {todo:List Nat} {X:Fr} {a:Act} {Z:U},todo.length=m→todo.Nodup→gM n X a→
  qI P E c4 all e m todo X Z aH→anyS P E true c4 all.toArray e (fun g aB=>∃ c,gM n c g∧aH c aB) m todo a Z:=by
 intro m
 induction m with
 | zero=>intro todo X a Z l f h aW;exact⟨X,h,aW⟩
 | succ m bZ=>
  intro todo X a Z l f h aW
  have at_:∀ O ∈ todo,∀ aQ,all.toArray[O]?=some aQ→sM P E c4 all O X Z (fun X Z=>qI P E c4 all e m (del todo O) X Z aH)→
    fE P E true c4 all.toArray aQ a Z fun v aB=>anyS P E true c4 all.toArray e (fun g aB=>∃ c,gM n c g∧aH c aB) m (del todo O) (a.put aQ.dst v) aB:=by
   intro O a8 aQ b aW
   have d:all[O]?=some aQ:=by simpa using b
   unfold sM at aW
   rw [d] at aW
   refine mC (fun v aB R=>?_) (I8 dA d (List.all_eq_true.1 a3 aQ (List.mem_of_getElem? d)) h aW)
   obtain⟨c,r,R⟩:=R
   refine bZ ?_ (EC f) r R
   have:=EF f a8;omega
  unfold qI at aW
  split at aW
  ·rename_i O i
   have a8:=List.mem_of_find?_eq_some i
   have j:=List.find?_some i
   unfold D6 at j
   rw [Bool.and_eq_true] at j
   obtain⟨q,o⟩:=j
   rw [List.all_eq_true] at o
   cases b:all[O]? with
   | none=>unfold sM at aW;rw [b] at aW;cases aW
   | some aQ=>
    have d:all.toArray[O]?=some aQ:=by simpa using b
    refine I5 (I9 p) d l f a8 q (fun aD s t=>?_) (at_ O a8 aQ d aW)
    have:=o aD s
    rw [Bool.or_eq_true,Bool.or_eq_true] at this
    rcases this with (a1 | a1) | a1
    ·exact absurd (Nat.eq_of_beq_eq_true a1) t
    ·exact .inl a1
    ·rw [b] at a1
     cases k:all[aD]? with
     | none=>rw [k] at a1;cases a1
     | some u=>
      rw [k] at a1
      simp only [Bool.and_eq_true] at a1
      exact .inr ⟨u,by simpa using k,a1.1,a1.2⟩
  ·rename_i i
   intro O aQ a8 w b
   exact at_ O a8 aQ b (EK aW O (List.mem_filter.2 ⟨a8,w⟩))
theorem Ca{md:Bool}{c4:Nat}{ops:Array Oper}{O:Nat}{aQ:Oper}(h:ops[O]?=some aQ){a:Act}{aE:World}{bP:Value→U→Prop}(bH:fE P E md c4 ops aQ a aE.heap bP)
  {aH:Act→World→Prop} {Q:Exit→Act→World→Prop} (b:∀ v cK,e2 aE cK→bP v cK.heap→aH (a.put aQ.dst v) cK):wpOp P ops Q O aH a aE:=by
 unfold wpOp
 simp only [h]
 unfold fE at bH
 by_cases g:Region.wanted aQ (yielded ops a.tmps)=true
 ·rw [if_pos g] at bH ⊢
  refine .inl ?_
  have runs:∀ v,oZ P aQ a aE v→bP v aE.heap→aQ.wp P a aE aH Q:=by
   intro v i R
   unfold Oper.wp
   rw [i]
   exact b v aE (e2.refl aE) R
  cases d:gP E aQ.op with
  | pure=>simp only [d] at bH;obtain⟨v,a1,e⟩:=bH;exact runs v (a1 aE) e
  | load=>
   simp only [d] at bH
   obtain⟨v,a1,e⟩:=bH
   refine runs v (a1 aE ?_) e
   cases md
   ·exact rfl
   ·exact e4.refl _ _
  | quiet=>
   simp only [d] at bH
   obtain⟨v,a1,e⟩:=bH
   obtain⟨f,args,r,c⟩:=a1 aE rfl
   unfold Oper.wp
   rw [r,Oper.upon_enter]
   refine c.mono ?_
   rintro N cK ⟨rfl,aG,R⟩
   exact b v cK aG (by rw [R];exact e)
  | call=>simp only [d] at bH;exact(bH aE rfl).wp fun v cK aG R=>b v cK aG R.2
  | act=>simp only [d] at bH;exact(bH aE rfl).wp fun v cK aG R=>b v cK aG R
 ·rw [if_neg g] at bH ⊢
  exact b undef aE (e2.refl aE) bH
def rem(n:Nat)(a:Array Bool):List Nat:=(List.range n).filter fun O=>!a.getD O true
def At(ops:Array Oper)(a:Array Bool):Prop:=∀ O aQ,ops[O]?=some aQ→a.getD O false=true→∀ N ∈ aQ.after,Region.binds .any N=true→a.getD N.on false=true
theorem qO{n O:Nat}{a:Array Bool}:O ∈ rem n a↔O < n∧a.getD O true=false:=by simp [rem]
theorem Cb{c:List Nat}{aD:Nat}:∀ {l:List Edge},(qG c l).testBit aD=true→∃ N ∈ l,Region.binds .any N=true∧(N.on=aD∨(c.getD N.on 0).testBit aD=true)
 | [],Z=>by simp [qG] at Z
 | N :: l,Z=>by
  unfold qG at Z
  cases a3:Region.binds .any N with
  | false=>
   rw [a3] at Z
   obtain⟨a,a1,b⟩:=Cb (l:=l) Z
   exact⟨a,List.mem_cons_of_mem _ a1,b⟩
  | true=>
   rw [a3] at Z
   simp only [cond_true,Nat.testBit_or,Bool.or_eq_true] at Z
   rcases Z with (Z | Z) | Z
   ·refine⟨N,List.mem_cons_self,a3,.inl ?_⟩
    rw [Nat.testBit_two_pow] at Z
    simpa using Z
   ·exact⟨N,List.mem_cons_self,a3,.inr Z⟩
   ·obtain⟨a,a1,b⟩:=Cb (l:=l) Z
    exact⟨a,List.mem_cons_of_mem _ a1,b⟩
theorem EL:∀ (l:List Oper) (a:List Nat),(∀ O,O < a.length→(lU a l)[O]?=a[O]?)∧(∀ O aQ,l[O]?=some aQ→(lU a l)[a.length+O]?=some (qG ((lU a l).take (a.length+O)) aQ.after.toList))
 | [],a=>⟨fun O _=>rfl,fun O aQ Z=>by simp at Z⟩
 | aQ :: l,a=>by
  obtain⟨a1,c⟩:=EL l (a ++ [qG a aQ.after.toList])
  simp only [List.length_append,List.length_cons,List.length_nil] at a1 c
  have N:lU a (aQ :: l)=lU (a ++ [qG a aQ.after.toList]) l:=rfl
  rw [N]
  refine⟨fun O a8=>?_,fun O fO b=>?_⟩
  ·rw [a1 O (by omega),List.getElem?_append_left a8]
  ·cases O with
   | zero=>
    simp at b
    subst b
    have d:(lU (a ++ [qG a aQ.after.toList]) l).take (a.length+0)=a:=by
     apply List.ext_getElem?
     intro aD
     rw [List.getElem?_take]
     split
     ·rename_i e
      rw [a1 aD (by omega),List.getElem?_append_left (by omega)]
     ·rename_i e
      rw [List.getElem?_eq_none (by omega)]
    rw [d,a1 _ (by omega)]
    simp
   | succ O=>
    have:=c O fO (by simpa using b)
    rw [show a.length+(O+1)=a.length+(0+1)+O by omega]
    exact this
theorem EM{ops:List Oper}{c:Array Bool}(j:At ops.toArray c)(f:uS ops=true):∀ (O:Nat) (aQ:Oper),ops[O]?=some aQ→(∀ N ∈ aQ.after,Region.binds .any N=true→c.getD N.on false=true)→
  ∀ aD,((lU [] ops).getD O 0).testBit aD=true→c.getD aD false=true:=by
 intro O
 induction O using Nat.strongRecOn with
 | _ O bZ=>
  intro aQ a k aD d
  have bH:=(EL ops []).2 O aQ a
  simp only [List.length_nil,Nat.zero_add] at bH
  rw [List.getD_eq_getElem?_getD,bH] at d
  simp only [Option.getD_some] at d
  obtain⟨N,a1,g,b⟩:=Cb d
  have l:N ∈ aQ.after:=by simpa using a1
  have h:=k N l g
  rcases b with rfl | b
  ·exact h
  ·have dC:N.on < O:=by
    simp only [uS,List.all_eq_true,List.mem_range] at f
    have a8:O < ops.length:=by
     rcases Nat.lt_or_ge O ops.length with Z | Z
     ·exact Z
     ·rw [List.getElem?_eq_none Z] at a;cases a
    have:=f O a8
    rw [a] at this
    simp only [List.all_eq_true] at this
    have:=this N a1
    rw [g] at this
    simpa [Nat.blt_eq] using this
   have m:((lU [] ops).take O).getD N.on 0=(lU [] ops).getD N.on 0:=by
    rw [List.getD_eq_getElem?_getD,List.getD_eq_getElem?_getD,List.getElem?_take,if_pos dC]
   rw [m] at b
   cases e:ops[N.on]? with
   | none=>
    have n:ops.length≤N.on:=by simpa using e
    have a8:O < ops.length:=by
     rcases Nat.lt_or_ge O ops.length with Z | Z
     ·exact Z
     ·rw [List.getElem?_eq_none Z] at a;cases a
    omega
   | some i=>exact bZ N.on dC i e (j N.on i (by simpa using e) h) aD b
theorem EN{n O:Nat}{a:Array Bool}(bH:a.size=n)(a8:O ∈ rem n a):
  ∃ aL b3,rem n a=aL ++ O :: b3∧rem n (a.setIfInBounds O true)=aL ++ b3∧(∀ aD ∈ aL,aD < O∧aD < n∧a.getD aD true=false):=by
 have e:=(qO.1 a8)
 have c:List.range n=List.range O ++ O :: List.range' (O+1) (n - O - 1):=by
  rw [List.range_eq_range',List.range_eq_range',show n=O+(1+(n - O - 1)) by omega,← List.range'_append_1,← List.range'_append_1]
  simp
 refine⟨(List.range O).filter fun aD=>!a.getD aD true,(List.range' (O+1) (n - O - 1)).filter fun aD=>!a.getD aD true,?_,?_,?_⟩
 ·unfold rem
  rw [c,List.filter_append,List.filter_cons,e.2]
  simp
 ·unfold rem
  rw [c,List.filter_append,List.filter_cons]
  have a1:(a.setIfInBounds O true).getD O true=true:=by
   rw [Array.getD_eq_getD_getElem?,Array.getElem?_setIfInBounds]
   simp
   split <;> rfl
  rw [a1]
  have d:∀ aD,aD ≠ O→(a.setIfInBounds O true).getD aD true=a.getD aD true:=by
   intro aD b
   rw [Array.getD_eq_getD_getElem?,Array.getElem?_setIfInBounds,if_neg (fun N=>b N.symm),← Array.getD_eq_getD_getElem?]
  simp only [Bool.not_true,Bool.false_eq_true,if_false]
  congr 1
  ·apply List.filter_congr
   intro aD b
   rw [d aD (by simp at b;omega)]
  ·apply List.filter_congr
   intro aD b
   rw [d aD (by simp [List.mem_range'_1] at b;omega)]
 ·intro aD b
  simp only [List.mem_filter,List.mem_range,Bool.not_eq_true'] at b
  exact⟨b.1,by omega,b.2⟩
theorem Jb{md:Bool}{c4:Nat}{ops:List Oper}(Qz:uT E md ops=true){aH:Act→U→Prop}{Q:Exit→Act→World→Prop}{lJ:World}
  (y:∀ a aE,e2 lJ aE→aH a aE.heap→Q .normal a aE):∀ (j:Nat) (b:Array Bool) (a:Act) (aE:World),b.size=ops.length→At ops.toArray b→(rem ops.length b).length≤j→e2 lJ aE→
   jI P E md c4 ops.toArray aH (rem ops.length b) a aE.heap→wpAny P .any ops.toArray Q j b a aE:=by
 have z:=Qz
 simp only [uT,Bool.and_eq_true,List.all_eq_true,List.mem_range] at z
 obtain⟨⟨A,q⟩,QA⟩:=z
 have B:∀ (aD:Nat) (aQ:Oper) dR K,ops[aD]?=some aQ→aQ.op ≠ .select dR K:=by
  intro aD aQ dR K m N
  have:=List.mem_of_getElem? m
  simp only [Region.noSelect,Array.all_eq_true',List.mem_toArray] at A
  have:=A aQ this
  rw [N] at this
  simp at this
 have C:∀ b:Array Bool,∀ O ∈ Region.ready .any ops.toArray b,O ∈ rem ops.length b∧∃ aQ,ops[O]?=some aQ∧∀ N ∈ aQ.after,Region.binds .any N=true→b.getD N.on false=true:=by
  intro b O a8
  simp only [Region.ready,List.size_toArray,List.mem_filter,List.mem_range,Bool.and_eq_true,Bool.not_eq_true'] at a8
  obtain⟨a1,QB,r⟩:=a8
  refine⟨qO.2 ⟨a1,QB⟩,?_⟩
  have c:ops.toArray[O]?=some ops[O]:=by simp [a1]
  rw [c] at r
  simp only [Option.map_some,Option.getD_some,Array.all_eq_true',Bool.or_eq_true,Bool.not_eq_true'] at r
  refine⟨ops[O],by simp [a1],fun N e a3=>?_⟩
  rcases r N e with Z | Z
  ·rw [Z] at a3;cases a3
  ·exact Z
 have QC:∀ b:Array Bool,b.size=ops.length→∀ O l,rem ops.length b=O :: l→O ∈ Region.ready .any ops.toArray b:=by
  intro b bH O l f
  have a8:O ∈ rem ops.length b:=by rw [f];exact List.mem_cons_self
  have k:=qO.1 a8
  have QD:∀ aD,aD < O→b.getD aD true=true:=by
   intro aD m
   cases g:b.getD aD true with
   | true=>rfl
   | false=>
    have n:aD ∈ rem ops.length b:=qO.2 ⟨by omega,g⟩
    have D:(rem ops.length b).Pairwise (·< ·):=List.Pairwise.sublist List.filter_sublist List.pairwise_lt_range
    rw [f] at D n
    rcases List.mem_cons.1 n with rfl | n
    ·omega
    ·have:=(List.pairwise_cons.1 D).1 aD n
     omega
  simp only [Region.ready,List.size_toArray,List.mem_filter,List.mem_range,Bool.and_eq_true,Bool.not_eq_true']
  refine⟨k.1,k.2,?_⟩
  have c:ops.toArray[O]?=some ops[O]:=by simp [k.1]
  rw [c]
  simp only [Option.map_some,Option.getD_some,Array.all_eq_true',Bool.or_eq_true,Bool.not_eq_true']
  intro N e
  cases a3:Region.binds .any N with
  | false=>exact .inl rfl
  | true=>
   refine .inr ?_
   simp only [uS,List.all_eq_true,List.mem_range] at q
   have:=q O k.1
   rw [show ops[O]?=some ops[O] by simp [k.1]] at this
   simp only [List.all_eq_true] at this
   have:=this N (by simpa using e)
   rw [a3] at this
   have dC:N.on < O:=by simpa [Nat.blt_eq] using this
   have a1:=QD N.on dC
   rw [Array.getD_eq_getD_getElem?] at a1 ⊢
   have s:N.on < b.size:=by rw [bH];omega
   rw [Array.getElem?_eq_getElem s] at a1 ⊢
   exact a1
 intro j
 induction j with
 | zero=>
  intro b a aE bH t u o d
  have F:rem ops.length b=[]:=List.length_eq_zero_iff.1 (by omega)
  have f:Region.ready .any ops.toArray b=[]:=by
   cases p:Region.ready .any ops.toArray b with
   | nil=>rfl
   | cons O l=>
    have:=(C b O (by rw [p];exact List.mem_cons_self)).1
    rw [F] at this
    cases this
  rw [F] at d
  exact⟨f,y a aE o d⟩
 | succ j bZ=>
  intro b a aE bH t u o d
  refine⟨fun f=>?_,fun O a8=>?_⟩
  ·cases p:rem ops.length b with
   | nil=>rw [p] at d;exact y a aE o d
   | cons O l=>
    have:=QC b bH O l p
    rw [f] at this
    cases this
  ·obtain⟨G,aQ,c,H⟩:=C b O a8
   obtain⟨aL,b3,I,J,a1⟩:=EN bH G
   rw [I] at d
   have T:=(qO.1 G).1
   have QE:∀ aD ∈ aL,free E md ops.toArray aD O:=by
    intro aD m
    obtain⟨QF,w,g⟩:=a1 aD m
    have h:=QA O T aD QF
    have i:ops[aD]?=some ops[aD]:=by simp [w]
    unfold D5 at h
    rw [c,i] at h
    simp only [Bool.or_eq_true,Bool.and_eq_true] at h
    have QG:((lU [] ops).getD O 0).testBit aD ≠ true:=by
     intro a3
     have:=EM t q O aQ c H aD a3
     have s:aD < b.size:=by rw [bH];exact w
     rw [Array.getD_eq_getD_getElem?,Array.getElem?_eq_getElem s] at this g
     simp at this g
     rw [this] at g
     cases g
    rcases h with h | ⟨QH,QI⟩
    ·exact absurd h QG
    ·exact⟨ops[aD],aQ,by simp [w],by simpa using c,QH,fun dR K=>B aD _ dR K i,fun dR K=>B O _ dR K c,QI⟩
   have V:=EH QE d
   have x:ops.toArray[O]?=some aQ:=by simpa using c
   simp only [jI,x] at V
   refine Ca x V fun v cK aG R=>?_
   refine bZ _ _ _ (by simp [bH]) ?_ ?_ (o.trans aG) (by rw [J];exact R)
   ·intro aD QJ i Qx N e a3
    by_cases Qy:aD=O
    ·subst Qy
     rw [x] at i
     cases i
     have:=H N e a3
     rw [Array.getD_eq_getD_getElem?,Array.getElem?_setIfInBounds]
     rw [Array.getD_eq_getD_getElem?] at this
     split
     ·rename_i QK
      split <;> simp_all
     ·exact this
    ·have QL:b.getD aD false=true:=by
      rw [Array.getD_eq_getD_getElem?,Array.getElem?_setIfInBounds,if_neg (fun N=>Qy N.symm),← Array.getD_eq_getD_getElem?] at Qx
      exact Qx
     have:=t aD QJ i QL N e a3
     rw [Array.getD_eq_getD_getElem?,Array.getElem?_setIfInBounds]
     rw [Array.getD_eq_getD_getElem?] at this
     split
     ·rename_i QK
      split
      ·rfl
      ·rename_i dC;exact absurd (by rw [bH];exact T) dC
     ·exact this
   ·rw [J];rw [I] at u;simp at u ⊢;omega
theorem Jc{md:Bool}{c4:Nat}{ops:List Oper}(j:uS ops=true){aH:Act→U→Prop}{Q:Exit→Act→World→Prop}{lJ:World}
  (w:∀ a aE,e2 lJ aE→aH a aE.heap→Q .normal a aE):∀ (h:Nat) (b:Array Bool) (a:Act) (aE:World),b.size=ops.length→At ops.toArray b→(rem ops.length b).length≤h→e2 lJ aE→
   anyS P E md c4 ops.toArray (lU [] ops) aH (rem ops.length b).length (rem ops.length b) a aE.heap→wpAny P .any ops.toArray Q h b a aE:=by
 have QF:=j
 have x:∀ b:Array Bool,∀ O ∈ Region.ready .any ops.toArray b,O ∈ rem ops.length b∧∃ aQ,ops[O]?=some aQ∧∀ N ∈ aQ.after,Region.binds .any N=true→b.getD N.on false=true:=by
  intro b O a8
  simp only [Region.ready,List.size_toArray,List.mem_filter,List.mem_range,Bool.and_eq_true,Bool.not_eq_true'] at a8
  obtain⟨a1,J,o⟩:=a8
  refine⟨qO.2 ⟨a1,J⟩,?_⟩
  have e:ops.toArray[O]?=some ops[O]:=by simp [a1]
  rw [e] at o
  simp only [Option.map_some,Option.getD_some,Array.all_eq_true',Bool.or_eq_true,Bool.not_eq_true'] at o
  refine⟨ops[O],by simp [a1],fun N f a3=>?_⟩
  rcases o N f with Z | Z
  ·rw [Z] at a3;cases a3
  ·exact Z
 have T:∀ b:Array Bool,b.size=ops.length→∀ O l,rem ops.length b=O :: l→O ∈ Region.ready .any ops.toArray b:=by
  intro b bH O l c
  have a8:O ∈ rem ops.length b:=by rw [c];exact List.mem_cons_self
  have i:=qO.1 a8
  have V:∀ aD,aD < O→b.getD aD true=true:=by
   intro aD y
   cases g:b.getD aD true with
   | true=>rfl
   | false=>
    have k:aD ∈ rem ops.length b:=qO.2 ⟨by omega,g⟩
    have z:(rem ops.length b).Pairwise (·< ·):=List.Pairwise.sublist List.filter_sublist List.pairwise_lt_range
    rw [c] at z k
    rcases List.mem_cons.1 k with rfl | k
    ·omega
    ·have:=(List.pairwise_cons.1 z).1 aD k
     omega
  simp only [Region.ready,List.size_toArray,List.mem_filter,List.mem_range,Bool.and_eq_true,Bool.not_eq_true']
  refine⟨i.1,i.2,?_⟩
  have e:ops.toArray[O]?=some ops[O]:=by simp [i.1]
  rw [e]
  simp only [Option.map_some,Option.getD_some,Array.all_eq_true',Bool.or_eq_true,Bool.not_eq_true']
  intro N f
  cases a3:Region.binds .any N with
  | false=>exact .inl rfl
  | true=>
   refine .inr ?_
   simp only [uS,List.all_eq_true,List.mem_range] at j
   have:=j O i.1
   rw [show ops[O]?=some ops[O] by simp [i.1]] at this
   simp only [List.all_eq_true] at this
   have:=this N (by simpa using f)
   rw [a3] at this
   have dC:N.on < O:=by simpa [Nat.blt_eq] using this
   have a1:=V N.on dC
   rw [Array.getD_eq_getD_getElem?] at a1 ⊢
   have p:N.on < b.size:=by rw [bH];omega
   rw [Array.getElem?_eq_getElem p] at a1 ⊢
   exact a1
 have Qx:∀ b:Array Bool,(rem ops.length b).Nodup:=fun b=>List.Nodup.sublist List.filter_sublist List.nodup_range
 intro h
 induction h with
 | zero=>
  intro b a aE bH q Qy m d
  have A:rem ops.length b=[]:=List.length_eq_zero_iff.1 (by omega)
  have c:Region.ready .any ops.toArray b=[]:=by
   cases n:Region.ready .any ops.toArray b with
   | nil=>rfl
   | cons O l=>
    have:=(x b O (by rw [n];exact List.mem_cons_self)).1
    rw [A] at this
    cases this
  rw [A] at d
  exact⟨c,w a aE m d⟩
 | succ h bZ=>
  intro b a aE bH q Qy m d
  refine⟨fun c=>?_,fun O a8=>?_⟩
  ·cases n:rem ops.length b with
   | nil=>rw [n] at d;exact w a aE m d
   | cons O l=>
    have:=T b bH O l n
    rw [c] at this
    cases this
  ·obtain⟨r,aQ,e,B⟩:=x b O a8
   obtain⟨aL,b3,s,C,a1⟩:=EN bH r
   have Qz:=(qO.1 r).1
   have c:qH (lU [] ops) (rem ops.length b) O=true:=by
    unfold qH
    rw [List.all_eq_true]
    intro aD y
    have D:=qO.1 y
    cases a3:((lU [] ops).getD O 0).testBit aD with
    | false=>rfl
    | true=>
     have:=EM q j O aQ e B aD a3
     have p:aD < b.size:=by rw [bH];exact D.1
     have g:=D.2
     rw [Array.getD_eq_getD_getElem?,Array.getElem?_eq_getElem p] at this g
     simp at this g
     rw [this] at g
     cases g
   have F:del (rem ops.length b) O=rem ops.length (b.setIfInBounds O true):=by
    have G:=Qx b
    rw [s] at G
    rw [C,s,EE G]
   have QA:(rem ops.length b).length=(rem ops.length (b.setIfInBounds O true)).length+1:=by rw [s,C];simp;omega
   rw [QA] at d
   have t:ops.toArray[O]?=some aQ:=by simpa using e
   have QB:=d O aQ r c t
   refine Ca t QB fun v cK aG R=>?_
   refine bZ _ _ _ (by simp [bH]) ?_ (by omega) (m.trans aG) (by rw [← F];rw [← F] at R;exact R)
   intro aD QC u H N f a3
   by_cases I:aD=O
   ·subst I
    rw [t] at u
    cases u
    have:=B N f a3
    rw [Array.getD_eq_getD_getElem?,Array.getElem?_setIfInBounds]
    rw [Array.getD_eq_getD_getElem?] at this
    split
    ·rename_i QD
     split <;> simp_all
    ·exact this
   ·have QE:b.getD aD false=true:=by
     rw [Array.getD_eq_getD_getElem?,Array.getElem?_setIfInBounds,if_neg (fun N=>I N.symm),← Array.getD_eq_getD_getElem?] at H
     exact H
    have:=q aD QC u QE N f a3
    rw [Array.getD_eq_getD_getElem?,Array.getElem?_setIfInBounds]
    rw [Array.getD_eq_getD_getElem?] at this
    split
    ·rename_i QD
     split
     ·rfl
     ·rename_i dC;exact absurd (by rw [bH];exact Qz) dC
    ·exact this
theorem EO(dA:h4 P E){id n:Nat}{ops:Array Oper}{draw:Bool}(f:uU E n ops draw=true){X:Fr}{a:Act}{aE:World}(k:gM n X a){aH:Fr→U→Prop}
  (aW:bif yD E draw ops.toList then qI P E aE.heap.size ops.toList (lU [] ops.toList) ops.toList.length (List.range ops.toList.length) X aE.heap aH
   else j3 P E (rG E draw ops.toList) aE.heap.size ops.toList ops.toList X aE.heap aH) {Q:Exit→Act→World→Prop} (m:∀ b c cK,gM n b c→e2 aE cK→aH b cK.heap→Q .normal c cK) :
  (Code.region id ops draw).wp P Q a aE:=by
 obtain⟨l⟩:=ops
 simp only [uU,Bool.and_eq_true] at f
 obtain⟨a3,f⟩:=f
 have o:l.all (qK n)=true:=a3
 cases draw with
 | false=>
  have s:j3 P E (rG E false l) aE.heap.size l l X aE.heap aH:=aW
  have p:=As dA (R:=0) (fun aD=>by simp) o k s
  refine wp_region ?_
  have key:∀ (g:List Nat) (a:Act) (e:World),e2 aE e→jI P E (rG E false l) aE.heap.size l.toArray (fun c aB=>∃ b,gM n b c∧aH b aB) g a e.heap→wpOps P l.toArray Q g a e:=by
   intro g
   induction g with
   | nil=>intro a e aG ⟨b,r,R⟩;exact m b a e r aG R
   | cons O g bZ=>
    intro a e aG R
    rw [wpOps_cons]
    simp only [jI] at R
    cases i:l.toArray[O]? with
    | none=>simp only [i] at R;unfold wpOp;simp only [i];exact bZ a e aG R
    | some aQ=>simp only [i] at R;exact Ca i R fun v cK t c1=>bZ _ cK (aG.trans t) c1
  rw [List.range_eq_range']
  exact key _ a aE (e2.refl aE) (by simpa using p)
 | true=>
  simp only [Bool.not_true,Bool.false_or,Bool.and_eq_true] at f
  have q:e2 aE { aE with drawn:=aE.drawn+1 }:=⟨rfl,rfl,rfl⟩
  refine wp_region_any dA.mixed ?_
  have j:rem l.length (Array.replicate l.length false)=List.range' 0 l.length:=by
   unfold rem
   rw [List.range_eq_range',List.filter_eq_self]
   intro aD u
   rw [Array.getD_eq_getD_getElem?,Array.getElem?_replicate]
   have:aD < l.length:=by simpa [List.mem_range'_1] using u
   simp [this]
  have w:At l.toArray (Array.replicate l.toArray.size false):=by
   intro O aQ _ d
   rw [Array.getD_eq_getD_getElem?,Array.getElem?_replicate] at d
   simp only [List.size_toArray] at d
   split at d <;> simp at d
  cases h:yD E true l with
  | true=>
   rw [show({ toList:=l }:Array Oper).toList=l from rfl,h,cond_true] at aW
   have x:=Ja dA o (by simpa using f.1) (by simp) List.nodup_range k aW
   refine Jc (E:=E) (md:=true) (c4:=aE.heap.size) f.2 (aH:=fun c aB=>∃ b,gM n b c∧aH b aB) (lJ:=aE) ?_ _ _ _ _ (by simp) w ?_ q ?_
   ·rintro c cK aG ⟨b,r,R⟩
    exact m b c cK r aG R
   ·simp only [List.size_toArray];rw [j];simp
   ·simp only [List.size_toArray];rw [j,← List.range_eq_range',List.length_range];exact x
  | false=>
  rw [show({ toList:=l }:Array Oper).toList=l from rfl,h,cond_false] at aW
  have p:=As dA (R:=0) (fun aD=>by simp) o k aW
  have y:uT E (rG E true l) l=true:=by
   unfold yD at h
   unfold rG
   cases a1:uT E false l with
   | true=>simp [a1]
   | false=>simp [a1] at h ⊢;exact h
  refine Jb (md:=rG E true l) (c4:=aE.heap.size) y (aH:=fun c aB=>∃ b,gM n b c∧aH b aB) (lJ:=aE) ?_ _ _ _ _ (by simp) ?_ ?_ q ?_
  ·rintro c cK aG ⟨b,r,R⟩
   exact m b c cK r aG R
  ·intro O aQ _ d
   rw [Array.getD_eq_getD_getElem?,Array.getElem?_replicate] at d
   simp only [List.size_toArray] at d
   split at d <;> simp at d
  ·simp only [List.size_toArray];rw [j];simp
  ·simp only [List.size_toArray];rw [j];exact p
def aV.up:aV→Exit
 | .normal=>.normal
 | .exit id=>.exit id
 | .ret=>.ret
theorem Jd(dA:h4 P E){n:Nat}:∀ {c:Code} {Q:aV→Fr→U→Prop} {X:Fr} {a:Act} {aE:World} {h:Exit→Act→World→Prop},oX E n c=true→gM n X a→den P E c Q X aE.heap→
  (∀ N f g cK,gM n f g→e2 aE cK→Q N f cK.heap→h N.up g cK)→c.wp P h a aE:=by
 intro c
 induction c with
 | skip=>intro Q X a aE h e d aW b;exact wp_skip (b .normal X a aE d (e2.refl aE) aW)
 | label l=>intro Q X a aE h e d aW b;exact wp_label (b .normal X a aE d (e2.refl aE) aW)
 | ret=>intro Q X a aE h e d aW b;exact wp_ret (b .ret X a aE d (e2.refl aE) aW)
 | exit id=>intro Q X a aE h e d aW b;exact wp_exit (b (.exit id) X a aE d (e2.refl aE) aW)
 | region id ops draw=>
  intro Q X a aE h e d aW b
  exact EO dA e d aW fun f g cK r aG R=>b .normal f g cK r aG R
 | seq L aT j k=>
  intro Q X a aE h e d aW b
  simp only [oX,Bool.and_eq_true] at e
  refine wp_seq (j e.1 d aW fun N f g cK r aG R=>?_)
  cases N with
  | normal=>exact k e.2 r R fun s u bO i v s2 w=>b s u bO i v (aG.trans s2) w
  | exit id=>exact b (.exit id) f g cK r aG R
  | ret=>exact b .ret f g cK r aG R
 | cond c L aT j k=>
  intro Q X a aE h e d aW b
  simp only [oX,Bool.and_eq_true] at e
  simp only [den] at aW
  split at aW
  ·rename_i t o
   have x:a.eval c=.bool t:=by rw [d.c3];exact o
   refine wp_cond x ?_
   cases t with
   | true=>simp only [cond_true,Ab o] at aW;exact j e.1 d aW b
   | false=>simp only [cond_false,Ab o] at aW;exact k e.2 d aW b
  ·cases aW
 | block id c bZ=>
  intro Q X a aE h e d aW b
  refine wp_block (bZ e d aW fun N f g cK r aG R=>?_)
  cases N with
  | normal=>exact b .normal f g cK r aG R
  | ret=>exact b .ret f g cK r aG R
  | exit q=>
   simp only [aV.inBlock] at R
   simp only [aV.up,Exit.inBlock]
   cases a3:Nat.beq q id with
   | true=>
    simp only [a3,cond_true] at R
    rw [if_pos (Nat.eq_of_beq_eq_true a3)]
    exact b .normal f g cK r aG R
   | false=>
    simp only [a3,cond_false] at R
    rw [if_neg (fun N=>by subst N;simp at a3)]
    exact b (.exit q) f g cK r aG R
 | scope c bZ=>
  intro Q X a aE h e d aW b
  refine wp_scope_straight (bZ e d aW fun N f g cK r aG R=>?_)
  cases N <;> exact b _ f g cK r aG R
 | loop c bZ=>
  intro Q X a aE h e d aW b
  obtain⟨m,aW⟩:=aW
  refine wp_loop_rounds m ?_
  have key:∀ m X a i,gM n X a→e2 aE i→iter (fun bP=>den P E c (aV.then bP Q)) m X i.heap→Code.rounds P c h m a i:=by
   intro m
   induction m with
   | zero=>intro X a i _ _ Z;exact Z.elim
   | succ m y=>
    intro X a i d aG Z
    rw [rounds_succ]
    refine bZ e d Z fun N f g cK r p R=>?_
    cases N with
    | normal=>exact y f g cK r (aG.trans p) R
    | exit id=>exact b (.exit id) f g cK r (aG.trans p) R
    | ret=>exact b .ret f g cK r (aG.trans p) R
  exact key m X a aE d (e2.refl aE) aW
 | _=>intro Q X a aE h e d aW b;exact aW.elim
theorem Cc(args:List Value)(n:Nat)(b:args.length≤n):gM n (wQ args) { tmps:=args.toArray ++ Array.replicate (n - args.length) undef,defers:=[] }:=by
 refine⟨by simp;omega,rfl,fun t=>?_⟩
 unfold wQ
 rw [Array.getD_eq_getD_getElem?]
 by_cases Z:t < args.length
 ·rw [Array.getElem?_append_left (by simpa using Z)]
  simp [Z]
 ·rw [Array.getElem?_append_right (by simpa using Z)]
  have a:args[t]?=none:=by simp;omega
  rw [a]
  simp only [List.size_toArray]
  rw [Array.getElem?_replicate]
  split <;> rfl
def yI(tmps:Array Value):ResultVar→Sem Value
 | .tmp t=>pure (tmps.getD t undef)
 | .cell a t=>do loadVar t (← asAddr (tmps.getD a undef))
theorem Au(dA:h4 P E){n:Nat}{X:Fr}{a:Act}(b:gM n X a){aE:World}:∀ {l:List ResultVar} {aH:List Value→Prop},qJ E X aE.heap l aH→∃ b8,aH b8∧(l.mapM (yI a.tmps)).run P aE=Result.ok b8 aE
 | [],aH,Z=>⟨[],Z,rfl⟩
 | .tmp t :: l,aH,Z=>by
  obtain⟨b8,a1,c⟩:=Au dA b (l:=l) Z
  refine⟨_,a1,?_⟩
  rw [List.mapM_cons]
  simp only [yI,Sem.run_bind,Sem.run_pure,Result.andThen,c,b.get t]
 | .cell L t :: l,aH,Z=>by
  simp only [qJ] at Z
  split at Z
  ·rename_i aI O e f
   obtain⟨v,a1,c⟩:=Ek (P:=P) dA f Z
   obtain⟨b8,g,h⟩:=Au dA b (l:=l) a1
   refine⟨_,g,?_⟩
   have d:=c aE rfl
   simp only [Instr.loadAt,Instr.sureAddr,pure_bind] at d
   rw [List.mapM_cons]
   simp only [yI,Sem.run_bind,Sem.run_pure,Result.andThen,h,b.get L,e,asAddr,d]
  ·cases Z
theorem Je(dA:h4 P E){f:FuncId}{fn:Func}{c:Code}{dH:List ResultVar}(e:P.funcs[f]?=some fn)(a3:fn.body=some c)(g:oX E fn.ntmps c=true)(h:fn.results.toList=dH)
  {args:List Value} (i:args.length≤fn.ntmps) {Z:U} {Y:Value→U→Prop}
  (aW:den P E c (fun N X aB=>match N with | .exit _=>False | _=>qJ E X aB dH fun b8=>Y (wR b8) aB) (wQ args) Z):n1 P f args.toArray Z Y:=by
 intro aE j
 subst j
 refine calls_of_wp e a3 ?_
 have k:=Cc args fn.ntmps i
 have l:fn.ntmps - args.toArray.size=fn.ntmps - args.length:=by simp
 rw [l]
 refine Jd dA g k aW fun N m d cK r aG R=>?_
 have b:(qJ E m cK.heap dH fun b8=>Y (wR b8) cK.heap)→∃ v,(results fn d.tmps).run P cK=.ok v cK∧Y v cK.heap:=by
  intro R
  obtain⟨b8,a1,a⟩:=Au dA r R
  refine⟨_,?_,a1⟩
  have b:results fn d.tmps=(fn.results.mapM (yI d.tmps) >>= fun b8=>pure (if Z:b8.size=1 then b8[0] else .tuple b8)):=rfl
  rw [b,Sem.run_bind,Array.mapM_eq_mapM_toList,Sem.run_map,h,a]
  simp only [Result.andThen,Sem.run_pure]
  congr 1
  match b8 with
  | []=>rfl
  | [t]=>rfl
  | t :: n :: kQ=>simp [wR]
 cases N with
 | normal=>obtain⟨v,a1,a⟩:=b R;exact⟨r.defers,v,a1,v,rfl,aG,a⟩
 | ret=>obtain⟨v,a1,a⟩:=b R;exact⟨r.defers,v,a1,v,rfl,aG,a⟩
 | exit id=>exact R.elim
end
set_option linter.unusedSimpArgs false
theorem uV{n:Int}{aH a:Int→Prop}(b:∀ n,aH n→a n)(Z:bB n aH):bB n a:=⟨b _ Z.out⟩
theorem Jf{op:BinOp}{R:IntKind}{a K:Int}{aH c:Value→Prop}(b:∀ v,aH v→c v)(Z:Ag op R a K aH):Ag op R a K c:=by
 cases op <;> first
  | exact b _ Z
  | exact uV (fun n=>b _) Z
  | exact⟨Z.1,uV (fun n=>b _) Z.2⟩
  | exact Z
theorem Jg{E:Env}{op:BinOp}{t:TypeId}{L aT:Value}{aH c:Value→Prop}(b:∀ v,aH v→c v)(Z:wI E op t L aT aH):wI E op t L aT c:=by
 unfold wI at *
 split at Z
 ·rename_i R a c1 K
  split at Z
  ·exact⟨Z.1,uV (fun n=>b _) Z.2⟩
  ·exact⟨Z.1,uV (fun n=>b _) Z.2⟩
  ·cases N:rF R c1 with
   | false=>rw [N] at Z;cases Z
   | true=>rw [N] at Z;exact Jf b Z
 ·split at Z
  ·exact⟨Z.1,b _ Z.2⟩
  ·exact b _ Z
  ·exact b _ Z
  ·cases Z
 ·split at Z
  ·split at Z
   ·exact b _ Z
   ·exact b _ Z
   ·cases Z
  ·cases Z
 ·split at Z
  ·split at Z
   ·exact b _ Z
   ·exact b _ Z
   ·cases Z
  ·cases Z
 ·cases Z
theorem Jh{op:UnOp}{L:Value}{aH b:Value→Prop}(a:∀ v,aH v→b v)(Z:wJ op L aH):wJ op L b:=by
 unfold wJ at *
 split at Z
 ·exact uV (fun n=>a _) Z
 ·exact uV (fun n=>a _) Z
 ·exact a _ Z
 ·cases Z
theorem Ji{eR:IntKind}{v:Value}{aH a:Int→Prop}(b:∀ n,aH n→a n)(Z:a0 eR v aH):a0 eR v a:=by
 obtain⟨m,N,g⟩:=bT Z
 subst N
 have this:∀ aD:IntKind,rF aD aD=true:=fun aD=>by cases aD <;> rfl
 simp only [a0,this,cond_true]
 exact b _ g
theorem Av{R:h3}{v:Value}{aH d:Value→Prop}(b:∀ v,aH v→d v)(Z:uN R v aH):uN R v d:=by
 cases R with
 | int R=>exact Ji (fun n=>b _) Z
 | bool=>obtain⟨n,N,g⟩:=jH (show eU v _ from Z);subst N;exact b _ g
 | str=>obtain⟨n,N,g⟩:=Ea (show Ae v _ from Z);subst N;exact b _ g
 | slice=>obtain⟨a,l,c,N,g⟩:=b2 (show aR v _ from Z);subst N;exact b _ g
 | ptr=>obtain⟨n,N,g⟩:=Eb (show Af v _ from Z);subst N;exact b _ g
theorem EP:∀ {b:List h3} {l:List Value} {aH a:List Value→Prop},(∀ v,aH v→a v)→x7 b l aH→x7 b l a
 | [],l,aH,a,c,Z=>by obtain⟨N,g⟩:=iT Z;subst N;exact c _ g
 | R :: b,l,aH,a,c,Z=>by
  obtain⟨v,b8,N,g⟩:=gG Z
  subst N
  exact Av (fun e d=>EP (fun f=>c _) d) g
theorem ER{O:dW}{v:Value}{aH a:Value→Prop}(b:∀ v,aH v→a v)(Z:uO O v aH):uO O v a:=by
 unfold uO at *
 split at Z
 ·obtain⟨dR,N,g⟩:=B0 Z
  subst N
  rename_i N
  exact EP (fun b8=>b _) g
 ·split at Z
  ·rename_i c R N
   exact Av b Z
  ·cases Z
theorem ES{E:Env}:∀ {kQ:List TypeId} {l:List Value} {aH a:List Value→Prop},(∀ v,aH v→a v)→wG E kQ l aH→wG E kQ l a
 | [],l,aH,a,b,Z=>by obtain⟨N,g⟩:=iT Z;subst N;exact b _ g
 | t :: kQ,l,aH,a,b,Z=>by
  obtain⟨v,b8,N,g⟩:=gG Z
  subst N
  unfold wG cV
  simp only
  split at g
  ·rename_i O N
   exact ER (fun d c=>ES (fun e=>b _) c) g
  ·cases g
theorem Cd{E:Env}{t:TypeId}{v:Value}{aH b:Value→Prop}(a:∀ v,aH v→b v)(Z:sK E t v aH):sK E t v b:=by
 unfold sK at *
 split at Z
 ·rename_i O N
  split at Z
  ·rename_i kQ c
   obtain⟨dR,N,g⟩:=Ed Z
   subst N
   exact ES (fun b8=>a _) g
  ·rename_i d
   exact ER a Z
 ·exact a _ Z
theorem ET{a:S}{l:Nat}{O:Int}{jC:Nat}{aH b:Addr→Prop}(c:∀ aI,aH aI→b aI)(Z:c6 a l O jC aH):c6 a l O jC b:=by
 obtain⟨a2,Z⟩:=Z
 refine⟨a2,?_⟩
 cases a with
 | none=>exact Z
 | some p=>exact c _ Z
theorem Jj{aG:ByteArray}{O:Int}{aH a:Int→Prop}(b:∀ aI,aH aI→a aI)(Z:x8 aG O aH):x8 aG O a:=by
 obtain⟨a2,Z⟩:=Z
 refine⟨a2,?_⟩
 split at Z
 ·rename_i N;exact b _ Z
 ·cases Z
theorem EU{Z:U}{aI:Addr}{aH a:Value→Prop}(b:∀ v,aH v→a v)(aW:fZ Z aI aH):fZ Z aI a:=by
 unfold fZ at *
 split at aW
 ·rename_i N;exact b _ aW
 ·cases aW
theorem EV{Z:U}{aI:Addr}:∀ {a:List h3} {O:Nat} {aH b:List Value→Prop},(∀ v,aH v→b v)→wK Z aI O a aH→wK Z aI O a b
 | [],O,aH,b,c,aW=>c _ aW
 | R :: a,O,aH,b,c,aW=>EU (fun v g=>Av (fun a a=>EV (fun b8=>c _) a) g) aW
theorem Jk{O:dW}{Z:U}{aI:Addr}{aH a:Value→Prop}(b:∀ v,aH v→a v)(aW:wL O Z aI aH):wL O Z aI a:=by
 obtain⟨ty,gH,K⟩:=O
 cases ty with
 | struct fI=>exact EV (fun b8=>b _) aW
 | tuple kQ=>exact aW
 | _=>
  match gH,aW with
  | [R],aW=>exact EU (fun v g=>Av b g) aW
theorem yJ{v:Option Value}{aZ aT:Nat}{aH a:Nat→Prop}(b:∀ n,aH n→a n)(Z:qF v aZ aT aH):qF v aZ aT a:=by
 unfold qF at *
 split at Z
 ·exact b _ Z
 ·exact⟨Z.1,b _ Z.2⟩
 ·cases Z
theorem Jl{jC:Nat}{a:S}{l c:Nat}{bW a8 b:Option Value}{aH d:S→Nat→Nat→Prop}(e:∀ a l c,aH a l c→d a l c)(Z:iR jC a l c bW a8 b aH):iR jC a l c bW a8 b d:=by
 unfold iR at *
 split at Z
 ·cases Z
 ·rename_i i
  exact yJ (fun m g=>yJ (fun aB f=>yJ (fun l h=>e _ _ _ h) f) g) Z
theorem Jm{aG:ByteArray}{bW a8:Option Value}{aH a:ByteArray→Prop}(b:∀ aG,aH aG→a aG)(Z:x9 aG bW a8 aH):x9 aG bW a8 a:=
 yJ (fun aB a=>yJ (fun l c=>b _ c) a) Z
theorem EW:∀ {rest:List Value} {L:Value} {aH b:Value→Prop},(∀ v,aH v→b v)→n2 L rest aH→n2 L rest b
 | [],L,aH,b,c,Z=>by unfold n2 at *;exact c _ Z
 | aT :: rest,L,aH,b,c,Z=>by
  cases L with
  | int R a=>
   cases aT with
   | int c1 K=>unfold n2 at *;exact EW c Z
   | _=>simp [n2] at Z
  | _=>cases aT <;> simp [n2] at Z
theorem EX:∀ {rest:List Value} {L:Value} {aH b:Value→Prop},(∀ v,aH v→b v)→n3 L rest aH→n3 L rest b
 | [],L,aH,b,c,Z=>by unfold n3 at *;exact c _ Z
 | aT :: rest,L,aH,b,c,Z=>by
  cases L with
  | int R a=>
   cases aT with
   | int c1 K=>unfold n3 at *;exact EX c Z
   | _=>simp [n3] at Z
  | _=>cases aT <;> simp [n3] at Z
theorem Jn{E:Env}{t:TypeId}{v:Value}{aH a:Value→Prop}(b:∀ v,aH v→a v)(Z:yA E t v aH):yA E t v a:=by
 unfold yA at *
 split at Z
 ·rename_i N;exact b _ Z
 ·rename_i N;exact b _ Z
 ·cases Z
theorem Jo{E:Env}{c:Call}{X:Fr}{aH b:Value→Prop}(a:∀ v,aH v→b v)(Z:wN E c X aH):wN E c X b:=by
 obtain⟨callee,args,qN⟩:=c
 unfold wN at *
 simp only at *
 split at Z
 ·split at Z
  ·rename_i e d;exact Jn a Z
  ·cases Z
 ·split at Z
  ·rename_i N;exact EW a Z
  ·cases Z
 ·split at Z
  ·rename_i N;exact EX a Z
  ·cases Z
 ·split at Z
  ·rename_i N
   split at Z
   ·rename_i d;exact⟨Z.1,a _ Z.2⟩
   ·cases Z
  ·rename_i N
   split at Z
   ·rename_i d;exact⟨Z.1,a _ Z.2⟩
   ·cases Z
  ·cases Z
 ·cases Z
theorem Ce{E:Env}{op:Op}{X:Fr}{Z:U}{aH i:Value→Prop}(b:∀ v,aH v→i v)(aW:iJ E op X Z aH):iJ E op X Z i:=by
 cases op with
 | move L=>exact b _ aW
 | assign L=>exact b _ aW
 | pick c a K=>
  simp only [iJ] at *
  split at aW
  ·rename_i t N
   cases t <;> exact b _ aW
  ·cases aW
 | load t a=>
  simp only [iJ] at *
  split at aW
  ·rename_i d e;exact Jk b aW
  ·cases aW
 | binOp op t L aT m=>exact Jg b aW
 | unOp op t L=>exact Jh b aW
 | convert aG aZ L=>
  simp only [iJ] at *
  split at aW
  ·rename_i d e g;exact uV (fun n=>b _) aW
  ·cases aW
 | indexAddr t L O=>
  simp only [iJ] at *
  split at aW
  ·rename_i d e g
   split at aW
   ·rename_i h;exact ET (fun aI=>b _) aW
   ·cases aW
  ·split at aW
   ·split at aW
    ·exact ET (fun aI=>b _) aW
    ·cases aW
   ·cases aW
  ·cases aW
 | index t L O=>
  simp only [iJ] at *
  split at aW
  ·rename_i d e g;exact Jj (fun aI=>b _) aW
  ·cases aW
 | extract L O=>
  simp only [iJ] at *
  split at aW
  ·rename_i d
   split at aW
   ·rename_i e;exact b _ aW
   ·cases aW
  ·cases aW
 | fieldAddr aG L f=>
  simp only [iJ] at *
  split at aW
  ·rename_i d e
   split at aW
   ·rename_i g
    split at aW
    ·rename_i O h
     cases j:Nat.beq O.leaves.length 0 with
     | true=>rw [j] at aW;cases aW
     | false=>rw [j] at aW;exact b _ aW
    ·cases aW
   ·cases aW
  ·cases aW
 | field t L f=>
  simp only [iJ] at *
  split at aW
  ·rename_i d e
   split at aW
   ·rename_i g
    split at aW
    ·rename_i h;exact b _ aW
    ·cases aW
    ·rename_i O o p h
     split at aW
     ·rename_i q
      exact b _ aW
     ·cases aW
    ·cases aW
   ·cases aW
  ·cases aW
 | build t parts=>
  simp only [iJ] at *
  split at aW
  ·rename_i fI gH K d
   cases k:(!fI.isEmpty && uP E fI) with
   | false=>rw [k] at aW;cases aW
   | true=>
    rw [k] at aW
    simp only [cond_true] at *
    split at aW
    ·rename_i e;exact b _ aW
    ·cases aW
  ·cases aW
 | nilCheck L=>
  simp only [iJ] at *
  split at aW
  ·rename_i d;exact b _ aW
  ·cases aW
 | slice t L bW a8 r=>
  simp only [iJ] at *
  split at aW
  ·rename_i d e
   split at aW
   ·rename_i g;exact Jl (fun a l c=>b _) aW
   ·cases aW
  ·rename_i d e
   split at aW
   ·exact Jm (fun aG=>b _) aW
   ·cases aW
  ·cases aW
 | call c=>exact Jo b aW
 | _=>exact aW
theorem EY{aI:Addr}:∀ {l:List Value} {O:Nat} {Z:U} {aH a:U→Prop},(∀ Z,aH Z→a Z)→uQ Z aI O l aH→uQ Z aI O l a
 | [],O,Z,aH,a,b,aW=>b _ aW
 | v :: b8,O,Z,aH,a,b,aW=>by
  unfold uQ at *
  cases c:n4 v with
  | false=>rw [c] at aW;cases aW
  | true=>rw [c] at aW;exact⟨aW.1,EY b aW.2⟩
theorem Jp{O:dW}{Z:U}{aI:Addr}{v:Value}{aH a:U→Prop}(b:∀ Z,aH Z→a Z)(aW:wO O Z aI v aH):wO O Z aI v a:=by
 cases v with
 | agg dR=>
  unfold wO at *
  cases a3:Nat.beq dR.toList.length O.leaves.length with
  | false=>simp only [a3] at aW;cases aW
  | true=>simp only [a3] at *;exact EY b aW
 | tuple dR=>exact aW
 | _=>
  unfold wO at *
  cases a3:Nat.beq 1 O.leaves.length with
  | false=>simp only [a3] at aW;cases aW
  | true=>simp only [a3] at *;exact⟨aW.1,b _ aW.2⟩
theorem Jq{Z:U}{N:TypeId}{O:dW}{a:S}{l c:Nat}{L:Value}{aH e:S→Nat→Nat→U→Prop}(b:∀ a l c Z,aH a l c Z→e a l c Z)(aW:g3 Z N O a l c L aH):g3 Z N O a l c L e:=by
 obtain⟨n,dR,a1,f,g,h⟩:=aW
 refine⟨n,dR,a1,f,fun d=>?_,fun d=>?_⟩
 ·have:=g d
  cases a with
  | none=>exact b _ _ _ _ this
  | some p=>exact⟨this.1,b _ _ _ _ this.2⟩
 ·obtain⟨i,j,k,oW,m,o⟩:=h d
  exact⟨i,j,k,oW,m,fun q r=>b _ _ _ _ (o q r)⟩
theorem Jr{Z:U}{jC:Nat}{a:S}{l:Nat}{L:Value}{aH c:Int→U→Prop}(d:∀ n Z,aH n Z→c n Z)(aW:n5 Z jC a l L aH):n5 Z jC a l L c:=by
 obtain⟨n,dR,a1,e,b⟩:=aW
 refine⟨n,dR,a1,e,?_⟩
 cases a with
 | none=>exact d _ _ b
 | some p=>exact⟨b.1,d _ _ b.2⟩
theorem Js{Z:U}{O:dW}{a:S}{l:Nat}{aH c:U→Prop}(b:∀ Z,aH Z→c Z)(aW:Ai Z O a l aH):Ai Z O a l c:=by
 cases a with
 | none=>exact b _ aW
 | some p=>
  cases l with
  | zero=>exact b _ aW
  | succ l=>exact⟨aW.1,b _ aW.2⟩
theorem Jt{Z:U}{aI:Addr}{b d:Int→Int→U→Prop}{e f:Prop}(a1:∀ O c Z,b O c Z→d O c Z)(a2:e→f)(aW:Aj Z aI b e):Aj Z aI d f:=by
 obtain⟨a,aG,pos,K,c,aZ⟩:=aW
 exact⟨a,aG,pos,K,fun N=>a1 _ _ _ (c N),fun N=>a2 (aZ N)⟩
theorem Ju{Z:U}{a:S}{l:Nat}{aH b:ByteArray→Prop}(c:∀ aG,aH aG→b aG)(aW:Ak Z a l aH):Ak Z a l b:=by
 cases a with
 | none=>exact c _ aW
 | some p=>obtain⟨d,a1,e,f⟩:=aW;exact⟨d,a1,e,c _ f⟩
theorem Cf{P:Program}{E:Env}{op:Op}{t0:TypeId}{X:Fr}{Z:U}{aH j:Value→U→Prop}(b:∀ v Z,aH v Z→j v Z)(aW:j2 P E op t0 X Z aH):j2 P E op t0 X Z j:=by
 cases op with
 | range t L=>
  simp only [j2] at *
  split at aW
  ·exact b _ _ aW
  ·cases aW
 | next L K=>
  cases K with
  | false=>exact aW
  | true=>
   simp only [j2,cond_true] at *
   split at aW
   ·exact Jt (fun _ _ _=>b _ _) (b _ _) aW
   ·cases aW
 | convert aG aZ L=>
  simp only [j2] at *
  split at aW
  ·split at aW
   ·exact Ju (fun _=>b _ _) aW
   ·cases aW
  ·cases aW
 | store t L v=>
  simp only [j2] at *
  split at aW
  ·rename_i d f;exact Jp (fun Z=>b _ _) aW
  ·cases aW
 | box N v=>exact b _ _ aW
 | alloc N=>
  simp only [j2] at *
  split at aW
  ·cases aW
  ·rename_i O e d
   exact b _ _ aW
  ·cases aW
 | makeSlice t l c=>
  simp only [j2] at *
  split at aW
  ·rename_i d f i
   split at aW
   ·cases aW
   ·rename_i O e h
    exact⟨aW.1,b _ _ aW.2⟩
   ·cases aW
  ·cases aW
 | buildSlice t n parts=>
  simp only [j2] at *
  split at aW
  ·rename_i d
   split at aW
   ·cases aW
   ·rename_i O e h
    cases a3:Nat.ble (n*O.leaves.length) 16777216 with
    | false=>rw [a3] at aW;cases aW
    | true=>
     rw [a3] at aW
     simp only [cond_true] at *
     split at aW
     ·exact b _ _ aW
     ·cases aW
   ·cases aW
  ·cases aW
 | call c=>
  obtain⟨callee,args,qN⟩:=c
  simp only [j2] at *
  split at aW
  ·split at aW
   ·rename_i aG L t m d f
    cases bH:wP E m with
    | false=>rw [bH] at aW;cases aW
    | true=>
     rw [bH] at aW
     simp only [cond_true] at *
     split at aW
     ·rename_i i h
      split at aW
      ·cases aW
      ·rename_i O e k
       exact Jq (fun a l c Z=>b _ _) aW
      ·cases aW
     ·cases aW
   ·cases aW
  ·split at aW
   ·rename_i d f
    split at aW
    ·rename_i i h
     split at aW
     ·cases aW
     ·rename_i O e k
      exact Jr (fun n Z=>b _ _) aW
     ·cases aW
    ·cases aW
   ·cases aW
  ·split at aW
   ·rename_i d f
    split at aW
    ·rename_i i h
     split at aW
     ·cases aW
     ·rename_i O e k
      exact Js (fun Z=>b _ _) aW
     ·cases aW
    ·cases aW
   ·cases aW
  ·split at aW
   ·rename_i d;exact n1.mono aW fun v aB g=>Cd (fun o=>b _ _) g
   ·cases aW
  ·cases aW
 | _=>exact aW
theorem Jv{P:Program}{E:Env}{op:Op}{t0:TypeId}{X:Fr}{Z:U}{aH a:Value→Prop}(b:∀ v,aH v→a v)(aW:uR P E op t0 X Z aH):uR P E op t0 X Z a:=by
 cases op with
 | call c=>
  simp only [uR] at *
  split at aW
  ·obtain⟨v,a1,d⟩:=aW
   exact⟨v,a1,Cd b d⟩
  ·cases aW
 | _=>exact aW
theorem Aw{P:Program}{E:Env}{md:Bool}{c4:Nat}{aQ:Oper}{X:Fr}{Z:U}{aH c:Value→U→Prop}(a:∀ v Z,aH v Z→c v Z)(aW:n6 P E md c4 aQ X Z aH):n6 P E md c4 aQ X Z c:=by
 unfold n6 at *
 cases b:gP E aQ.op with
 | pure=>simp only [b] at *;exact Ce (fun v=>a v _) aW
 | load=>
  simp only [b] at *
  cases md with
  | false=>exact Ce (fun v=>a v _) aW
  | true=>
   simp only [cond_true] at *
   split at aW
   ·exact⟨aW.1,Ce (fun v=>a v _) aW.2⟩
   ·cases aW
 | quiet=>simp only [b] at *;exact Jv (fun v=>a v _) aW
 | call=>
  simp only [b] at *
  cases md with
  | false=>simp only [cond_false] at *;exact Cf a aW
  | true=>simp only [cond_true] at *;exact Cf (fun v aB R=>⟨R.1,a _ _ R.2⟩) aW
 | act=>simp only [b] at *;exact Cf a aW
theorem wY{P:Program}{E:Env}{md:Bool}{c4:Nat}{all:List Oper}:∀ {l:List Oper} {X:Fr} {Z:U} {aH b:Fr→U→Prop},(∀ X Z,aH X Z→b X Z)→j3 P E md c4 all l X Z aH→j3 P E md c4 all l X Z b
 | [],X,Z,aH,b,a,aW=>a _ _ aW
 | aQ :: rest,X,Z,aH,b,a,aW=>by
  unfold j3 at *
  split at aW
  ·rename_i N;exact Aw (fun v aB=>wY a) aW
  ·rename_i aD want N
   split at aW
   ·cases aW
   ·rename_i t c
    split at aW
    ·rename_i K d
     cases K <;> cases want <;> simp only [cond_true,cond_false] at*<;> first
      | exact wY a aW
      | exact Aw (fun v aB=>wY a) aW
    ·exact wY a aW
    ·cases aW
theorem EZ{P:Program}{E:Env}{c4:Nat}{all:List Oper}{O:Nat}{X:Fr}{Z:U}{aH a:Fr→U→Prop}(b:∀ X Z,aH X Z→a X Z)(aW:sM P E c4 all O X Z aH):sM P E c4 all O X Z a:=by
 unfold sM at *
 split at aW
 ·exact wY b aW
 ·cases aW
theorem E0{f g:Nat→Prop}(a:∀ O,f O→g O):∀ {l:List Nat},yE f l→yE g l
 | [],_=>trivial
 | [O],Z=>a O Z
 | O :: aD :: l,Z=>⟨a O Z.1,E0 a Z.2⟩
theorem Cg{P:Program}{E:Env}{c4:Nat}{all:List Oper}{b:List Nat}{aH c:Fr→U→Prop}(a:∀ X Z,aH X Z→c X Z):∀ {n:Nat} {todo:List Nat} {X:Fr} {Z:U},qI P E c4 all b n todo X Z aH→qI P E c4 all b n todo X Z c
 | 0,_,X,Z,aW=>a _ _ aW
 | n+1,todo,X,Z,aW=>by
  unfold qI at *
  split at aW
  ·rename_i N;exact EZ (fun X Z=>Cg a) aW
  ·rename_i N;exact E0 (fun O g=>EZ (fun X Z=>Cg a) g) aW
theorem yK{P:Program}{E:Env}:∀ {c:Code} {Q b:aV→Fr→U→Prop} {X:Fr} {Z:U},(∀ N X Z,Q N X Z→b N X Z)→den P E c Q X Z→den P E c b X Z:=by
 intro c
 induction c with
 | skip=>intro Q b X Z a aW;exact a _ _ _ aW
 | label l=>intro Q b X Z a aW;exact a _ _ _ aW
 | ret=>intro Q b X Z a aW;exact a _ _ _ aW
 | exit id=>intro Q b X Z a aW;exact a _ _ _ aW
 | region id ops draw=>
  intro Q b X Z a aW
  simp only [den] at *
  cases h:yD E draw ops.toList with
  | true=>rw [h] at aW;simp only [cond_true] at aW ⊢;exact Cg (a _) aW
  | false=>rw [h] at aW;simp only [cond_false] at aW ⊢;exact wY (a _) aW
 | seq L aT d e=>
  intro Q b X Z a aW
  refine d (fun N i aB g=>?_) aW
  cases N with
  | normal=>exact e a g
  | exit id=>exact a _ _ _ g
  | ret=>exact a _ _ _ g
 | cond c L aT d e=>
  intro Q b X Z a aW
  simp only [den] at *
  split at aW
  ·rename_i t N
   cases t with
   | true=>exact d a aW
   | false=>exact e a aW
  ·cases aW
 | block id c bZ=>
  intro Q b X Z a aW
  refine bZ (fun N i aB g=>?_) aW
  cases N with
  | normal=>exact a _ _ _ g
  | ret=>exact a _ _ _ g
  | exit j=>
   simp only [aV.inBlock] at *
   cases a3:Nat.beq j id with
   | true=>rw [a3] at g;exact a _ _ _ g
   | false=>rw [a3] at g;exact a _ _ _ g
 | scope c bZ=>intro Q b X Z a aW;exact bZ a aW
 | loop c bZ=>
  intro Q b X Z a aW
  obtain⟨n,aW⟩:=aW
  refine⟨n,?_⟩
  have key:∀ n X Z,iter (fun bP=>den P E c (aV.then bP Q)) n X Z→iter (fun bP=>den P E c (aV.then bP b)) n X Z:=by
   intro n
   induction n with
   | zero=>intro X Z g;exact g
   | succ n k=>
    intro X Z g
    refine bZ (fun N i aB f=>?_) g
    cases N with
    | normal=>exact k _ _ f
    | exit id=>exact a _ _ _ f
    | ret=>exact a _ _ _ f
  exact key n X Z aW
 | _=>intro Q b X Z a aW;exact aW
theorem E1(L aT:Fr→U→Prop)(Q:aV→Fr→U→Prop):aV.then L (aV.then aT Q)=aV.then L Q:=by
 funext N
 cases N <;> rfl
theorem pQ{v:Value}{aH:Addr→Prop}(Z:gW v aH):∃ aI,v=.pointer (some aI)∧aH aI:=by
 cases v with
 | pointer a=>cases a with
  | some aI=>exact⟨aI,rfl,Z⟩
  | none=>cases Z
 | _=>cases Z
variable {P:Program} {E:Env}
def bC(E:Env)(dH:List ResultVar)(Y:Value→U→Prop):aV→Fr→U→Prop:=
 fun N X aB=>match N with | .exit _=>False | _=>qJ E X aB dH fun b8=>Y (wR b8) aB
def yL(X:Fr):List (Nat × Value)→Fr
 | []=>X
 | p :: l=>yL (k0 X p.1 p.2) l
def Ax(X:Fr):List (Nat × Value)→Prop
 | []=>True
 | p :: l=>X p.1=p.2∧Ax X l
theorem Ch:∀ {l:List (Nat × Value)} {X:Fr},Ax X l→yL X l=X
 | [],_,_=>rfl
 | p :: l,X,Z=>by
  have N:k0 X p.1 p.2=X:=x6 Z.1
  show yL (k0 X p.1 p.2) l=X
  rw [N];exact Ch Z.2
theorem bV{c:Code}{Q:aV→Fr→U→Prop}{X:Fr}{Z:U}(l:List (Nat × Value))(a:Ax X l){t:Prop}(b:den P E c Q (yL X l) Z=t)(g:t):den P E c Q X Z:=by
 rw [← b,Ch a] at g;exact g
def first:Nat→Code→Code
 | 1,.seq a _=>a
 | n+2,.seq a K=>.seq a (first (n+1) K)
 | _,c=>c
def rest:Nat→Code→Code
 | 1,.seq _ K=>K
 | n+2,.seq _ K=>rest (n+1) K
 | _,_=>.skip
theorem E2{bP:Fr→U→Prop}{Q:aV→Fr→U→Prop}:∀ {n:Nat} {c:Code} (_:∀ X Z,bP X Z→den P E (rest n c) Q X Z) {X:Fr} {Z:U},den P E (first n c) (aV.then bP Q) X Z→den P E c Q X Z:=by
 have key:∀ (c:Code),(∀ X Z,bP X Z→den P E .skip Q X Z)→∀ {X:Fr} {Z:U},den P E c (aV.then bP Q) X Z→den P E c Q X Z:=by
  intro c b X Z g
  refine yK (fun N X Z g=>?_) g
  cases N with
  | normal=>exact b _ _ g
  | exit O=>exact g
  | ret=>exact g
 have one:∀ (a K:Code),(∀ X Z,bP X Z→den P E K Q X Z)→∀ {X:Fr} {Z:U},den P E a (aV.then bP Q) X Z→den P E (.seq a K) Q X Z:=by
  intro a K b X Z g
  show den P E a (aV.then (den P E K Q) Q) X Z
  refine yK (fun N X Z g=>?_) g
  cases N with
  | normal=>exact b _ _ g
  | exit O=>exact g
  | ret=>exact g
 intro n
 induction n with
 | zero=>
  intro c b X Z g
  have e:first 0 c=c:=by cases c <;> rfl
  have f:rest 0 c=.skip:=by cases c <;> rfl
  rw [e] at g;rw [f] at b;exact key c b g
 | succ n bZ=>
  intro c b X Z g
  cases c with
  | seq a K=>
   cases n with
   | zero=>exact one a K b g
   | succ m=>
    have d:den P E a (aV.then (den P E (first (m+1) K) (aV.then bP Q)) (aV.then bP Q)) X Z:=g
    rw [E1] at d <;> skip
    all_goals show den P E a (aV.then (den P E K Q) Q) X Z
    all_goals refine yK (fun N X Z g=>?_) d
    all_goals cases N with
     | normal=>exact bZ b g
     | exit O=>exact g
     | ret=>exact g
  | _=>exact key _ (by cases n <;> exact b) (by cases n <;> exact g)
theorem c5(n:Nat){c r:Code}{bP:Fr→U→Prop}{Q:aV→Fr→U→Prop}(a:rest n c=r)(b:∀ X Z,bP X Z→den P E r Q X Z){X:Fr}{Z:U}(g:den P E (first n c) (aV.then bP Q) X Z):den P E c Q X Z:=by
 subst a;exact E2 b g
theorem fP{c a r:Code}{bP:Fr→U→Prop}{Q:aV→Fr→U→Prop}(b:c=.seq a r)(d:∀ X Z,bP X Z→den P E r Q X Z){X:Fr}{Z:U}(g:den P E a (aV.then bP Q) X Z):den P E c Q X Z:=by
 subst b;exact E2 (n:=1) d g
theorem e3{c a:Code}{O:Nat}{Q:aV→Fr→U→Prop}(b:c=.block O a){X:Fr}{Z:U}(g:den P E a (aV.inBlock O Q) X Z):den P E c Q X Z:=by
 subst b;exact g
theorem Jw{c a:Code}{Q:aV→Fr→U→Prop}(b:c=.scope a){X:Fr}{Z:U}(g:den P E a Q X Z):den P E c Q X Z:=by
 subst b;exact g
theorem fF{c K:Code}{Q:aV→Fr→U→Prop}(T:Nat→Fr→U→Prop)(a:c=.loop K)(a2:∀ X Z,T 0 X Z→False)(bH:∀ n X Z,T (n+1) X Z→den P E K (aV.then (T n) Q) X Z)(n:Nat)(X:Fr)(Z:U)(g:T n X Z):den P E c Q X Z:=by
 subst a
 refine⟨n,?_⟩
 induction n generalizing X Z with
 | zero=>exact(a2 X Z g).elim
 | succ n bZ=>
  show den P E K (aV.then (iter (fun bP=>den P E K (aV.then bP Q)) n) Q) X Z
  refine yK (fun N X Z g=>?_) (bH n X Z g)
  cases N with
  | normal=>exact bZ _ _ g
  | exit O=>exact g
  | ret=>exact g
theorem b0{R:IntKind}{v:Value}{n:Int}{aH:Int→Prop}(N:v=.int R n)(g:aH n):a0 R v aH:=by
 subst N;cases R <;> exact g
theorem dB{v:Value}{n:Bool}{aH:Bool→Prop}(N:v=.bool n)(g:aH n):eU v aH:=by subst N;exact g
theorem uW{v:Value}{n:Addr}{aH:Addr→Prop}(N:v=.pointer (some n))(g:aH n):gW v aH:=by subst N;exact g
theorem bL{v:Value}{a:S}{l c:Nat}{aH:S→Nat→Nat→Prop}(N:v=.slice a l c)(g:aH a l c):aR v aH:=by subst N;exact g
theorem fH{v:Value}{l:List Value}{aH:List Value→Prop}(N:v=.agg l.toArray)(g:aH l):eQ v aH:=by subst N;exact g
theorem j4{v:Value}{aH:List Value→Prop}(Z:eQ v aH):∃ l,v=.agg l.toArray∧aH l:=by
 obtain⟨dR,N,g⟩:=B0 Z;exact⟨dR.toList,by rw [N],g⟩
theorem gY{v:Value}{l:List Value}{aH:List Value→Prop}(N:v=.tuple l.toArray)(g:aH l):cW v aH:=by subst N;exact g
theorem cS{v:Value}{b8:List Value}{aH:Value→List Value→Prop}(g:aH v b8):cV (v :: b8) aH:=g
theorem eG{aH:Prop}(g:aH):b9 [] aH:=g
theorem eD(dA:h4 P E){f:FuncId}{fn:Func}{c:Code}{dH:List ResultVar}(a:P.funcs[f]?=some fn)(a3:fn.body=some c)(b:oX E fn.ntmps c=true)(d:fn.results.toList=dH)
  {args:List Value} (e:Nat.ble args.length fn.ntmps=true) {Z:U} {Y:Value→U→Prop}
  (aW:den P E c (bC E dH Y) (wQ args) Z):n1 P f args.toArray Z Y:=
 Je dA a a3 b d (Nat.le_of_ble_eq_true e) aW
end Go.Gv
namespace Go.Gv
abbrev W:Bool:=true
abbrev aJ:Bool:=false
abbrev eT(Z:U)(aI:Addr)(aH:Bool→Prop):Prop:=fZ Z aI fun v=>eU v aH
abbrev dQ(Z:U)(aI:Addr)(aH:S→Nat→Nat→Prop):Prop:=fZ Z aI fun v=>aR v aH
abbrev eO(Z:U)(R:IntKind)(aI:Addr)(aH:Int→Prop):Prop:=fZ Z aI fun v=>a0 R v aH
abbrev fT(l:List Value)(aH:Bool→List Value→Prop):Prop:=cV l fun v aT=>eU v fun K=>aH K aT
abbrev cU(l:List Value)(aH:S→Nat→Nat→List Value→Prop):Prop:=cV l fun v aT=>aR v fun a l c=>aH a l c aT
abbrev dP(l:List Value)(R:IntKind)(aH:Int→List Value→Prop):Prop:=cV l fun v aT=>a0 R v fun L=>aH L aT
theorem bF{v:Value}{aH:S→Nat→Nat→Prop}{P:Prop}(g:aR v aH)(f:∀ a l c,v=.slice a l c→aH a l c→P):P:=by
 obtain⟨a,l,c,N,g⟩:=b2 g
 exact f a l c N g
theorem bJ{R:IntKind}{v:Value}{aH:Int→Prop}{P:Prop}(g:a0 R v aH)(f:∀ L,v=.int R L→aH L→P):P:=by
 obtain⟨L,N,g⟩:=bT g
 exact f L N g
theorem yM{v:Value}{aH:Bool→Prop}{P:Prop}(g:eU v aH)(f:∀ L,v=.bool L→aH L→P):P:=by
 obtain⟨L,N,g⟩:=jH g
 exact f L N g
theorem iE{v:Value}{aH:Addr→Prop}{P:Prop}(g:gW v aH)(f:∀ L,v=.pointer (some L)→aH L→P):P:=by
 obtain⟨L,N,g⟩:=pQ g
 exact f L N g
end Go.Gv
