import Derived.Orders
import Derived.Still
import Derived.Below
import Derived.KernelRfl
import Derived.Tactics
import Derived.Laws.Externs
import Derived.Laws.Append
import Derived.Laws.Slices
import Derived.Laws.Entries
import Derived.WalkSpells
import Derived.LoopN
import Derived.Scope
import Derived.Laws.Cells
namespace Go.Gv
abbrev R:=Option Addr
abbrev Fr:=Nat→Value
abbrev V:=Array Obj
def jF(X:Fr)(aB:Nat)(v:Value):Fr:=fun t=>bif Nat.beq t aB then v else X t
def kN(X:Fr):Option Nat→Value→Fr
 | some aB,v=>jF X aB v
 | none,_=>X
def cI(X:Fr):Operand→Value
 | .tmp t=>X t
 | .const v=>v
 | .global g=>.pointer (some ⟨g,0,none⟩)
 | .func a3=>.func (.func a3) #[] #[]
def vE(X:Fr):Operand→Bool→Fr
 | .tmp t,N=>jF X t (.bool N)
 | _,_=>X
theorem s4{X:Fr}{aB:Nat}{v:Value}(Z:X aB=v):jF X aB v=X:=by
 funext t
 unfold jF
 cases O:Nat.beq t aB with
 | false=>rfl
 | true=>obtain rfl:=Nat.eq_of_beq_eq_true O;exact Z.symm
theorem x1{X:Fr}{c:Operand}{N:Bool}(Z:cI X c=.bool N):vE X c N=X:=by
 cases c with
 | tmp t=>exact s4 Z
 | _=>rfl
def fQ(Z:V)(a:Addr):Option Value:=
 match Z[a.block]? with
 | some (.cells c _ _)=>if a.spot.isSome then none else c[a.off]?
 | _=>none
def j5(Z:V)(a:Addr):Bool:=
 match Z[a.block]? with
 | some (.cells _ _ (a6,aK))=>a6≤a.off && a.off < aK
 | _=>false
def e5(Z:V)(a:Addr)(v:Value):V:=Z.modify a.block fun
   | .cells c b frozen=>.cells (if a.spot.isSome then c else c.setIfInBounds a.off v) b frozen
   | s=>s
theorem Cu(L:World)(a:Addr):L.cell? a=fQ L.heap a:=rfl
def h2(Z:V)(y:Addr):Nat→List Value→V
 | _,[]=>Z
 | T,v :: bN=>h2 (e5 Z (y.add T) v) y (T+1) bN
def mE(Z:V)(y:Addr):Nat→List Value→Prop
 | _,[]=>True
 | T,v :: bN=>fQ Z (y.add T)=some v∧mE Z y (T+1) bN
def mF(Z:V)(y:Addr):Nat→Nat→Prop
 | _,0=>True
 | T,n+1=>((∃ v,fQ Z (y.add T)=some v)∧j5 Z (y.add T)=false)∧mF Z y (T+1) n
structure eP(L b5:World):Prop where
 os:b5.os=L.os
 tape:b5.tape=L.tape
 output:b5.output=L.output
theorem eP.refl(L:World):eP L L:=⟨rfl,rfl,rfl⟩
theorem eP.trans{a N c:World}(Z:eP a N)(U:eP N c):eP a c:=⟨U.os.trans Z.os,U.tape.trans Z.tape,U.output.trans Z.output⟩
def lS(P:Program)(a3:FuncId)(args:Array Value)(Z:V)(Y:Value→V→Prop):Prop:=
 ∀ L:World,L.heap=Z→Calls P a3 args L fun O b5=>∃ v,O=.returned v∧eP L b5∧Y v b5.heap
theorem lS.mono{P:Program}{a3:FuncId}{args:Array Value}{Z:V}{Y a:Value→V→Prop}(b:lS P a3 args Z Y)(c:∀ v K,Y v K→a v K):lS P a3 args Z a:=
 fun L a=>(b L a).mono fun _ _ ⟨v,O,F,C⟩=>⟨v,O,F,c _ _ C⟩
inductive fY where
 | int (U:IntKind) | bool | str | slice | ptr
inductive m4 where
 | int (U:IntKind) | bool | str | slice (O:TypeId) | ptr (O:TypeId) | struct (dV:List (Nat × TypeId)) | tuple (iE:List TypeId)
structure c2 where
 c6:m4
 leaves:List fY
 bytes:Nat
inductive nP where
 | body | quiet | m5 | m6
def vF:Array Value→Sem Value:=fun args=>do
 let (Q,k,N) ← Extern.MathBitsCarry.three "Sub64" args
 pure (Extern.MathBitsCarry.pair ((Q+Extern.MathBitsCarry.m64 - k - N) % Extern.MathBitsCarry.m64) (if Q < k+N then 1 else 0))
structure Env where
 types:List (Nat × c2)
 mG:List (Nat × nP)
 vG:List (Nat × (Nat × TypeId)):=[]
def look{cS:Type}:List (Nat × cS)→Nat→Option cS
 | [],_=>none
 | (U,Q) :: l,n=>bif Nat.beq U n then some Q else look l n
theorem s5{cS:Type}{l:List (Nat × cS)}{n:Nat}{Q:cS}(Z:look l n=some Q):(n,Q) ∈ l:=by
 induction l with
 | nil=>simp [look] at Z
 | cons y l bD=>
  obtain⟨U,k⟩:=y
  unfold look at Z
  cases O:Nat.beq U n with
  | false=>rw [O] at Z;exact List.mem_cons_of_mem _ (bD Z)
  | true=>
   obtain rfl:=Nat.eq_of_beq_eq_true O
   rw [O] at Z
   cases Z
   exact List.mem_cons_self
def m7:IntKind→IntKind→Bool
 | .i8,.i8 | .i16,.i16 | .i32,.i32 | .i64,.i64 | .u8,.u8 | .u16,.u16 | .u32,.u32 | .u64,.u64=>true
 | _,_=>false
theorem s6{M U:IntKind}(Z:m7 M U=true):M=U:=by cases M <;> cases U <;> first | rfl | cases Z
def fY.zero:fY→Value
 | .int U=>.int U 0
 | .bool=>.bool false
 | .str=>.string ByteArray.empty
 | .slice=>.slice none 0 0
 | .ptr=>.pointer none
def vH:fY→Value→Bool
 | .int U,.int cD n=>m7 U cD && n == 0
 | .bool,.bool N=>!N
 | .str,.string F=>F.size == 0
 | .slice,.slice none 0 0=>true
 | .ptr,.pointer none=>true
 | _,_=>false
theorem Cv{U:fY}{v:Value}(Z:vH U v=true):v=U.zero:=by
 cases U <;> cases v <;> simp only [vH,Bool.and_eq_true,Bool.false_eq_true] at Z
 ·obtain⟨aI,a⟩:=Z
  rw [← s6 aI]
  simp at a
  simp [fY.zero,a]
 ·simp at Z;simp [fY.zero,Z]
 ·rename_i F
  have:F=ByteArray.empty:=by
   apply ByteArray.ext
   have K:F.size=0:=by simpa using Z
   exact Array.eq_empty_of_size_eq_zero K
  rw [this];rfl
 ·split at Z <;> simp_all [fY.zero]
 ·split at Z <;> simp_all [fY.zero]
def p3:List fY→List Value→Bool
 | [],[]=>true
 | U :: a,v :: bN=>vH U v && p3 a bN
 | _,_=>false
theorem x2:∀ {a:List fY} {bN:List Value},p3 a bN=true→bN=a.map fY.zero
 | [],[],_=>rfl
 | U :: a,v :: bN,Z=>by
  simp only [p3,Bool.and_eq_true] at Z
  rw [Cv Z.1,x2 Z.2];rfl
 | [],_ :: _,Z=>by simp [p3] at Z
 | _ :: _,[],Z=>by simp [p3] at Z
def mH:Option TypeDesc→m4→Bool
 | some (.int U),.int cD=>m7 U cD
 | some .bool,.bool=>true
 | some .string,.str=>true
 | some (.slice O),.slice a=>Nat.beq O a
 | some (.pointer O),.ptr a=>Nat.beq O a
 | some (.struct dV),.struct a=>decide (dV.toList.map (fun a3=>(a3.offset,a3.type))=a)
 | some (.tuple iE),.tuple b=>decide (iE.toList=b)
 | some (.array _ _),.struct a=>a.isEmpty
 | _,_=>false
def iN(P:Program)(t:TypeId)(T:c2):Bool:=
 mH (P.underlying t) T.c6 && match P.info? t with
  | some a=>Nat.beq a.size T.leaves.length && Nat.beq a.bytes T.bytes && match T.c6 with
   | .tuple _=>true
   | _=>match a.zero with
    | some a5=>p3 T.leaves a5.cells.toList
    | none=>false
  | none=>false
def vI(P:Program)(a3:FuncId)(U:nP):Bool:=
 match P.funcs[a3]? with
 | some fn=>match U with
  | .body | .quiet=>fn.body.isSome && !(fn.name == "runtime.NumGoroutine")
  | .m5 | .m6=>fn.body.isNone && !(fn.name == "runtime.NumGoroutine")
 | none=>false
def x3(P:Program)(t:TypeId)(y:Nat × TypeId):Bool:=
 match P.underlying t with
 | some (.array n O)=>Nat.beq n y.1 && Nat.beq O y.2
 | _=>false
def x4(P:Program)(E:Env):Bool:=((E.types.all fun (t,T)=>iN P t T) && (E.mG.all fun (a3,U)=>vI P a3 U)) && E.vG.all fun (t,y)=>x3 P t y
def eL(v:Value)(A:Bool→Prop):Prop:=match v with | .bool N=>A N | _=>False
def aC(U:IntKind)(v:Value)(A:Int→Prop):Prop:=match v with | .int cD n=>(bif m7 U cD then A n else False) | _=>False
def s7(v:Value)(A:ByteArray→Prop):Prop:=match v with | .string F=>A F | _=>False
def aE(v:Value)(A:R→Nat→Nat→Prop):Prop:=match v with | .slice a l c=>A a l c | _=>False
def gB(v:Value)(A:Addr→Prop):Prop:=match v with | .pointer (some x)=>A x | _=>False
def s8(v:Value)(A:R→Prop):Prop:=match v with | .pointer a=>A a | _=>False
def oQ:fY→Value→(Value→Prop)→Prop
 | .int U,v,A=>aC U v fun n=>A (.int U n)
 | .bool,v,A=>eL v fun N=>A (.bool N)
 | .str,v,A=>s7 v fun F=>A (.string F)
 | .slice,v,A=>aE v fun a l c=>A (.slice a l c)
 | .ptr,v,A=>s8 v fun a=>A (.pointer a)
def cL(l:List Value)(A:Value→List Value→Prop):Prop:=match l with | v :: bN=>A v bN | []=>False
def bG(l:List Value)(A:Prop):Prop:=match l with | []=>A | _=>False
def rI:List fY→List Value→(List Value→Prop)→Prop
 | [],l,A=>bG l (A [])
 | U :: a,l,A=>cL l fun v bN=>oQ U v fun b=>rI a bN fun a=>A (b :: a)
def cE(v:Value)(A:List Value→Prop):Prop:=match v with | .agg cT=>A cT.toList | _=>False
def cO(v:Value)(A:List Value→Prop):Prop:=match v with | .tuple cT=>A cT.toList | _=>False
def oR(T:c2)(v:Value)(A:Value→Prop):Prop:=
 match T.c6 with
 | .struct _=>cE v fun l=>rI T.leaves l fun bN=>A (.agg bN.toArray)
 | _=>match T.leaves with
  | [U]=>oQ U v A
  | _=>False
def p4(E:Env):List TypeId→List Value→(List Value→Prop)→Prop
 | [],l,A=>bG l (A [])
 | t :: iE,l,A=>cL l fun v bN=>match look E.types t with
  | some T=>oR T v fun a=>p4 E iE bN fun b=>A (a :: b)
  | none=>False
def oS(E:Env)(t:TypeId)(v:Value)(A:Value→Prop):Prop:=
 match look E.types t with
 | some T=>match T.c6 with
  | .tuple iE=>cO v fun l=>p4 E iE l fun bN=>A (.tuple bN.toArray)
  | _=>oR T v A
 | none=>A v
def e7(U:IntKind)(Q k:Int):Int:=U.wrap (Q*2 ^ (min k.toNat U.bits))
def fC(U:IntKind)(Q k:Int):Int:=Q.fdiv (2 ^ (min k.toNat U.bits))
def fK(U:IntKind)(Q k:Int):Int:=U.wrap (BitVec.ofInt U.bits Q &&& BitVec.ofInt U.bits k).toNat
def iX(U:IntKind)(Q k:Int):Int:=U.wrap (BitVec.ofInt U.bits Q ||| BitVec.ofInt U.bits k).toNat
def x5(U:IntKind)(Q k:Int):Int:=U.wrap (BitVec.ofInt U.bits Q ^^^ BitVec.ofInt U.bits k).toNat
def Cw(U:IntKind)(Q k:Int):Int:=U.wrap (BitVec.ofInt U.bits Q &&& ~~~(BitVec.ofInt U.bits k)).toNat
structure aN(n:Int)(A:Int→Prop):Prop where
 out:A n
def s9(op:BinOp)(U:IntKind)(a N:Int)(A:Value→Prop):Prop:=
 match op with
 | .add=>aN (U.wrap (a+N)) fun n=>A (.int U n)
 | .sub=>aN (U.wrap (a - N)) fun n=>A (.int U n)
 | .mul=>aN (U.wrap (a*N)) fun n=>A (.int U n)
 | .quo=>N ≠ 0∧aN (U.wrap (a.tdiv N)) fun n=>A (.int U n)
 | .rem=>N ≠ 0∧aN (a.tmod N) fun n=>A (.int U n)
 | .and=>aN (fK U a N) fun n=>A (.int U n)
 | .or=>aN (iX U a N) fun n=>A (.int U n)
 | .xor=>aN (x5 U a N) fun n=>A (.int U n)
 | .andNot=>aN (Cw U a N) fun n=>A (.int U n)
 | .eql=>A (.bool (a == N))
 | .neq=>A (.bool (a != N))
 | .lss=>A (.bool (decide (a < N)))
 | .leq=>A (.bool (decide (a≤N)))
 | .gtr=>A (.bool (decide (a > N)))
 | .geq=>A (.bool (decide (a≥N)))
 | _=>False
def p5(E:Env)(op:BinOp)(t:TypeId)(Q k:Value)(A:Value→Prop):Prop:=
 match Q,k with
 | .int U a,.int cD N=>
  match op with
  | .shl=>0≤N∧aN (e7 U a N) fun n=>A (.int U n)
  | .shr=>0≤N∧aN (fC U a N) fun n=>A (.int U n)
  | op=>bif m7 U cD then s9 op U a N A else False
 | .string a,.string N=>
  match op with
  | .add=>(((a.size+N.size:Nat):Int)≤9223372036854775807)∧A (.string (a ++ N))
  | .eql=>A (.bool (a.toList == N.toList))
  | .neq=>A (.bool (!(a.toList == N.toList)))
  | _=>False
 | .bool a,.bool N=>
  match look E.types t with
  | some ⟨.bool,_,_⟩=>(match op with
   | .eql=>A (.bool (a == N))
   | .neq=>A (.bool (!(a == N)))
   | _=>False)
  | _=>False
 | .slice a _ _,.slice none _ _=>
  match look E.types t with
  | some ⟨.slice _,_,_⟩=>(match op with
   | .eql=>A (.bool a.isNone)
   | .neq=>A (.bool (!a.isNone))
   | _=>False)
  | _=>False
 | _,_=>False
def Cx(U:IntKind)(n:Int):Int:=x5 U (bif U.signed then -1 else U.max) n
def p6(op:UnOp)(Q:Value)(A:Value→Prop):Prop:=
 match op,Q with
 | .neg,.int U n=>aN (U.wrap (0 - n)) fun n=>A (.int U n)
 | .xor,.int U n=>aN (Cx U n) fun n=>A (.int U n)
 | .not,.bool N=>A (.bool (!N))
 | _,_=>False
def cC(a:R)(l:Nat)(T:Int)(gS:Nat)(A:Addr→Prop):Prop:=
 (0≤T∧T < (l:Int))∧match a with
  | some y=>A (y.add (T.toNat*gS))
  | none=>False
def rJ(F:ByteArray)(T:Int)(A:Int→Prop):Prop:=
 0≤T∧match F[T.toNat]? with
  | some N=>A N.toNat
  | none=>False
def gI(Z:V)(x:Addr)(A:Value→Prop):Prop:=match fQ Z x with | some v=>A v | none=>False
def p7(Z:V)(x:Addr):Nat→List fY→(List Value→Prop)→Prop
 | _,[],A=>A []
 | T,U :: a,A=>gI Z (x.add T) fun v=>oQ U v fun b=>p7 Z x (T+1) a fun bN=>A (b :: bN)
def p8(T:c2)(Z:V)(x:Addr)(A:Value→Prop):Prop:=
 match T.c6 with
 | .struct _=>p7 Z x 0 T.leaves fun bN=>A (.agg bN.toArray)
 | .tuple _=>False
 | _=>match T.leaves with
  | [U]=>gI Z x fun v=>oQ U v A
  | _=>False
def mI(v:Option Value)(a k:Nat)(A:Nat→Prop):Prop:=
 match v with
 | none=>A a
 | some (.int _ T)=>(0≤T∧T≤(k:Int))∧A T.toNat
 | _=>False
def g7(a:R)(m l gS:Nat):R:=if m=l then a else a.map (·.add (l*gS))
def gT(gS:Nat)(a:R)(len cap:Nat)(a6 aK b:Option Value)(A:R→Nat→Nat→Prop):Prop:=
 match aK,b with
 | none,some _=>False
 | _,_=>mI b cap cap fun m=>mI aK len m fun Z=>mI a6 0 Z fun l=>A (g7 a m l gS) (Z - l) (m - l)
def rK(F:ByteArray)(a6 aK:Option Value)(A:ByteArray→Prop):Prop:=
 mI aK F.size F.size fun Z=>mI a6 0 Z fun l=>A (F.extract l Z)
def vJ(a:List Value)(off:Nat)(bN:List Value):List Value:=a.take off ++ (bN ++ a.drop (off+bN.length))
def p9(a:Nat→Option (Nat × Nat))(b:List Value):List (Nat × Value)→Option (List Value)
 | []=>some b
 | (T,v) :: rest=>
  match a T with
  | none=>none
  | some (off,size)=>bif Nat.beq v.cells.toList.length size && Nat.ble (off+v.cells.toList.length) b.length then p9 a (vJ b off v.cells.toList) rest else none
def vK(E:Env)(dV:List (Nat × TypeId))(a3:Nat):Option (Nat × Nat):=
 match dV[a3]? with
 | some (off,t)=>match look E.types t with
  | some T=>some (off,T.leaves.length)
  | none=>none
 | none=>none
def oT(E:Env):List (Nat × TypeId)→Bool
 | []=>true
 | (_,t) :: l=>match look E.types t with
  | some _=>oT E l
  | none=>false
def kO:Value→List Value→(Value→Prop)→Prop
 | Q,[],A=>A Q
 | .int U Q,.int _ k :: rest,A=>kO (.int U (if k > Q then k else Q)) rest A
 | _,_,_=>False
def kP:Value→List Value→(Value→Prop)→Prop
 | Q,[],A=>A Q
 | .int U Q,.int _ k :: rest,A=>kP (.int U (if k < Q then k else Q)) rest A
 | _,_,_=>False
def rL(E:Env)(t:TypeId)(v:Value)(A:Value→Prop):Prop:=
 match look E.types t,v with
 | some ⟨.slice _,_,_⟩,.slice _ n _=>A (.int .i64 (n:Int))
 | some ⟨.str,_,_⟩,.string F=>A (.int .i64 (F.size:Int))
 | _,_=>False
def k6(Q k a5:Int)(A:Int→Int→Prop):Prop:=(0≤Q∧0≤k∧0≤a5∧a5≤1)∧A ((Q+k+a5) % 18446744073709551616) ((Q+k+a5) / 18446744073709551616)
def nQ(Q k a5:Int)(A:Int→Int→Prop):Prop:=(0≤Q∧0≤k∧0≤a5∧a5≤1∧k < 18446744073709551616)∧A ((Q - k - a5) % 18446744073709551616) (if Q < k+a5 then 1 else 0)
def qA(E:Env)(c:Call)(X:Fr)(A:Value→Prop):Prop:=
 match c.callee with
 | .builtin .len=>(match c.args.toList,c.argTypes.toList with
  | Q :: _,t :: _=>rL E t (cI X Q) A
  | _,_=>False)
 | .builtin .max=>(match c.args.toList.map (cI X) with
  | Q :: rest=>kO Q rest A
  | []=>False)
 | .builtin .min=>(match c.args.toList.map (cI X) with
  | Q :: rest=>kP Q rest A
  | []=>False)
 | .value (.func a3)=>(match look E.mG a3 with
  | some .m5=>(match c.args.toList.map (cI X) with
   | [.int .u64 Q,.int .u64 k,.int .u64 a5]=>k6 Q k a5 fun F c=>A (.tuple #[.int .u64 F,.int .u64 c])
   | _=>False)
  | some .m6=>(match c.args.toList.map (cI X) with
   | [.int .u64 Q,.int .u64 k,.int .u64 a5]=>nQ Q k a5 fun F c=>A (.tuple #[.int .u64 F,.int .u64 c])
   | _=>False)
  | _=>False)
 | _=>False
def gJ(E:Env)(op:Op)(X:Fr)(Z:V)(A:Value→Prop):Prop:=
 match op with
 | .move Q=>A (cI X Q)
 | .assign Q=>A (cI X Q)
 | .pick c a N=>(match cI X c with
  | .bool t=>cond t (A (cI X a)) (A (cI X N))
  | _=>False)
 | .load t a=>(match cI X a,look E.types t with
  | .pointer (some x),some T=>p8 T Z x A
  | _,_=>False)
 | .binOp op t Q k _=>p5 E op t (cI X Q) (cI X k) A
 | .unOp op _ Q=>p6 op (cI X Q) A
 | .convert F aB Q=>(match look E.types F,look E.types aB,cI X Q with
  | some ⟨.int _,_,_⟩,some ⟨.int U,_,_⟩,.int _ n=>aN (U.wrap n) fun n=>A (.int U n)
  | _,_,_=>False)
 | .indexAddr t Q T=>(match look E.types t,cI X Q,cI X T with
  | some ⟨.slice O,_,_⟩,.slice a l _,.int _ n=>(match look E.types O with
   | some b=>cC a l n b.leaves.length fun x=>A (.pointer (some x))
   | none=>False)
  | _,.pointer (some x),.int _ n=>(match look E.vG t with
   | some (m,O)=>(match look E.types O with
    | some b=>cC (some x) m n b.leaves.length fun x=>A (.pointer (some x))
    | none=>False)
   | none=>False)
  | _,_,_=>False)
 | .index t Q T=>(match look E.types t,cI X Q,cI X T with
  | some ⟨.str,_,_⟩,.string F,.int _ n=>rJ F n fun N=>A (.int .u8 N)
  | _,_,_=>False)
 | .extract Q T=>(match cI X Q with
  | .tuple bN=>(match bN.toList[T]? with
   | some v=>A v
   | none=>False)
  | _=>False)
 | .fieldAddr F Q a3=>(match cI X Q,look E.types F with
  | .pointer (some x),some ⟨.struct dV,_,_⟩=>(match dV[a3]? with
   | some (off,t)=>(match look E.types t with
    | some T=>bif Nat.beq T.leaves.length 0 then False else A (.pointer (some (x.add off)))
    | none=>False)
   | none=>False)
  | _,_=>False)
 | .field t Q a3=>(match cI X Q,look E.types t with
  | .agg cT,some ⟨.struct dV,_,_⟩=>(match dV[a3]? with
   | some (off,d)=>(match look E.types d with
    | some ⟨.struct _,eM,_⟩=>A (.agg ((cT.toList.drop off).take eM.length).toArray)
    | some ⟨.tuple _,_,_⟩=>False
    | some _=>(match cT.toList[off]? with
     | some v=>A v
     | none=>False)
    | none=>False)
   | none=>False)
  | _,_=>False)
 | .build t d=>(match look E.types t with
  | some ⟨.struct dV,eM,_⟩=>bif !dV.isEmpty && oT E dV then(match p9 (vK E dV) (eM.map fY.zero) (d.toList.map fun (T,Q)=>(T,cI X Q)) with
   | some d=>A (.agg d.toArray)
   | none=>False) else False
  | _=>False)
 | .nilCheck Q=>(match cI X Q with
  | .pointer (some x)=>A (.pointer (some x))
  | _=>False)
 | .slice t Q a6 aK d=>(match look E.types t,cI X Q with
  | some ⟨.slice O,_,_⟩,.slice a l c=>(match look E.types O with
   | some b=>gT b.leaves.length a l c (a6.map (cI X)) (aK.map (cI X)) (d.map (cI X)) fun a l c=>A (.slice a l c)
   | none=>False)
  | some ⟨.str,_,_⟩,.string F=>(match d with
   | none=>rK F (a6.map (cI X)) (aK.map (cI X)) fun F=>A (.string F)
   | some _=>False)
  | _,_=>False)
 | .call c=>qA E c X A
 | _=>False
def gK(aF:List Value):Nat→List Value
 | 0=>[]
 | n+1=>aF ++ gK aF n
def c2.aF(T:c2):List Value:=T.leaves.map fY.zero
def cU(Z:V)(O:TypeId)(a:List Value)(A:Addr→V→Prop):Prop:=A ⟨Z.size,0,none⟩ (Z.push (.cells a.toArray O (0,0)))
def g1(Z:V)(O:TypeId)(T:c2)(n m:Int)(A:Addr→V→Prop):Prop:=
 (0≤n∧n≤m∧1≤T.bytes∧(T.bytes:Int)*m≤281474976710656)∧
  A ⟨Z.size,0,none⟩ (Z.push (.cells (gK T.aF m.toNat).toArray O (0,0)))
def kQ:Value→Bool
 | .agg _ | .tuple _=>false
 | _=>true
def bI(Z:V)(x:Addr)(v:Value)(A:V→Prop):Prop:=
 ((∃ s,fQ Z x=some s)∧j5 Z x=false)∧A (e5 Z x v)
def oU(Z:V)(x:Addr):Nat→List Value→(V→Prop)→Prop
 | _,[],A=>A Z
 | T,v :: bN,A=>bif kQ v then bI Z (x.add T) v fun K=>oU K x (T+1) bN A else False
def qB(T:c2)(Z:V)(x:Addr)(v:Value)(A:V→Prop):Prop:=
 match v with
 | .agg cT=>bif Nat.beq cT.toList.length T.leaves.length then oU Z x 0 cT.toList A else False
 | .tuple _=>False
 | v=>bif Nat.beq 1 T.leaves.length then bI Z x v A else False
def rM(Z:V)(gS:Nat)(Q:Value)(n:Nat)(cT:List Value):Prop:=
 cT.length=n*gS∧(∀ v ∈ cT,kQ v=true)∧match Q with
  | .slice (some N) _ _=>mE Z N 0 cT
  | .slice none _ _=>cT=[]
  | .string F=>cT=(F.extract 0 n).data.toList.map fun N=>.int .u8 N.toNat
  | _=>False
def tA:Value→Option Nat
 | .slice _ n _=>some n
 | .string F=>some F.size
 | _=>none
def g2(Z:V)(O:TypeId)(T:c2)(a:R)(l c:Nat)(Q:Value)(A:R→Nat→Nat→V→Prop):Prop:=
 ∃ n cT,tA Q=some n∧rM Z T.leaves.length Q n cT∧
  (l+n≤c→match a with
   | some y=>mF Z (y.add (l*T.leaves.length)) 0 cT.length∧A a (l+n) c (h2 Z (y.add (l*T.leaves.length)) 0 cT)
   | none=>A a (l+n) c Z)∧
  (¬ l+n≤c→Builtin.nextslicecap (l+n) c*T.bytes≤281474976710656∧1≤T.bytes∧l+n≤9223372036854775807∧
   ∃ b,rM Z T.leaves.length (.slice a l c) l b∧
    ∀ d,l+n≤d→A (some ⟨Z.size,0,none⟩) (l+n) d (Z.push (.cells (b ++ (cT ++ gK T.aF (d - (l+n)))).toArray O (0,0))))
def kR(Z:V)(gS:Nat)(a:R)(l:Nat)(Q:Value)(A:Int→V→Prop):Prop:=
 ∃ n cT,tA Q=some n∧rM Z gS Q (Nat.min n l) cT∧match a with
  | some y=>mF Z y 0 cT.length∧A (Nat.min n l:Int) (h2 Z y 0 cT)
  | none=>A (Nat.min n l:Int) Z
def tB(Z:V)(T:c2)(a:R)(l:Nat)(A:V→Prop):Prop:=
 match a,l with
 | none,_=>A Z
 | some _,0=>A Z
 | some y,l+1=>mF Z y 0 ((l+1)*T.leaves.length)∧A (h2 Z y 0 (gK T.aF (l+1)))
def qC(E:Env)(t:TypeId):Bool:=
 match look E.types t with
 | some ⟨.slice _,_,_⟩=>true
 | some ⟨.str,_,_⟩=>true
 | _=>false
def Cy(Z:V)(F:ByteArray)(A:Addr→V→Prop):Prop:=A ⟨Z.size,0,none⟩ (Z.push (.stringIter F 0))
def x6(Z:V)(N:Nat)(F:ByteArray)(a:Nat):V:=Z.setIfInBounds N (.stringIter F a)
def tC(Z:V)(x:Addr)(a:Int→Int→V→Prop)(b:Prop):Prop:=
 x.off=0∧∃ F c,Z[x.block]?=some (.stringIter F c)∧(c < F.size→a (c:Int) ((Utf8.decode F c).1:Int) (x6 Z x.block F (c+(Utf8.decode F c).2)))∧(¬ c < F.size→b)
def tD(Z:V)(a:R)(l:Nat)(A:ByteArray→Prop):Prop:=
 match a with
 | none=>A ByteArray.empty
 | some y=>∃ b:List UInt8,b.length=l∧mE Z y 0 (b.map fun N=>.int .u8 N.toNat)∧A ⟨b.toArray⟩
def hE(P:Program)(E:Env)(op:Op)(jG:TypeId)(X:Fr)(Z:V)(A:Value→V→Prop):Prop:=
 match op with
 | .range t Q=>(match look E.types t,cI X Q with
  | some ⟨.str,_,_⟩,.string F=>Cy Z F fun y K=>A (.pointer (some y)) K
  | _,_=>False)
 | .next b N=>cond N (match cI X b with
  | .pointer (some x)=>tC Z x (fun T c K=>A (.tuple #[.bool true,.int .i64 T,.int .i32 c]) K) (A (.tuple #[.bool false]) Z)
  | _=>False) False
 | .convert F aB Q=>(match look E.types F,look E.types aB,cI X Q with
  | some ⟨.slice O,_,_⟩,some ⟨.str,_,_⟩,.slice a l _=>(match look E.types O with
   | some ⟨.int .u8,_,_⟩=>tD Z a l fun t=>A (.string t) Z
   | _=>False)
  | _,_,_=>False)
 | .store t Q v=>(match cI X Q,look E.types t with
  | .pointer (some x),some T=>qB T Z x (cI X v) (fun K=>A undef K)
  | _,_=>False)
 | .box O v=>cU Z O (cI X v).cells.toList fun y K=>A (.pointer (some y)) K
 | .alloc O=>(match look E.types O with
  | some ⟨.tuple _,_,_⟩=>False
  | some T=>cU Z O T.aF fun y K=>A (.pointer (some y)) K
  | none=>False)
 | .makeSlice t l c=>(match look E.types t,cI X l,cI X c with
  | some ⟨.slice O,_,_⟩,.int _ n,.int _ m=>(match look E.types O with
   | some ⟨.tuple _,_,_⟩=>False
   | some T=>g1 Z O T n m fun y K=>A (.slice (some y) n.toNat m.toNat) K
   | none=>False)
  | _,_,_=>False)
 | .buildSlice t n d=>(match look E.types t with
  | some ⟨.slice O,_,_⟩=>(match look E.types O with
   | some ⟨.tuple _,_,_⟩=>False
   | some T=>bif Nat.ble (n*T.leaves.length) 16777216 then(match p9 (fun M=>some (M*T.leaves.length,T.leaves.length)) (gK T.aF n) (d.toList.map fun (M,Q)=>(M,cI X Q)) with
    | some e=>cU Z O e fun y K=>A (.slice (some y) n n) K
    | none=>False) else False
   | none=>False)
  | _=>False)
 | .call c=>(match c.callee with
  | .builtin .append=>(match c.args.toList,c.argTypes.toList with
   | [F,Q],[t,f]=>bif qC E f then(match look E.types t,cI X F with
    | some ⟨.slice O,_,_⟩,.slice a l g=>(match look E.types O with
     | some ⟨.tuple _,_,_⟩=>False
     | some T=>g2 Z O T a l g (cI X Q) fun a l c K=>A (.slice a l c) K
     | none=>False)
    | _,_=>False) else False
   | _,_=>False)
  | .builtin .copy=>(match c.args.toList,c.argTypes.toList with
   | [aB,Q],t :: _=>(match look E.types t,cI X aB with
    | some ⟨.slice O,_,_⟩,.slice a l _=>(match look E.types O with
     | some ⟨.tuple _,_,_⟩=>False
     | some T=>kR Z T.leaves.length a l (cI X Q) fun n K=>A (.int .i64 n) K
     | none=>False)
    | _,_=>False)
   | _,_=>False)
  | .builtin .clear=>(match c.args.toList,c.argTypes.toList with
   | [aB],[t]=>(match look E.types t,cI X aB with
    | some ⟨.slice O,_,_⟩,.slice a l _=>(match look E.types O with
     | some ⟨.tuple _,_,_⟩=>False
     | some T=>tB Z T a l fun K=>A (.tuple #[]) K
     | none=>False)
    | _,_=>False)
   | _,_=>False)
  | .value (.func a3)=>(match look E.mG a3 with
   | some .body=>lS P a3 (c.args.toList.map (cI X)).toArray Z fun v K=>oS E jG v fun h=>A h K
   | _=>False)
  | _=>False)
 | _=>False
def Cz(P:Program)(a3:FuncId)(args:Array Value)(Z:V)(A:Value→Prop):Prop:=∃ v,lS P a3 args Z (fun a K=>a=v∧K=Z)∧A v
def oV(P:Program)(E:Env)(op:Op)(jG:TypeId)(X:Fr)(Z:V)(A:Value→Prop):Prop:=
 match op with
 | .call c=>(match c.callee with
  | .value (.func a3)=>Cz P a3 (c.args.toList.map (cI X)).toArray Z fun v=>oS E jG v A
  | _=>False)
 | _=>False
inductive vL where
 | pure | load | quiet | call | act
def e1(E:Env):Op→vL
 | .load ..=>.load
 | .move _ | .assign _ | .pick .. | .binOp .. | .unOp .. | .indexAddr .. | .index .. | .extract .. | .fieldAddr .. | .field .. | .build .. | .nilCheck _ | .slice ..=>.pure
 | .convert F _ _=>(match look E.types F with
  | some ⟨.slice _,_,_⟩=>.act
  | _=>.pure)
 | .call c=>(match c.callee with
  | .builtin .len | .builtin .max | .builtin .min=>.pure
  | .value (.func a3)=>(match look E.mG a3 with
   | some .m5 | some .m6=>.pure
   | some .quiet=>.quiet
   | _=>.call)
  | _=>.act)
 | .alloc _ | .box .. | .makeSlice .. | .buildSlice ..=>.call
 | _=>.act
def cA(b0:Nat)(Z K:V):Prop:=∀ N,N < b0→K[N]?=Z[N]?
def CA(b0:Nat)(Q:Value):Prop:=match Q with | .pointer (some x)=>x.block < b0 | _=>False
def mJ(P:Program)(E:Env)(cJ:Bool)(b0:Nat)(s:Oper)(X:Fr)(Z:V)(A:Value→V→Prop):Prop:=
 match e1 E s.op with
 | .pure=>gJ E s.op X Z (fun v=>A v Z)
 | .load=>cond cJ (match s.op with
  | .load _ a=>CA b0 (cI X a)∧gJ E s.op X Z (fun v=>A v Z)
  | _=>False) (gJ E s.op X Z (fun v=>A v Z))
 | .quiet=>oV P E s.op s.type X Z (fun v=>A v Z)
 | .call=>cond cJ (hE P E s.op s.type X Z fun v K=>cA b0 Z K∧A v K) (hE P E s.op s.type X Z A)
 | .act=>hE P E s.op s.type X Z A
def rN(c7:List Oper)(M:Nat):Option Nat:=match c7[M]? with | some s=>s.dst | none=>none
def hL(P:Program)(E:Env)(cJ:Bool)(b0:Nat)(c7:List Oper):List Oper→Fr→V→(Fr→V→Prop)→Prop
 | [],X,Z,A=>A X Z
 | s :: rest,X,Z,A=>
  match s.guard with
  | none=>mJ P E cJ b0 s X Z fun v K=>hL P E cJ b0 c7 rest (kN X s.dst v) K A
  | some (M,a)=>
   match rN c7 M with
   | none=>False
   | some t=>
    match X t with
    | .bool N=>cond N
      (cond a (mJ P E cJ b0 s (jF X t (.bool true)) Z fun v K=>hL P E cJ b0 c7 rest (kN (jF X t (.bool true)) s.dst v) K A)
       (hL P E cJ b0 c7 rest (kN (jF X t (.bool true)) s.dst undef) Z A))
      (cond a (hL P E cJ b0 c7 rest (kN (jF X t (.bool false)) s.dst undef) Z A)
       (mJ P E cJ b0 s (jF X t (.bool false)) Z fun v K=>hL P E cJ b0 c7 rest (kN (jF X t (.bool false)) s.dst v) K A))
    | .tuple _=>hL P E cJ b0 c7 rest (kN X s.dst undef) Z A
    | _=>False
def iF(cJ:Bool):vL→vL→Bool
 | .pure,_ | _,.pure=>true
 | .load,.load | .quiet,.quiet=>true
 | .load,.quiet | .quiet,.load=>true
 | .load,.call | .call,.load=>cJ
 | _,_=>false
def mK(a:List Nat):List Edge→Nat
 | []=>0
 | O :: l=>bif Region.binds .any O then(2 ^ O.on ||| a.getD O.on 0) ||| mK a l else mK a l
def iY(a:List Nat):List Oper→List Nat
 | []=>a
 | s :: l=>iY (a ++ [mK a s.after.toList]) l
def oW(a:List Oper):Bool:=(List.range a.length).all fun T=>match a[T]? with
 | some s=>s.after.toList.all fun O=>!Region.binds .any O || Nat.blt O.on T
 | none=>true
def x7(E:Env)(cJ:Bool)(a:List Oper)(b:List Nat)(T M:Nat):Bool:=
 match a[T]?,a[M]? with
 | some c,some d=>(b.getD T 0).testBit M || (d.apart a.toArray c && iF cJ (e1 E d.op) (e1 E c.op))
 | _,_=>true
def oX(E:Env)(cJ:Bool)(a:List Oper):Bool:=
 Region.noSelect a.toArray && oW a && (List.range a.length).all fun T=>(List.range T).all fun M=>x7 E cJ a (iY [] a) T M
def oY(E:Env)(a:Bool)(b:List Oper):Bool:=a && !oX E false b
def rO(E:Env)(a:Bool)(b:List Oper):Bool:=a && !oX E false b && !oX E true b
def mL(a:List Nat)(dR:List Nat)(T:Nat):Bool:=dR.all fun M=>!(a.getD T 0).testBit M
def x8(E:Env)(c7:List Oper)(a:List Nat)(dR:List Nat)(T:Nat):Bool:=
 mL a dR T && dR.all fun M=>Nat.beq M T || (a.getD M 0).testBit T || (match c7[T]?,c7[M]? with
  | some a,some b=>a.apart c7.toArray b && iF true (e1 E a.op) (e1 E b.op)
  | _,_=>false)
def del(dR:List Nat)(T:Nat):List Nat:=dR.filter fun M=>!Nat.beq M T
def rP(a3:Nat→Prop):List Nat→Prop
 | []=>True
 | [T]=>a3 T
 | T :: M :: l=>a3 T∧rP a3 (M :: l)
def nR(P:Program)(E:Env)(b0:Nat)(c7:List Oper)(T:Nat)(X:Fr)(Z:V)(A:Fr→V→Prop):Prop:=
 match c7[T]? with
 | some s=>hL P E true b0 c7 [s] X Z A
 | none=>False
def mM(P:Program)(E:Env)(b0:Nat)(c7:List Oper)(a:List Nat):Nat→List Nat→Fr→V→(Fr→V→Prop)→Prop
 | 0,_,X,Z,A=>A X Z
 | n+1,dR,X,Z,A=>match dR.find? (x8 E c7 a dR) with
  | some T=>nR P E b0 c7 T X Z fun X Z=>mM P E b0 c7 a n (del dR T) X Z A
  | none=>rP (fun T=>nR P E b0 c7 T X Z fun X Z=>mM P E b0 c7 a n (del dR T) X Z A) (dR.filter (mL a dR))
inductive aM where
 | normal | exit (id:Nat) | ret
def aM.then(next:Fr→V→Prop)(b6:aM→Fr→V→Prop):aM→Fr→V→Prop
 | .normal=>next
 | .exit id=>b6 (.exit id)
 | .ret=>b6 .ret
def aM.inBlock(id:Nat)(b6:aM→Fr→V→Prop):aM→Fr→V→Prop
 | .exit a=>bif Nat.beq a id then b6 .normal else b6 (.exit a)
 | .normal=>b6 .normal
 | .ret=>b6 .ret
def iter(a7:(Fr→V→Prop)→Fr→V→Prop):Nat→Fr→V→Prop
 | 0=>fun _ _=>False
 | n+1=>a7 (iter a7 n)
def den(P:Program)(E:Env):Code→(aM→Fr→V→Prop)→Fr→V→Prop
 | .skip,b6,X,Z=>b6 .normal X Z
 | .region _ b d,b6,X,Z=>bif rO E d b.toList then mM P E Z.size b.toList (iY [] b.toList) b.toList.length (List.range b.toList.length) X Z (b6 .normal)
   else hL P E (oY E d b.toList) Z.size b.toList b.toList X Z (b6 .normal)
 | .seq a N,b6,X,Z=>den P E a (aM.then (den P E N b6) b6) X Z
 | .cond c a N,b6,X,Z=>match cI X c with
  | .bool t=>cond t (den P E a b6 (vE X c true) Z) (den P E N b6 (vE X c false) Z)
  | _=>False
 | .block id c,b6,X,Z=>den P E c (aM.inBlock id b6) X Z
 | .loop c,b6,X,Z=>∃ n,iter (fun b=>den P E c (aM.then b b6)) n X Z
 | .exit id,b6,X,Z=>b6 (.exit id) X Z
 | .ret,b6,X,Z=>b6 .ret X Z
 | .rangeFunc ..,_,_,_=>False
 | .scope c,b6,X,Z=>den P E c b6 X Z
 | .label _,b6,X,Z=>b6 .normal X Z
 | .goto _,_,_,_=>False
 | .refuse _,_,_,_=>False
def tE(args:List Value):Fr:=fun t=>match args[t]? with | some v=>v | none=>undef
def oZ(E:Env)(X:Fr)(Z:V):List ResultVar→(List Value→Prop)→Prop
 | [],A=>A []
 | .tmp t :: l,A=>oZ E X Z l fun bN=>A (X t :: bN)
 | .cell a t :: l,A=>match X a,look E.types t with
  | .pointer (some x),some T=>p8 T Z x fun v=>oZ E X Z l fun bN=>A (v :: bN)
  | _,_=>False
def tF:List Value→Value
 | [v]=>v
 | bN=>.tuple bN.toArray
def c8(a3:Func):Code:=match a3.body with | some c=>c | none=>.skip
def aP:Code→List Bool→Code
 | c,[]=>c
 | .seq a _,false :: y=>aP a y
 | .seq _ N,true :: y=>aP N y
 | .cond _ a _,false :: y=>aP a y
 | .cond _ _ N,true :: y=>aP N y
 | .block _ c,_ :: y=>aP c y
 | .loop c,_ :: y=>aP c y
 | .scope c,_ :: y=>aP c y
 | _,_ :: _=>.skip
def o0(n:Nat)(s:Oper):Bool:=match s.dst with | some aB=>Nat.blt aB n | none=>true
def vM(a:Env)(n:Nat)(a:Array Oper)(b:Bool):Bool:=
 a.toList.all (o0 n) && (!b || (Region.noSelect a.toList.toArray && oW a.toList))
def k7(E:Env)(n:Nat):Code→Bool
 | .region _ b d=>vM E n b d
 | .seq a N=>k7 E n a && k7 E n N
 | .cond _ a N=>k7 E n a && k7 E n N
 | .block _ c=>k7 E n c
 | .loop c=>k7 E n c
 | .scope c=>k7 E n c
 | .skip | .exit _ | .ret | .label _=>true
 | _=>false
set_option linter.unusedSimpArgs false
def rQ(P:Program)(a3:FuncId):nP→Prop
 | .body | .quiet=>True
 | .m5=>∃ fn,P.funcs[a3]?=some fn∧Extern.findNext fn=none∧Extern.find fn=some add64Entry
 | .m6=>∃ fn,P.funcs[a3]?=some fn∧Extern.findNext fn=none∧Extern.find fn=some vF
structure g3(P:Program)(E:Env):Prop where
 c6:∀ t T,look E.types t=some T→iN P t T=true
 fn:∀ a3 U,look E.mG a3=some U→vI P a3 U=true
 ext:∀ a3 U,look E.mG a3=some U→rQ P a3 U
 mixed:P.follows .mixedOrders=true
 CB:∀ t y,look E.vG t=some y→P.underlying t=some (.array y.1 y.2)
def nP.CC:nP→Bool
 | .body | .quiet=>false
 | _=>true
theorem CD{P:Program}{l:List (Nat × nP)}{C:List (Nat × nP)}(O:l.filter (fun y=>y.2.CC)=C)(Z:∀ y ∈ C,rQ P y.1 y.2):∀ y ∈ l,rQ P y.1 y.2:=by
 intro y a
 obtain⟨a3,U⟩:=y
 cases U with
 | body=>trivial
 | quiet=>trivial
 | m5=>exact Z (a3,.m5) (by rw [← O];exact List.mem_filter.2 ⟨a,rfl⟩)
 | m6=>exact Z (a3,.m6) (by rw [← O];exact List.mem_filter.2 ⟨a,rfl⟩)
theorem g3.mk'{P:Program}{E:Env}(Z:x4 P E=true)(b:∀ y ∈ E.mG,rQ P y.1 y.2)(c:P.follows .mixedOrders=true):g3 P E:=by
 simp only [x4,Bool.and_eq_true,List.all_eq_true] at Z
 refine⟨fun t T aK=>Z.1.1 (t,T) (s5 aK),fun a3 U a=>Z.1.2 (a3,U) (s5 a),fun a3 U a=>b (a3,U) (s5 a),c,fun t y d=>?_⟩
 have:=Z.2 (t,y) (s5 d)
 unfold x3 at this
 split at this
 ·rename_i n O e
  simp only [Bool.and_eq_true] at this
  rw [e,Nat.eq_of_beq_eq_true this.1,Nat.eq_of_beq_eq_true this.2]
 ·cases this
section a
variable {P:Program} {t O:TypeId} {eM:List fY} {N:Nat}
theorem qD{T:c2}(Z:iN P t T=true):mH (P.underlying t) T.c6=true:=by
 simp only [iN,Bool.and_eq_true] at Z;exact Z.1
theorem vN{U:IntKind}(Z:iN P t ⟨.int U,eM,N⟩=true):P.underlying t=some (.int U):=by
 have K:=qD Z
 simp only at K
 unfold mH at K
 split at K <;> simp_all
 exact s6 K
theorem CE(Z:iN P t ⟨.bool,eM,N⟩=true):P.underlying t=some .bool:=by
 have K:=qD Z
 simp only at K
 unfold mH at K
 split at K <;> simp_all
theorem qE(Z:iN P t ⟨.str,eM,N⟩=true):P.underlying t=some .string:=by
 have K:=qD Z
 simp only at K
 unfold mH at K
 split at K <;> simp_all
theorem lT(Z:iN P t ⟨.slice O,eM,N⟩=true):P.underlying t=some (.slice O):=by
 have K:=qD Z
 simp only at K
 unfold mH at K
 split at K <;> simp_all
theorem x9{dV:List (Nat × TypeId)}(Z:iN P t ⟨.struct dV,eM,N⟩=true):(∃ a,P.underlying t=some (.struct a)∧a.toList.map (fun a3=>(a3.offset,a3.type))=dV)∨(dV=[]∧∃ n O,P.underlying t=some (.array n O)):=by
 have K:=qD Z
 simp only at K
 unfold mH at K
 split at K <;> simp_all
theorem vO{dV:List (Nat × TypeId)}(b:dV ≠ [])(Z:iN P t ⟨.struct dV,eM,N⟩=true):∃ a,P.underlying t=some (.struct a)∧a.toList.map (fun a3=>(a3.offset,a3.type))=dV:=by
 rcases x9 Z with Z | Z
 ·exact Z
 ·exact absurd Z.1 b
def m4.isTuple:m4→Bool
 | .tuple _=>true
 | _=>false
def m4.qF:m4→Bool
 | .struct _=>true
 | _=>false
theorem mN{T:c2}(Z:iN P t T=true):∃ a,P.info? t=some a∧a.size=T.leaves.length∧a.bytes=T.bytes:=by
 simp only [iN,Bool.and_eq_true] at Z
 obtain⟨_,Z⟩:=Z
 split at Z
 ·rename_i a aK
  simp only [Bool.and_eq_true] at Z
  exact⟨a,aK,Nat.eq_of_beq_eq_true Z.1.1,Nat.eq_of_beq_eq_true Z.1.2⟩
 ·simp at Z
theorem qG{T:c2}(Z:iN P t T=true)(c:T.c6.isTuple=false):
  ∃ a,P.info? t=some a∧a.size=T.leaves.length∧a.bytes=T.bytes∧∃ a5,a.zero=some a5∧a5.cells.toList=T.aF:=by
 simp only [iN,Bool.and_eq_true] at Z
 obtain⟨_,Z⟩:=Z
 split at Z
 ·rename_i a aK
  simp only [Bool.and_eq_true] at Z
  obtain⟨⟨aI,d⟩,b⟩:=Z
  split at b
  ·rename_i O;rw [O] at c;simp [m4.isTuple] at c
  ·split at b
   ·rename_i a5 e
    exact⟨a,aK,Nat.eq_of_beq_eq_true aI,Nat.eq_of_beq_eq_true d,a5,e,x2 b⟩
   ·simp at b
 ·simp at Z
theorem CF{T:c2}(Z:iN P t T=true)(aZ:T.c6.qF=false):∃ aB,P.underlying t=some aB∧(∀ dV,aB ≠ .struct dV)∧(∀ n O,aB ≠ .array n O):=by
 have K:=qD Z
 cases b:P.underlying t with
 | none=>rw [b] at K;cases T.c6 <;> simp [mH] at K
 | some aB=>
  rw [b] at K
  refine⟨aB,rfl,?_,?_⟩
  ·rintro dV rfl
   cases a:T.c6 <;> rw [a] at K aZ <;> simp [mH,m4.qF] at K aZ
  ·rintro n O rfl
   cases a:T.c6 <;> rw [a] at K aZ <;> simp [mH,m4.qF] at K aZ
end a
section a
variable {P:Program} {t:TypeId}
theorem fD{aB:TypeDesc}(Z:P.underlying t=some aB)(L:World):(underlying t).run P L=.ok aB L:=run_underlying Z L
theorem iZ{a:TypeInfo}(Z:P.info? t=some a)(L:World):(sizeOf t).run P L=.ok a.size L:=by simp [sizeOf,typeInfo,Z]
theorem vP{a:TypeInfo}(Z:P.info? t=some a)(L:World):(typeInfo t).run P L=.ok a L:=by simp [typeInfo,Z]
theorem qH{a:TypeInfo}{a5:Value}(Z:P.info? t=some a)(b:a.zero=some a5)(L:World):(zeroValue t).run P L=.ok a5 L:=by simp [zeroValue,typeInfo,Z,b]
theorem yA{T:c2}(Z:iN P t T=true)(aZ:T.c6.qF=false)(L:World):(isAgg t).run P L=.ok false L:=by
 obtain⟨aB,a,aI,b⟩:=CF Z aZ
 unfold isAgg
 rw [Sem.run_bind,fD a]
 cases aB <;> first | rfl | exact absurd rfl (aI _) | exact absurd rfl (b _ _)
theorem yB{dV:List (Nat × TypeId)}{eM:List fY}{N:Nat}(Z:iN P t ⟨.struct dV,eM,N⟩=true)(L:World):(isAgg t).run P L=.ok true L:=by
 rcases x9 Z with ⟨b,a,_⟩ | ⟨_,n,O,a⟩ <;>
 ·unfold isAgg
  rw [Sem.run_bind,fD a]
  rfl
theorem tG:∀ (bN:List Value) (x:Addr) (T:Nat) (a:Array Value) (L:World),mE L.heap x T bN→(loadCellsFrom x T bN.length a).run P L=.ok (a ++ bN.toArray) L
 | [],x,T,a,L,_=>by simp [loadCellsFrom]
 | v :: bN,x,T,a,L,Z=>by
  have o:L.cell? (x.add T)=some v:=Z.1
  have bD:=tG bN x (T+1) (a.push v) L Z.2
  simp only [List.length_cons,loadCellsFrom,Sem.run_bind,run_load,o,Result.andThen,bD]
  simp
theorem CG{v:Value}(Z:kQ v=true):v.oneCell'=true:=by cases v <;> first | rfl | cases Z
theorem vQ{x:Addr}{v:Value}{L:World}(aI:∃ s,fQ L.heap x=some s)(a:j5 L.heap x=false)(b:kQ v=true):(store x v).run P L=.ok () (L.setCell x v):=by
 obtain⟨s,c⟩:=aI
 have d:L.cell? x=some s:=c
 have e:L.frozen? x=false:=a
 rw [run_store P L x v _ (CG b),d]
 simp [e]
end a
theorem g4{v:Value}{A:Bool→Prop}(Z:eL v A):∃ N,v=.bool N∧A N:=by
 cases v <;> first | exact⟨_,rfl,Z⟩ | cases Z
theorem bC{U:IntKind}{v:Value}{A:Int→Prop}(Z:aC U v A):∃ n,v=.int U n∧A n:=by
 cases v with
 | int cD n=>
  unfold aC at Z
  cases O:m7 U cD with
  | false=>simp [O] at Z
  | true=>simp [O] at Z;obtain rfl:=s6 O;exact⟨n,rfl,Z⟩
 | _=>cases Z
theorem yC{v:Value}{A:ByteArray→Prop}(Z:s7 v A):∃ F,v=.string F∧A F:=by
 cases v <;> first | exact⟨_,rfl,Z⟩ | cases Z
theorem bT{v:Value}{A:R→Nat→Nat→Prop}(Z:aE v A):∃ a l c,v=.slice a l c∧A a l c:=by
 cases v <;> first | exact⟨_,_,_,rfl,Z⟩ | cases Z
theorem yD{v:Value}{A:R→Prop}(Z:s8 v A):∃ a,v=.pointer a∧A a:=by
 cases v <;> first | exact⟨_,rfl,Z⟩ | cases Z
theorem tH{U:fY}{v:Value}{A:Value→Prop}(Z:oQ U v A):A v∧kQ v=true:=by
 cases U with
 | int U=>obtain⟨n,O,g⟩:=bC (show aC U v _ from Z);subst O;exact⟨g,rfl⟩
 | bool=>obtain⟨n,O,g⟩:=g4 (show eL v _ from Z);subst O;exact⟨g,rfl⟩
 | str=>obtain⟨n,O,g⟩:=yC (show s7 v _ from Z);subst O;exact⟨g,rfl⟩
 | slice=>obtain⟨a,l,c,O,g⟩:=bT (show aE v _ from Z);subst O;exact⟨g,rfl⟩
 | ptr=>obtain⟨n,O,g⟩:=yD (show s8 v _ from Z);subst O;exact⟨g,rfl⟩
theorem eI{l:List Value}{A:Value→List Value→Prop}(Z:cL l A):∃ v bN,l=v :: bN∧A v bN:=by
 cases l <;> first | exact⟨_,_,rfl,Z⟩ | cases Z
theorem gM{l:List Value}{A:Prop}(Z:bG l A):l=[]∧A:=by
 cases l <;> first | exact⟨rfl,Z⟩ | cases Z
theorem yE:∀ {a:List fY} {l:List Value} {A:List Value→Prop},rI a l A→A l
 | [],l,A,Z=>by obtain⟨O,g⟩:=gM Z;subst O;exact g
 | U :: a,l,A,Z=>by
  obtain⟨v,bN,O,g⟩:=eI Z
  subst O
  exact yE (A:=fun b=>A (v :: b)) (tH g).1
theorem vR{v:Value}{A:List Value→Prop}(Z:cE v A):∃ cT,v=.agg cT∧A cT.toList:=by
 cases v <;> first | exact⟨_,rfl,Z⟩ | cases Z
theorem yF{v:Value}{A:List Value→Prop}(Z:cO v A):∃ cT,v=.tuple cT∧A cT.toList:=by
 cases v <;> first | exact⟨_,rfl,Z⟩ | cases Z
theorem yG{T:c2}{v:Value}{A:Value→Prop}(Z:oR T v A):A v:=by
 unfold oR at Z
 split at Z
 ·obtain⟨cT,O,g⟩:=vR Z
  subst O
  have:=yE g
  simpa using this
 ·split at Z
  ·exact(tH Z).1
  ·cases Z
theorem yH{E:Env}:∀ {iE:List TypeId} {l:List Value} {A:List Value→Prop},p4 E iE l A→A l
 | [],l,A,Z=>by obtain⟨O,g⟩:=gM Z;subst O;exact g
 | t :: iE,l,A,Z=>by
  obtain⟨v,bN,O,g⟩:=eI Z
  subst O
  split at g
  ·exact yH (A:=fun a=>A (v :: a)) (yG g)
  ·cases g
theorem yI{E:Env}{t:TypeId}{v:Value}{A:Value→Prop}(Z:oS E t v A):A v:=by
 unfold oS at Z
 split at Z
 ·split at Z
  ·obtain⟨cT,O,g⟩:=yF Z
   subst O
   have:=yH g
   simpa using this
  ·exact yG Z
 ·exact Z
section a
variable {P:Program} {E:Env}
theorem CH{op:BinOp}{U:IntKind}{a N:Int}{A:Value→Prop}{t:TypeId}(Z:s9 op U a N A)(aI:op ≠ .shl)(b:op ≠ .shr):
  ∃ v,A v∧∀ L,(binOp op t (.int U a) (.int U N)).run P L=.ok v L:=by
 cases op with
 | shl=>exact absurd rfl aI
 | shr=>exact absurd rfl b
 | add=>exact⟨_,Z.out,fun L=>by simp [binOp,Op.intArith]⟩
 | sub=>exact⟨_,Z.out,fun L=>by simp [binOp,Op.intArith]⟩
 | mul=>exact⟨_,Z.out,fun L=>by simp [binOp,Op.intArith]⟩
 | quo=>exact⟨_,Z.2.out,fun L=>by simp [binOp,Op.intDiv,Z.1]⟩
 | rem=>exact⟨_,Z.2.out,fun L=>by simp [binOp,Op.intDiv,Z.1]⟩
 | and=>exact⟨_,Z.out,fun L=>by rw [binOp_and];rfl⟩
 | or=>exact⟨_,Z.out,fun L=>by rw [binOp_or];rfl⟩
 | xor=>exact⟨_,Z.out,fun L=>by rw [binOp_xor];rfl⟩
 | andNot=>exact⟨_,Z.out,fun L=>by rw [binOp_andNot];rfl⟩
 | eql=>exact⟨_,Z,fun L=>by rw [binOp_eql];rfl⟩
 | neq=>exact⟨_,Z,fun L=>by rw [binOp_neq];rfl⟩
 | lss=>exact⟨_,Z,fun L=>by rw [binOp_lss];rfl⟩
 | leq=>exact⟨_,Z,fun L=>by rw [binOp_leq];rfl⟩
 | gtr=>exact⟨_,Z,fun L=>by rw [binOp_gtr];rfl⟩
 | geq=>exact⟨_,Z,fun L=>by rw [binOp_geq];rfl⟩
theorem yJ{t:TypeId}(Z:P.underlying t=some .bool)(a N:Bool)(L:World):(Op.equal t (.bool a) (.bool N)).run P L=.ok (a == N) L:=by
 have b:Op.maxDepth=9999+1:=rfl
 rw [Op.equal,b,Op.equalIn,Sem.run_bind,fD Z]
 rfl
theorem yK{t O:TypeId}(Z:P.underlying t=some (.slice O))(a:R)(l c b c1:Nat)(L:World):(Op.equal t (.slice a l c) (.slice none b c1)).run P L=.ok a.isNone L:=by
 have d:Op.maxDepth=9999+1:=rfl
 rw [Op.equal,d,Op.equalIn,Sem.run_bind,fD Z]
 cases a <;> rfl
theorem CI(f:g3 P E){op:BinOp}{t:TypeId}{aH aY:Operand}{Q k:Value}{A:Value→Prop}(Z:p5 E op t Q k A):
  ∃ v,A v∧∀ L,(do eqGuard op t aH aY Q k;binOp op t Q k:Sem Value).run P L=.ok v L:=by
 unfold p5 at Z
 split at Z
 ·rename_i U a cD N
  have b:eqGuard op t aH aY (.int U a) (.int cD N)=pure ():=eqGuard_at_int ..
  split at Z
  ·exact⟨_,Z.2.out,fun L=>by
    rw [b]
    have:¬ N < 0:=by omega
    simp [binOp,Op.shift,e7,this]⟩
  ·exact⟨_,Z.2.out,fun L=>by
    rw [b]
    have:¬ N < 0:=by omega
    simp [binOp,Op.shift,fC,this]⟩
  ·rename_i aI g
   cases O:m7 U cD with
   | false=>simp [O] at Z
   | true=>
    simp only [O,cond_true] at Z
    obtain rfl:=s6 O
    obtain⟨v,a1,h⟩:=CH (P:=P) (t:=t) Z aI g
    exact⟨v,a1,fun L=>by rw [b];simp [h L]⟩
 ·rename_i a N
  have b:eqGuard op t aH aY (.string a) (.string N)=pure ():=eqGuard_at_string ..
  split at Z
  ·refine⟨_,Z.2,fun L=>?_⟩
   rw [b]
   have aI:¬ ((a.size+N.size:Nat):Int) > IntKind.i64.max:=by rw [IntKind.max_i64];omega
   simp only [binOp,Op.stringOp,pure_bind]
   rw [if_neg aI]
   rfl
  ·exact⟨_,Z,fun L=>by rw [b];simp [binOp,Op.stringOp]⟩
  ·exact⟨_,Z,fun L=>by rw [b];simp [binOp,Op.stringOp]⟩
  ·cases Z
 ·rename_i a N
  have b:eqGuard op t aH aY (.bool a) (.bool N)=pure ():=eqGuard_at_bool ..
  split at Z
  ·rename_i eM i e
   have d:=CE (f.c6 _ _ e)
   split at Z
   ·exact⟨_,Z,fun L=>by rw [b];simp [binOp,yJ d]⟩
   ·exact⟨_,Z,fun L=>by rw [b];simp [binOp,yJ d]⟩
   ·cases Z
  ·cases Z
 ·rename_i a l c j c1
  have b:eqGuard op t aH aY (.slice a l c) (.slice none j c1)=pure ():=eqGuard_at_slice ..
  split at Z
  ·rename_i O eM i e
   have d:=lT (f.c6 _ _ e)
   split at Z
   ·exact⟨_,Z,fun L=>by rw [b];simp [binOp,yK d]⟩
   ·exact⟨_,Z,fun L=>by rw [b];simp [binOp,yK d]⟩
   ·cases Z
  ·cases Z
 ·cases Z
theorem CJ{op:UnOp}{Q:Value}{A:Value→Prop}(Z:p6 op Q A):∃ v,A v∧∀ L,(Op.unary op Q).run P L=.ok v L:=by
 unfold p6 at Z
 split at Z
 ·exact⟨_,Z.out,fun L=>by simp [Op.unary,Op.intArith]⟩
 ·rename_i U n
  refine⟨_,Z.out,fun L=>?_⟩
  have O:(if U.signed=true then(-1:Int) else U.max)=bif U.signed then -1 else U.max:=by cases U.signed <;> rfl
  simp only [Op.unary,O]
  rfl
 ·exact⟨_,Z,fun L=>by simp [Op.unary]⟩
 ·cases Z
theorem yL{Z:V}{x:Addr}:∀ {b:List fY} {T:Nat} {A:List Value→Prop},p7 Z x T b A→∃ bN,A bN∧mE Z x T bN∧bN.length=b.length
 | [],T,A,a=>⟨[],a,trivial,rfl⟩
 | U :: b,T,A,a=>by
  unfold p7 gI at a
  split at a
  ·rename_i v a1
   obtain⟨bN,aI,c,d⟩:=yL (A:=fun bN=>A (v :: bN)) (tH a).1
   exact⟨v :: bN,aI,⟨a1,c⟩,by simp [d]⟩
  ·cases a
theorem rR{Z K:V}{x:Addr}(O:K[x.block]?=Z[x.block]?):fQ K x=fQ Z x:=by unfold fQ;rw [O]
theorem rS(x:Addr)(T:Nat):(x.add T).block=x.block:=by unfold Addr.add;split <;> rfl
theorem yM{Z K:V}{x:Addr}(O:K[x.block]?=Z[x.block]?):∀ {bN:List Value} {T:Nat},mE Z x T bN→mE K x T bN
 | [],_,_=>trivial
 | v :: bN,T,a=>⟨(rR (Z:=Z) (K:=K) (x:=x.add T) (by rw [rS];exact O)).trans a.1,yM O a.2⟩
theorem yN(e:g3 P E){t:TypeId}{T:c2}(f:look E.types t=some T){Z:V}{x:Addr}{A:Value→Prop}(a:p8 T Z x A):
  ∃ v,A v∧∀ L:World,L.heap[x.block]?=Z[x.block]?→(Instr.loadAt t (.pointer (some x))).run P L=.ok v L:=by
 have b:=e.c6 _ _ f
 obtain⟨c6,eM,N⟩:=T
 unfold p8 at a
 split at a
 ·rename_i dV O
  simp only at O a
  subst O
  obtain⟨bN,aI,c,g⟩:=yL a
  refine⟨_,aI,fun L d=>?_⟩
  obtain⟨j,aK,aZ,_⟩:=mN b
  have h:=tG (P:=P) bN x 0 #[] L (yM d c)
  simp only at aZ
  simp only [Instr.loadAt,Instr.sureAddr,pure_bind,loadVar,Sem.run_bind,yB b,Result.andThen,if_true,iZ aK,loadCells,aZ,← g,h]
  simp
 ·cases a
 ·rename_i aI c
  simp only at a aI c
  split at a
  ·rename_i U
   unfold gI at a
   split at a
   ·rename_i v a1
    refine⟨v,(tH a).1,fun L d=>?_⟩
    have aZ:(c2.mk c6 [U] N).c6.qF=false:=by
     cases c6 <;> first | rfl | exact absurd rfl (aI _)
    have i:L.cell? x=some v:=by rw [Cu,rR d];exact a1
    simp [Instr.loadAt,Instr.sureAddr,loadVar,yA b aZ,i]
   ·cases a
  ·cases a
theorem CK{t O:TypeId}{d:TypeInfo}(e:P.underlying t=some (.slice O))(aK:P.info? O=some d){a:R}{l c:Nat}{U:IntKind}{n:Int}{A:Addr→Prop}
  (b:cC a l n d.size A):∃ x,A x∧∀ L,(Instr.indexAt t (.slice a l c) (.int U n)).run P L=.ok (.pointer (some x)) L:=by
 obtain⟨⟨o,aI⟩,b⟩:=b
 split at b
 ·rename_i y
  refine⟨_,b,fun L=>?_⟩
  simp only [Instr.indexAt,asIntOf,pure_bind,Sem.run_bind,fD e,Result.andThen]
  simp [o,aI,iZ aK]
 ·cases b
theorem CL{t O:TypeId}{b:TypeInfo}{m:Nat}(c:P.underlying t=some (.array m O))(aK:P.info? O=some b){y:Addr}{U:IntKind}{n:Int}{A:Addr→Prop}
  (a:cC (some y) m n b.size A):∃ x,A x∧∀ L,(Instr.indexAt t (.pointer (some y)) (.int U n)).run P L=.ok (.pointer (some x)) L:=by
 obtain⟨⟨o,aI⟩,a⟩:=a
 refine⟨_,a,fun L=>?_⟩
 simp only [Instr.indexAt,asIntOf,pure_bind,Sem.run_bind,fD c,Result.andThen,Instr.sureAddr]
 simp [o,aI,iZ aK,fD c]
theorem rT{P:Program}{v:Option Value}{c k:Nat}{A:Nat→Prop}(Z:mI v c k A):
  ∃ m,A m∧(v=none→m=c)∧∀ Q,v=some Q→∀ b (L:World),(Instr.sliceBound Q k b).run P L=.ok m L:=by
 unfold mI at Z
 split at Z
 ·exact⟨_,Z,⟨fun _=>rfl,fun Q a=>(by cases a)⟩⟩
 ·rename_i U T
  refine⟨T.toNat,Z.2,⟨fun a=>(by cases a),fun Q a b L=>?_⟩⟩
  obtain rfl:=Option.some.inj a
  exact run_sliceBound L U T k b Z.1.1 Z.1.2
 ·cases Z
theorem CM{t O:TypeId}{i:TypeInfo}(n:P.underlying t=some (.slice O))(aK:P.info? O=some i){a:R}{l c:Nat}{a6 d e:Option Value}{A:Value→Prop}
  (b:gT i.size a l c a6 d e fun a l c=>A (.slice a l c)):∃ v,A v∧∀ L,(Instr.sliceAt t (.slice a l c) a6 d e).run P L=.ok v L:=by
 unfold gT at b
 split at b
 ·cases b
 ·rename_i D
  obtain⟨m,b,E,j⟩:=rT (P:=P) b
  obtain⟨G,b,o,f⟩:=rT (P:=P) b
  obtain⟨H,b,g,h⟩:=rT (P:=P) b
  refine⟨_,b,fun L=>?_⟩
  have Iv:(Instr.sliceBounds true l c a6 d e).run P L=.ok (H,G,m) L:=by
   unfold Instr.sliceBounds
   cases e with
   | none=>
    obtain rfl:=E rfl
    cases d with
    | none=>
     obtain rfl:=o rfl
     cases a6 with
     | none=>obtain rfl:=g rfl;rfl
     | some Q=>simp [h Q rfl]
    | some k=>
     cases a6 with
     | none=>obtain rfl:=g rfl;simp [f k rfl]
     | some Q=>simp [h Q rfl,f k rfl]
   | some a5=>
    cases d with
    | none=>exact absurd rfl (D a5 rfl)
    | some k=>
     cases a6 with
     | none=>obtain rfl:=g rfl;simp [f k rfl,j a5 rfl]
     | some Q=>simp [h Q rfl,f k rfl,j a5 rfl]
  simp only [Instr.sliceAt,Sem.run_bind,fD n,Result.andThen,Instr.slice,Iv,iZ aK,g7]
  rfl
theorem CN{t:TypeId}(f:P.underlying t=some .string){F:ByteArray}{a6 b:Option Value}{A:Value→Prop}
  (a:rK F a6 b fun F=>A (.string F)):∃ v,A v∧∀ L,(Instr.sliceAt t (.string F) a6 b none).run P L=.ok v L:=by
 unfold rK at a
 obtain⟨g,a,o,c⟩:=rT (P:=P) a
 obtain⟨h,a,d,e⟩:=rT (P:=P) a
 refine⟨_,a,fun L=>?_⟩
 have i:(Instr.sliceBounds false F.size F.size a6 b none).run P L=.ok (h,g,F.size) L:=by
  unfold Instr.sliceBounds
  cases b with
  | none=>
   obtain rfl:=o rfl
   cases a6 with
   | none=>obtain rfl:=d rfl;rfl
   | some Q=>simp [e Q rfl]
  | some k=>
   cases a6 with
   | none=>obtain rfl:=d rfl;simp [c k rfl]
   | some Q=>simp [e Q rfl,c k rfl]
 simp only [Instr.sliceAt,Sem.run_bind,fD f,Result.andThen,Instr.slice,Option.isSome_none,Bool.false_eq_true,if_false,i]
 rfl
theorem yO:∀ (l:List Value) (off U:Nat) (a:Array Value),off+U+l.length≤a.size→
  (l.zipIdx U).foldl (fun cT y=>cT.setIfInBounds (off+y.2) y.1) a=(a.toList.take (off+U) ++ (l ++ a.toList.drop (off+U+l.length))).toArray
 | [],off,U,a,Z=>by simp
 | v :: l,off,U,a,Z=>by
  have b:off+U < a.size:=by simp at Z;omega
  have bD:=yO l off (U+1) (a.setIfInBounds (off+U) v) (by simp at Z ⊢;omega)
  simp only [List.zipIdx_cons,List.foldl_cons,bD]
  congr 1
  have c:(a.setIfInBounds (off+U) v).toList=a.toList.set (off+U) v:=by simp
  rw [c]
  have d:off+(U+1)=off+U+1:=by omega
  have e:off+(U+1)+l.length=off+U+(l.length+1):=by omega
  have f:off+U < a.toList.length:=by simpa using b
  rw [e,d,List.length_cons,List.take_succ_eq_append_getElem (by simpa using b)]
  rw [List.getElem_set_self,List.take_set_of_le (Nat.le_refl _),List.drop_set_of_lt (by omega)]
  simp
theorem vS{vT c:Nat→Option (Nat × Nat)}(d:∀ T,vT T=c T):∀ (e:List (Nat × Value)) (a out:List Value),p9 c a e=some out→
  Instr.fill vT a.toArray e=some out.toArray
 | [],a,out,Z=>by simp only [p9,Option.some.injEq] at Z;subst Z;rfl
 | (T,v) :: rest,a,out,Z=>by
  unfold p9 at Z
  unfold Instr.fill
  rw [d T]
  split at Z
  ·cases Z
  ·rename_i off size O
   rw [O]
   simp only
   cases b:Nat.beq v.cells.toList.length size with
   | false=>rw [b] at Z;cases Z
   | true=>
    cases bA:Nat.ble (off+v.cells.toList.length) a.length with
    | false=>rw [b,bA] at Z;cases Z
    | true=>
     rw [b,bA] at Z
     simp only [Bool.and_self,cond_true] at Z
     have d1:v.cells.size=size:=by simpa using Nat.eq_of_beq_eq_true b
     have d2:off+v.cells.size≤a.length:=by simpa using Nat.le_of_ble_eq_true bA
     have f:=yO v.cells.toList off 0 a.toArray (by simpa using d2)
     have bD:=vS d rest _ out Z
     have h:(v.cells.zipIdx.foldl (fun cT (y:Value × Nat)=>cT.setIfInBounds (off+y.2) y.1) a.toArray)=(vJ a off v.cells.toList).toArray:=by
      rw [← Array.foldl_toList,Array.toList_zipIdx,f]
      simp [vJ]
     have g:¬ (v.cells.size ≠ size || off+v.cells.size > a.toArray.size)=true:=by simp;omega
     rw [if_neg g]
     rw [← bD]
     congr 1
theorem CO{a:List Field}(Z:∀ a3 ∈ a,∃ b,P.info? a3.type=some b)(L:World):
  (a.mapM fun (a3:Field)=>(do pure (a3.offset,← sizeOf a3.type):Sem (Nat × Nat))).run P L=.ok (a.map fun a3=>(a3.offset,P.cellsOf a3.type)) L:=by
 induction a with
 | nil=>rfl
 | cons a3 l bD=>
  obtain⟨b,aK⟩:=Z a3 (by simp)
  have c:=bD fun g d=>Z g (by simp [d])
  rw [List.mapM_cons]
  simp only [Sem.run_bind,iZ aK,Result.andThen,Sem.run_pure,c,List.map_cons,Program.cellsOf,aK]
  rfl
theorem yP:∀ {dV:List (Nat × TypeId)},oT E dV=true→∀ y ∈ dV,∃ T,look E.types y.2=some T
 | [],_,y,a=>by cases a
 | (off,t) :: l,Z,y,a=>by
  unfold oT at Z
  split at Z
  ·rename_i T aK
   rcases List.mem_cons.1 a with rfl | a
   ·exact⟨T,aK⟩
   ·exact yP Z y a
  ·cases Z
theorem CP{t:TypeId}{T:c2}(Z:iN P t T=true):P.cellsOf t=T.leaves.length:=by
 obtain⟨a,aK,aZ,_⟩:=mN Z
 simp [Program.cellsOf,aK,aZ]
theorem yQ:∀ {rest:List Value} {Q:Value} {A:Value→Prop},kO Q rest A→∃ v,A v∧∀ L,(rest.foldlM Builtin.max2 Q:Sem Value).run P L=.ok v L
 | [],Q,A,Z=>by unfold kO at Z;exact⟨Q,Z,fun L=>rfl⟩
 | k :: rest,Q,A,Z=>by
  cases Q with
  | int U a=>
   cases k with
   | int cD N=>
    unfold kO at Z
    obtain⟨v,a1,b⟩:=yQ Z
    exact⟨v,a1,fun L=>by simp only [List.foldlM_cons,Builtin.max2,pure_bind];exact b L⟩
   | _=>simp [kO] at Z
  | _=>cases k <;> simp [kO] at Z
theorem yR:∀ {rest:List Value} {Q:Value} {A:Value→Prop},kP Q rest A→∃ v,A v∧∀ L,(rest.foldlM Builtin.min2 Q:Sem Value).run P L=.ok v L
 | [],Q,A,Z=>by unfold kP at Z;exact⟨Q,Z,fun L=>rfl⟩
 | k :: rest,Q,A,Z=>by
  cases Q with
  | int U a=>
   cases k with
   | int cD N=>
    unfold kP at Z
    obtain⟨v,a1,b⟩:=yR Z
    exact⟨v,a1,fun L=>by simp only [List.foldlM_cons,Builtin.min2,pure_bind];exact b L⟩
   | _=>simp [kP] at Z
  | _=>cases k <;> simp [kP] at Z
theorem CQ(Q k c:Int)(b:0≤Q)(d:0≤k)(e:0≤c)(i:c≤1)(j:k < 18446744073709551616)(L:World):
  (vF #[.int .u64 Q,.int .u64 k,.int .u64 c]).run P L=
   .ok (.tuple #[.int .u64 ((Q - k - c) % 18446744073709551616),.int .u64 (if Q < k+c then 1 else 0)]) L:=by
 have f:∀ U:Nat,U≤1→(vF #[.int .u64 Q,.int .u64 k,.int .u64 (U:Int)]).run P L=
   .ok (Extern.MathBitsCarry.pair ((Q.toNat+Extern.MathBitsCarry.m64 - k.toNat - U) % Extern.MathBitsCarry.m64) (if Q.toNat < k.toNat+U then 1 else 0)) L:=by
  intro U l
  have:U=0∨U=1:=by omega
  rcases this with rfl | rfl <;> rfl
 obtain⟨U,rfl⟩:=Int.eq_ofNat_of_zero_le e
 rw [f U (by omega)]
 obtain⟨aH,rfl⟩:=Int.eq_ofNat_of_zero_le b
 obtain⟨aY,rfl⟩:=Int.eq_ofNat_of_zero_le d
 simp only [Extern.MathBitsCarry.pair,Extern.MathBitsCarry.m64,Int.toNat_natCast]
 have g:Int.ofNat ((aH+2 ^ 64 - aY - U) % 2 ^ 64)=((aH:Int) - aY - U) % 18446744073709551616:=by
  simp;omega
 have h:Int.ofNat (if aH < aY+U then 1 else 0)=if (aH:Int) < aY+U then 1 else 0:=by
  by_cases a:aH < aY+U
  ·rw [if_pos a,if_pos (by omega)];rfl
  ·rw [if_neg a,if_neg (by omega)];rfl
 rw [g,h]
theorem tI(a:g3 P E){a3:FuncId}{U:nP}(b:look E.mG a3=some U):∃ fn,P.funcs[a3]?=some fn∧(fn.name == "runtime.NumGoroutine")=false∧(U=.body∨U=.quiet→fn.body.isSome=true)∧(U=.m5∨U=.m6→fn.body.isNone=true):=by
 have Z:=a.fn _ _ b
 unfold vI at Z
 split at Z
 ·rename_i fn c
  refine⟨fn,c,?_⟩
  cases U <;> simp only [Bool.and_eq_true,Bool.not_eq_true'] at Z <;> simp [Z]
 ·cases Z
theorem CR(e:g3 P E){c:Call}{X:Fr}{jG:TypeId}{A:Value→Prop}(Z:qA E c X A):
  ∃ v,A v∧∀ L,(do let aB ← resolve (cI X) c jG;invoke aB.target aB.args:Sem Next).run P L=.ok (.value v) L:=by
 obtain⟨IA,⟨args⟩,⟨nS⟩⟩:=c
 unfold qA at Z
 simp only at Z
 split at Z
 ·
  split at Z
  ·rename_i Q S t iE
   unfold rL at Z
   split at Z
   ·rename_i O eM N a n IB b a1
    have i:=lT (e.c6 _ _ b)
    refine⟨_,Z,fun L=>?_⟩
    simp [resolve,invoke,builtin,Builtin.len_,a1,fD i,goInt]
   ·rename_i eM N F b a1
    have i:=qE (e.c6 _ _ b)
    refine⟨_,Z,fun L=>?_⟩
    simp [resolve,invoke,builtin,Builtin.len_,a1,fD i,goInt]
   ·cases Z
  ·cases Z
 ·
  split at Z
  ·rename_i Q rest O
   obtain⟨v,a1,j⟩:=yQ (P:=P) Z
   refine⟨v,a1,fun L=>?_⟩
   have d:(List.map (cI X) args)=Q :: rest:=O
   simp [resolve,invoke,builtin,Builtin.max_,d,j]
  ·cases Z
 ·
  split at Z
  ·rename_i Q rest O
   obtain⟨v,a1,j⟩:=yR (P:=P) Z
   refine⟨v,a1,fun L=>?_⟩
   have d:(List.map (cI X) args)=Q :: rest:=O
   simp [resolve,invoke,builtin,Builtin.min_,d,j]
  ·cases Z
 ·
  rename_i a3
  split at Z
  ·rename_i b
   split at Z
   ·rename_i Q k a5 O
    obtain⟨⟨aI,l,m,D⟩,Z⟩:=Z
    refine⟨_,Z,fun L=>?_⟩
    obtain⟨fn,f,G,_,H⟩:=tI e b
    obtain⟨Iv,g,Iw,Ix⟩:=e.ext _ _ b
    obtain rfl:fn=Iv:=by rw [f] at g;exact Option.some.inj g
    have d:(List.map (cI X) args)=[.int .u64 Q,.int .u64 k,.int .u64 a5]:=O
    have h:=run_callFunc_extern (P:=P) f G (H (by simp)) Iw Ix #[.int .u64 Q,.int .u64 k,.int .u64 a5] L
    rw [run_add64 Q k a5 aI l m D] at h
    simp only [resolve,Deferred.ofValue,cI,pure_bind,invoke]
    have Iy:(#[] ++ Array.map (cI X) { toList:=args } ++ #[]:Array Value)=#[.int .u64 Q,.int .u64 k,.int .u64 a5]:=by simp [d]
    rw [Iy,h]
    rfl
   ·cases Z
  ·rename_i b
   split at Z
   ·rename_i Q k a5 O
    obtain⟨⟨aI,l,m,D,Iz⟩,Z⟩:=Z
    refine⟨_,Z,fun L=>?_⟩
    obtain⟨fn,f,G,_,H⟩:=tI e b
    obtain⟨Iv,g,Iw,Ix⟩:=e.ext _ _ b
    obtain rfl:fn=Iv:=by rw [f] at g;exact Option.some.inj g
    have d:(List.map (cI X) args)=[.int .u64 Q,.int .u64 k,.int .u64 a5]:=O
    have h:=run_callFunc_extern (P:=P) f G (H (by simp)) Iw Ix #[.int .u64 Q,.int .u64 k,.int .u64 a5] L
    rw [CQ Q k a5 aI l m D Iz] at h
    simp only [resolve,Deferred.ofValue,cI,pure_bind,invoke]
    have Iy:(#[] ++ Array.map (cI X) { toList:=args } ++ #[]:Array Value)=#[.int .u64 Q,.int .u64 k,.int .u64 a5]:=by simp [d]
    rw [Iy,h]
    rfl
   ·cases Z
  ·cases Z
 ·cases Z
end a
set_option linter.unusedSimpArgs false
structure fI(n:Nat)(X:Fr)(a:Act):Prop where
 size:a.tmps.size=n
 defers:a.defers=[]
 get:∀ t,a.tmps.getD t undef=X t
theorem fI.cI{n:Nat}{X:Fr}{a:Act}(Z:fI n X a):a.eval=cI X:=by
 funext Q
 cases Q with
 | tmp t=>exact Z.get t
 | _=>rfl
theorem fI.put{n:Nat}{X:Fr}{a:Act}(Z:fI n X a){s:Oper}(b:o0 n s=true)(v:Value):fI n (kN X s.dst v) (a.put s.dst v):=by
 unfold o0 at b
 cases O:s.dst with
 | none=>exact Z
 | some aB=>
  rw [O] at b
  have d:aB < n:=by simpa [Nat.blt_eq] using b
  refine⟨by simp [Act.put,Z.size],by simp [Act.put,Z.defers],fun t=>?_⟩
  simp only [Act.put,kN,jF]
  rw [Array.getD_eq_getD_getElem?,Array.getElem?_setIfInBounds]
  cases c:Nat.beq t aB with
  | true=>
   obtain rfl:=Nat.eq_of_beq_eq_true c
   have:t < a.tmps.size:=by rw [Z.size];exact d
   simp [this]
  | false=>
   have:aB ≠ t:=fun O=>by subst O;simp at c
   rw [if_neg this,← Array.getD_eq_getD_getElem?,Z.get t]
   rfl
section
variable {P:Program} {E:Env}
theorem vU(d:g3 P E){s:Oper}{X:Fr}{Z:V}{A:Value→Prop}(b:gJ E s.op X Z A):
  ∃ v,A v∧∀ L:World,(∀ t a x,s.op=.load t a→cI X a=.pointer (some x)→L.heap[x.block]?=Z[x.block]?)→(execOp (cI X) s).run P L=.ok (.value v) L:=by
 obtain⟨I6,op,IL,I7,I8,guard⟩:=s
 simp only at b
 cases op with
 | move Q=>exact⟨_,b,fun L _=>rfl⟩
 | assign Q=>exact⟨_,b,fun L _=>rfl⟩
 | pick c a N=>
  simp only [gJ] at b
  split at b
  ·rename_i t G
   cases t with
   | true=>exact⟨_,b,fun L _=>by simp [execOp,G,Go.asBool]⟩
   | false=>exact⟨_,b,fun L _=>by simp [execOp,G,Go.asBool]⟩
  ·cases b
 | load t a=>
  simp only [gJ] at b
  split at b
  ·rename_i x T IG Iw
   obtain⟨v,a1,f⟩:=yN d Iw b
   exact⟨v,a1,fun L IM=>by simp [execOp,IG,f L (IM _ _ _ rfl IG)]⟩
  ·cases b
 | binOp op t Q k I9=>
  obtain⟨v,a1,f⟩:=CI d (aH:=Q) (aY:=k) b
  exact⟨v,a1,fun L _=>by
   have:=f L
   simp only [execOp,Sem.run_bind] at this ⊢
   rw [this];rfl⟩
 | unOp op t Q=>
  obtain⟨v,a1,f⟩:=CJ (P:=P) b
  exact⟨v,a1,fun L _=>by simp [execOp,f L]⟩
 | convert F aB Q=>
  simp only [gJ] at b
  split at b
  ·rename_i Ja Jb Jc U eM N cD n aI g H
   have dE:=vN (d.c6 _ _ aI)
   have IN:=vN (d.c6 _ _ g)
   exact⟨_,b.out,fun L _=>by simp [execOp,convert,fD dE,fD IN,H,Conv.intToInt]⟩
  ·cases b
 | indexAddr t Q T=>
  simp only [gJ] at b
  split at b
  ·rename_i O eM N a l c U n aI g H
   split at b
   ·rename_i IH Ix
    have dE:=lT (d.c6 _ _ aI)
    obtain⟨D,aK,aZ,_⟩:=mN (d.c6 _ _ Ix)
    rw [← aZ] at b
    obtain⟨x,IB,f⟩:=CK dE aK (c:=c) (U:=U) b
    exact⟨_,IB,fun L _=>by simp [execOp,g,H,f L]⟩
   ·cases b
  ·rename_i x U n g H
   split at b
   ·rename_i m O IP
    split at b
    ·rename_i IH Ix
     have dE:=d.CB _ _ IP
     obtain⟨D,aK,aZ,_⟩:=mN (d.c6 _ _ Ix)
     rw [← aZ] at b
     obtain⟨Jd,IB,f⟩:=CL dE aK (U:=U) b
     exact⟨_,IB,fun L _=>by simp [execOp,g,H,f L]⟩
    ·cases b
   ·cases b
  ·cases b
 | index t Q T=>
  simp only [gJ] at b
  split at b
  ·rename_i eM N F U n aI g H
   have dE:=qE (d.c6 _ _ aI)
   obtain⟨o,b⟩:=b
   split at b
   ·rename_i c IC
    exact⟨_,b,fun L _=>by simp [execOp,g,H,Instr.index,asIntOf,fD dE,o,IC]⟩
   ·cases b
  ·cases b
 | extract Q T=>
  simp only [gJ] at b
  split at b
  ·rename_i bN ID
   split at b
   ·rename_i v a1
    have IE:bN[T]?=some v:=by simpa using a1
    exact⟨v,b,fun L _=>by simp [execOp,ID,Instr.extract,IE]⟩
   ·cases b
  ·cases b
 | fieldAddr F Q a3=>
  simp only [gJ] at b
  split at b
  ·rename_i x dV eM N aI g
   split at b
   ·rename_i off t h
    split at b
    ·rename_i T aK
     cases Iv:Nat.beq T.leaves.length 0 with
     | true=>simp [Iv] at b
     | false=>
      simp only [Iv,cond_false] at b
      obtain⟨i,b7,O⟩:=vO (by rintro rfl;simp at h) (d.c6 _ _ g)
      subst O
      have IF:∃ e,i[a3]?=some e∧e.offset=off∧e.type=t:=by
       rw [List.getElem?_map] at h
       cases j:i.toList[a3]? with
       | none=>simp [j] at h
       | some e=>simp [j] at h;exact⟨e,by simpa using j,h.1,h.2⟩
      obtain⟨e,IA,rfl,rfl⟩:=IF
      exact⟨_,b,fun L _=>by
       obtain⟨D,Iy,aZ,_⟩:=mN (d.c6 _ _ aK)
       have IQ:¬ D.size=0:=by rw [aZ];intro IS;rw [IS] at Iv;simp at Iv
       simp [execOp,aI,Instr.fieldAt,fD b7,IA,Instr.sureAddr,fieldPlace,iZ Iy,IQ]⟩
    ·cases b
   ·cases b
  ·cases b
 | field t Q a3=>
  simp only [gJ] at b
  split at b
  ·rename_i cT dV eM N aI g
   split at b
   ·rename_i off IT h
    obtain⟨i,b7,O⟩:=vO (by rintro rfl;simp at h) (d.c6 _ _ g)
    subst O
    have IF:∃ e,i[a3]?=some e∧e.offset=off∧e.type=IT:=by
     rw [List.getElem?_map] at h
     cases j:i.toList[a3]? with
     | none=>simp [j] at h
     | some e=>simp [j] at h;exact⟨e,by simpa using j,h.1,h.2⟩
    obtain⟨e,IA,rfl,rfl⟩:=IF
    split at b
    ·rename_i Je II gC Iw
     have G:=d.c6 _ _ Iw
     obtain⟨D,Iy,aZ,_⟩:=mN G
     refine⟨_,b,fun L _=>?_⟩
     simp only at aZ
     have IU:cT.extract e.offset (e.offset+D.size)=((cT.toList.drop e.offset).take II.length).toArray:=by
      apply Array.ext'
      simp [aZ]
     simp [execOp,aI,Instr.field,fD b7,IA,cE,part,yB G,iZ Iy,IU,Go.asAgg]
    ·cases b
    ·rename_i T IV Jf Iw
     split at b
     ·rename_i v a1
      have IE:cT[e.offset]?=some v:=by simpa using a1
      have aZ:T.c6.qF=false:=by
       obtain⟨c6,II,gC⟩:=T
       cases c6 <;> first | rfl | exact absurd rfl (IV _ _ _)
      refine⟨v,b,fun L _=>?_⟩
      simp [execOp,aI,Instr.field,fD b7,IA,part,yA (d.c6 _ _ Iw) aZ,IE,Go.asAgg]
     ·cases b
    ·cases b
   ·cases b
  ·cases b
 | build t IJ=>
  simp only [gJ] at b
  split at b
  ·rename_i dV eM N aI
   cases Iz:(!dV.isEmpty && oT E dV) with
   | false=>simp [Iz] at b
   | true=>
    simp only [Iz,cond_true] at b
    have IW:oT E dV=true:=by simp only [Bool.and_eq_true] at Iz;exact Iz.2
    have IX:dV ≠ []:=by rintro rfl;simp at Iz
    split at b
    ·rename_i Jg IC
     refine⟨_,b,fun L _=>?_⟩
     have G:=d.c6 _ _ aI
     obtain⟨i,b7,O⟩:=vO IX G
     subst O
     obtain⟨D,aK,aZ,Jh,a5,Iv,IY⟩:=qG G rfl
     have IK:=yP IW
     have IZ:∀ a3 ∈ i.toList,∃ D,P.info? a3.type=some D:=by
      intro a3 h
      obtain⟨T,aK⟩:=IK (a3.offset,a3.type) (List.mem_map.2 ⟨a3,h,rfl⟩)
      obtain⟨D,aI,_⟩:=mN (d.c6 _ _ aK)
      exact⟨D,aI⟩
     have I0:=CO (P:=P) IZ L
     have I1:(i.mapM fun (a3:Field)=>(do pure (a3.offset,← sizeOf a3.type):Sem (Nat × Nat))).run P L=.ok (i.toList.map fun a3=>(a3.offset,P.cellsOf a3.type)).toArray L:=by
      rw [Array.mapM_eq_mapM_toList,Sem.run_map,I0];rfl
     have I2:∀ M,((i.toList.map fun a3=>(a3.offset,P.cellsOf a3.type)).toArray)[M]?=vK E (i.toList.map fun a3=>(a3.offset,a3.type)) M:=by
      intro M
      unfold vK
      rw [List.getElem?_map]
      cases j:i.toList[M]? with
      | none=>simpa using j
      | some a3=>
       obtain⟨T,aK⟩:=IK (a3.offset,a3.type) (List.mem_map.2 ⟨a3,List.mem_of_getElem? j,rfl⟩)
       have:P.cellsOf a3.type=T.leaves.length:=CP (d.c6 _ _ aK)
       simp at j
       simp [j,aK,this]
     have I3:=vS I2 _ _ _ IC
     simp only [execOp,Sem.run_bind,Instr.build,qH aK Iv,Result.andThen,fD b7,I1]
     have I4:a5.cells=(eM.map fY.zero).toArray:=by apply Array.ext';simpa [c2.aF] using IY
     rw [I4]
     have I5:(Array.map (fun (Q:Nat × Operand)=>match Q with | (T,Q)=>(T,cI X Q)) IJ).toList=IJ.toList.map fun (T,Q)=>(T,cI X Q):=by simp
     rw [I5,I3]
     rfl
    ·cases b
  ·cases b
 | nilCheck Q=>
  simp only [gJ] at b
  split at b
  ·rename_i x ID
   exact⟨_,b,fun L _=>by simp [execOp,ID]⟩
  ·cases b
 | slice t Q a6 aK Ji=>
  simp only [gJ] at b
  split at b
  ·rename_i O eM N a l c aI g
   split at b
   ·rename_i IH Ix
    have dE:=lT (d.c6 _ _ aI)
    obtain⟨D,Iy,aZ,_⟩:=mN (d.c6 _ _ Ix)
    rw [← aZ] at b
    obtain⟨v,a1,f⟩:=CM dE Iy b
    exact⟨v,a1,fun L _=>by simp [execOp,g,f L]⟩
   ·cases b
  ·rename_i eM N F aI g
   split at b
   ·have dE:=qE (d.c6 _ _ aI)
    obtain⟨v,a1,f⟩:=CN dE b
    exact⟨v,a1,fun L _=>by simp [execOp,g,f L]⟩
   ·cases b
  ·cases b
 | call c=>
  obtain⟨v,a1,f⟩:=CR d (jG:=IL) b
  exact⟨v,a1,fun L _=>f L⟩
 | _=>exact b.elim
end
set_option linter.unusedSimpArgs false
theorem add_zero(x:Addr):x.add 0=x:=by simp [Addr.add]
theorem CS{Z:V}{a x:Addr}{v s:Value}(b:fQ Z x=some s):∃ eG,fQ (e5 Z a v) x=some eG:=by
 unfold fQ e5 at *
 rw [Array.getElem?_modify]
 split at b
 ·rename_i c O a3 e
  by_cases f:a.block=x.block
  ·rw [if_pos f,e]
   simp only [Option.map_some]
   by_cases aZ:x.spot.isSome=true
   ·simp [aZ] at b
   ·simp only [aZ] at b ⊢
    have g:x.off < c.size:=by
     rcases Nat.lt_or_ge x.off c.size with d | d
     ·exact d
     ·simp [Array.getElem?_eq_none d] at b
    cases a.spot.isSome with
    | true=>exact⟨s,by simpa using b⟩
    | false=>simp only [Bool.false_eq_true,if_false];rw [Array.getElem?_setIfInBounds];split <;> simp_all
  ·rw [if_neg f,e];exact⟨s,b⟩
 ·cases b
theorem CT(Z:V)(a x:Addr)(v:Value):j5 (e5 Z a v) x=j5 Z x:=by
 unfold j5 e5
 rw [Array.getElem?_modify]
 by_cases b:a.block=x.block
 ·rw [if_pos b]
  cases d:Z[x.block]? with
  | none=>rfl
  | some c=>cases c <;> rfl
 ·rw [if_neg b]
theorem yS{Z:V}{y a:Addr}{v:Value}:∀ {n T:Nat},mF Z y T n→mF (e5 Z a v) y T n
 | 0,_,_=>trivial
 | n+1,T,aZ=>by
  obtain⟨⟨⟨s,b⟩,c⟩,d⟩:=aZ
  exact⟨⟨CS b,by rw [CT];exact c⟩,yS d⟩
section
variable {P:Program} {E:Env}
theorem yT{x:Addr}:∀ {l:List Value} {T:Nat} {L:World} {A:V→Prop},oU L.heap x T l A→∃ b5,(storeCells x l T).run P L=.ok () b5∧eP L b5∧A b5.heap
 | [],T,L,A,Z=>⟨L,rfl,eP.refl L,Z⟩
 | v :: bN,T,L,A,Z=>by
  unfold oU at Z
  cases a:kQ v with
  | false=>simp [a] at Z
  | true=>
   simp only [a,cond_true] at Z
   obtain⟨⟨aI,b⟩,c⟩:=Z
   have d:=vQ (P:=P) aI b a
   obtain⟨b5,C,F,U⟩:=yT (L:=L.setCell (x.add T) v) c
   exact⟨b5,by simp only [storeCells,Sem.run_bind,d,Result.andThen,C],eP.trans (N:=L.setCell _ v) ⟨rfl,rfl,rfl⟩ F,U⟩
theorem tJ{y:Addr}:∀ {bN:List Value} {T:Nat} {L:World},mF L.heap y T bN.length→(∀ v ∈ bN,kQ v=true)→
  ∃ b5,(storeCells y bN T).run P L=.ok () b5∧eP L b5∧b5.heap=h2 L.heap y T bN
 | [],T,L,_,_=>⟨L,rfl,eP.refl L,rfl⟩
 | v :: bN,T,L,Z,a=>by
  obtain⟨⟨aI,b⟩,c⟩:=Z
  have d:=vQ (P:=P) aI b (a v (by simp))
  obtain⟨b5,C,F,U⟩:=tJ (L:=L.setCell (y.add T) v) (T:=T+1) (bN:=bN) (yS c) (fun Q e=>a Q (by simp [e]))
  exact⟨b5,by simp only [storeCells,Sem.run_bind,d,Result.andThen,C],eP.trans (N:=L.setCell _ v) ⟨rfl,rfl,rfl⟩ F,U⟩
theorem rU(aF:List Value):∀ n,(gK aF n).length=n*aF.length
 | 0=>by simp [gK]
 | n+1=>by simp [gK,rU aF n,Nat.succ_mul];omega
theorem yU(aF:List Value):∀ n T,T < n*aF.length→(gK aF n)[T]?=aF[T % aF.length]?
 | 0,T,Z=>by simp at Z
 | n+1,T,Z=>by
  simp only [gK]
  by_cases aK:T < aF.length
  ·rw [List.getElem?_append_left aK,Nat.mod_eq_of_lt aK]
  ·have a:aF.length≤T:=by omega
   rw [List.getElem?_append_right a,yU aF n (T - aF.length) (by rw [Nat.succ_mul] at Z;omega)]
   congr 1
   rw [Nat.mod_eq_sub_mod a]
theorem vV(aF:List Value)(n m:Nat)(c:m=n*aF.length)(a5:Array Value)(d:a5=aF.toArray):(Array.range m).map (fun T=>a5[T % a5.size]!)=(gK aF n).toArray:=by
 subst d;subst c
 apply Array.ext
 ·simp [rU]
 ·intro T aI h
  simp only [Array.size_map,Array.size_range] at aI
  simp only [Array.getElem_map,Array.getElem_range]
  have e:0 < aF.length:=by
   rcases Nat.eq_zero_or_pos aF.length with Z | Z
   ·rw [Z] at aI;simp at aI
   ·exact Z
  have a:T % aF.length < aF.length:=Nat.mod_lt _ e
  have b:=yU aF n T aI
  rw [List.getElem?_eq_getElem a,List.getElem?_eq_getElem (by rw [rU];exact aI)] at b
  have f:=Option.some.inj b
  have g:T % aF.toArray.size < aF.toArray.size:=by simpa using a
  rw [getElem!_pos aF.toArray _ g]
  simp [f]
theorem yV(aF:List Value)(n m:Nat)(a:m=n*aF.length)(a5:Array Value)(b:m ≠ 0→a5=aF.toArray):(Array.range m).map (fun T=>a5[T % a5.size]!)=(gK aF n).toArray:=by
 by_cases o:m=0
 ·subst o
  have:(gK aF n).length=0:=by rw [rU];exact a.symm
  rw [List.length_eq_zero_iff] at this
  rw [this];simp
 ·exact vV aF n m a a5 (b o)
theorem vW(T:c2):T.aF.length=T.leaves.length:=by simp [c2.aF]
theorem tK{L:World}{gS:Nat}{Q:Value}{n:Nat}{cT:List Value}(Z:rM L.heap gS Q n cT):(Builtin.firstCells gS n Q).run P L=.ok cT.toArray L:=by
 obtain⟨a,_,Z⟩:=Z
 split at Z
 ·have b:=tG (P:=P) cT _ 0 #[] L Z
  simp only [Builtin.firstCells,loadCells,← a,b]
  simp
 ·subst Z;rfl
 ·subst Z
  simp only [Builtin.firstCells,Sem.run_pure]
  congr 1
  apply Array.ext'
  simp
 ·cases Z
theorem yW{Q:Value}{n:Nat}(Z:tA Q=some n)(L:World):(Builtin.lenOf Q).run P L=.ok n L:=by
 unfold tA at Z
 split at Z <;> simp_all [Builtin.lenOf]
theorem CU(b:g3 P E){t:TypeId}(Z:qC E t=true):(∃ O,P.underlying t=some (.slice O))∨P.underlying t=some .string:=by
 unfold qC at Z
 split at Z
 ·rename_i a;exact .inl ⟨_,lT (b.c6 _ _ a)⟩
 ·rename_i a;exact .inr (qE (b.c6 _ _ a))
 ·cases Z
set_option maxHeartbeats 2000000 in
theorem CV(i:g3 P E){t H O c6:TypeId}{T:c2}{eM:List fY}{N:Nat}(aI:look E.types t=some ⟨.slice O,eM,N⟩)(IA:look E.types O=some T)(IB:qC E H=true)
  (IC:T.c6.isTuple=false) {a:R} {l c:Nat} {Q:Value} {L:World} {A:Value→V→Prop} (ID:g2 L.heap O T a l c Q fun a l c K=>A (.slice a l c) K) :
  ∃ v b5,(Builtin.append_ #[t,H] c6 #[.slice a l c,Q]).run P L=.ok v b5∧eP L b5∧A v b5.heap:=by
 have dE:=lT (i.c6 _ _ aI)
 obtain⟨e,aK,aZ,Iv,a5,IE,IF⟩:=qG (i.c6 _ _ IA) IC
 have Iw:a5.cells=T.aF.toArray:=by apply Array.ext';simpa using IF
 have j:=CU i IB
 obtain⟨n,cT,IG,m,g,IH⟩:=ID
 have D:=fun II=>yW (P:=P) IG II
 by_cases f:l+n≤c
 ·have g:=g f
  have h:(Builtin.firstCells e.size n Q).run P L=.ok cT.toArray L:=tK (by rw [aZ];exact m)
  cases a with
  | none=>
   refine⟨_,L,?_,eP.refl L,g⟩
   rcases j with ⟨Ix,b⟩ | b <;>
    simp [Builtin.append_,fD dE,fD b,iZ aK,D,f,h]
  | some y=>
   obtain⟨IJ,G⟩:=g
   obtain⟨b5,C,F,IK⟩:=tJ (P:=P) IJ m.2.1
   refine⟨_,b5,?_,F,by rw [IK];exact G⟩
   rw [← aZ] at C
   rcases j with ⟨Ix,b⟩ | b <;>
    simp [Builtin.append_,fD dE,fD b,iZ aK,D,f,h,C]
 ·obtain⟨IU,IV,IW,Iy,IL,G⟩:=IH f
  have h:(Builtin.firstCells e.size n Q).run P L.drew=.ok cT.toArray L.drew:=tK (by rw [aZ];exact m)
  have IM:(Builtin.firstCells e.size l (.slice a l c)).run P L.drew=.ok Iy.toArray L.drew:=tK (by rw [aZ];exact IL)
  have IN:e.bytes ≠ 0:=by rw [Iv];omega
  have IP:¬ 281474976710656 < Builtin.nextslicecap (l+n) c*e.bytes:=by rw [Iv];omega
  obtain⟨d,Iz⟩:∃ d,d=Question.cut (.appendCap (l+n) c O) (L.tape L.drawn (.appendCap (l+n) c O)):=⟨_,rfl⟩
  have IQ:l+n≤d:=by rw [Iz];simp only [Question.cut];omega
  have IS:Builtin.zeroCells a5.cells (d - (l+n))=(gK T.aF (d - (l+n))).toArray:=by
   unfold Builtin.zeroCells
   exact vV T.aF _ _ (by rw [Iw];simp) _ Iw
  have IT:(Question.appendCap (l+n) c O).forced=false:=rfl
  refine⟨_,L.drew.alloc (.cells (Iy ++ (cT ++ gK T.aF (d - (l+n)))).toArray O (0,0)),?_,⟨rfl,rfl,rfl⟩,G d IQ⟩
  rcases j with ⟨Ix,b⟩ | b <;>
   simp [Builtin.append_,fD dE,fD b,iZ aK,D,f,vP aK,IN,IP,IM,h,qH aK IE,newRow,IS,IT,← Iz]
theorem CW(d:g3 P E){t O c6:TypeId}{nS:List TypeId}{T:c2}{eM:List fY}{N:Nat}(aI:look E.types t=some ⟨.slice O,eM,N⟩)(i:look E.types O=some T)
  {a:R} {l c:Nat} {Q:Value} {L:World} {A:Value→V→Prop} (b:kR L.heap T.leaves.length a l Q fun n K=>A (.int .i64 n) K) :
  ∃ v b5,(Builtin.copy_ (t :: nS).toArray c6 #[.slice a l c,Q]).run P L=.ok v b5∧eP L b5∧A v b5.heap:=by
 have dE:=lT (d.c6 _ _ aI)
 obtain⟨j,aK,aZ,_⟩:=mN (d.c6 _ _ i)
 obtain⟨n,cT,m,e,b⟩:=b
 have f:=fun D=>yW (P:=P) m D
 have g:(Builtin.firstCells j.size (Nat.min n l) Q).run P L=.ok cT.toArray L:=tK (by rw [aZ];exact e)
 have h:min n l=Nat.min n l:=rfl
 cases a with
 | none=>
  refine⟨_,L,?_,eP.refl L,b⟩
  simp [Builtin.copy_,fD dE,iZ aK,f,g,goInt,h]
 | some y=>
  obtain⟨G,H⟩:=b
  obtain⟨b5,C,F,Iv⟩:=tJ (P:=P) G e.2.1
  refine⟨_,b5,?_,F,by rw [Iv];exact H⟩
  simp [Builtin.copy_,fD dE,iZ aK,f,g,goInt,C,h]
theorem CX(T:c2):∀ v ∈ T.aF,kQ v=true:=by
 intro v a1
 obtain⟨U,_,rfl⟩:=List.mem_map.1 a1
 cases U <;> rfl
theorem yX{aF:List Value}(Z:∀ v ∈ aF,kQ v=true):∀ n,∀ v ∈ gK aF n,kQ v=true
 | 0,v,a1=>by simp [gK] at a1
 | n+1,v,a1=>by
  simp only [gK,List.mem_append] at a1
  rcases a1 with a1 | a1
  ·exact Z v a1
  ·exact yX Z n v a1
theorem CY(d:g3 P E){t O c6:TypeId}{T:c2}{eM:List fY}{N:Nat}(aI:look E.types t=some ⟨.slice O,eM,N⟩)(f:look E.types O=some T)(g:T.c6.isTuple=false)
  {a:R} {l c:Nat} {L:World} {A:Value→V→Prop} (b:tB L.heap T a l fun K=>A (.tuple #[]) K) :
  ∃ v b5,(Builtin.clear_ #[t] c6 #[.slice a l c]).run P L=.ok v b5∧eP L b5∧A v b5.heap:=by
 have dE:=lT (d.c6 _ _ aI)
 obtain⟨H,aK,aZ,Iv,a5,h,i⟩:=qG (d.c6 _ _ f) g
 have e:a5.cells=T.aF.toArray:=by apply Array.ext';simpa using i
 cases a with
 | none=>exact⟨_,L,by simp [Builtin.clear_,fD dE],eP.refl L,b⟩
 | some y=>
  cases l with
  | zero=>exact⟨_,L,by simp [Builtin.clear_,fD dE],eP.refl L,b⟩
  | succ l=>
   obtain⟨j,m⟩:=b
   have n:(gK T.aF (l+1)).length=(l+1)*T.leaves.length:=by rw [rU,vW]
   obtain⟨b5,C,F,D⟩:=tJ (P:=P) (bN:=gK T.aF (l+1)) (by rw [n];exact j) (yX (CX T) _)
   have G:Builtin.zeroCells a5.cells (l+1)=(gK T.aF (l+1)).toArray:=by
    unfold Builtin.zeroCells
    exact vV T.aF _ _ (by rw [e];simp) _ e
   refine⟨_,b5,?_,F,by rw [D];exact m⟩
   simp [Builtin.clear_,fD dE,qH aK h,G,C]
theorem CZ(c:g3 P E){t O:TypeId}{T:c2}{eM:List fY}{N:Nat}(aI:look E.types t=some ⟨.slice O,eM,N⟩)(l:look E.types O=some T)(D:T.c6.isTuple=false)
  {U cD:IntKind} {n m:Int} {L:World} {A:Value→V→Prop} (G:g1 L.heap O T n m fun y K=>A (.slice (some y) n.toNat m.toNat) K) :
  ∃ v b5,(Instr.makeSlice t (.int U n) (.int cD m)).run P L=.ok v b5∧eP L b5∧A v b5.heap:=by
 have dE:=lT (c.c6 _ _ aI)
 obtain⟨a,aK,aZ,H,a5,Iv,Iw⟩:=qG (c.c6 _ _ l) D
 have Ix:a5.cells=T.aF.toArray:=by apply Array.ext';simpa using Iw
 obtain⟨⟨IC,Iy,ID,IE⟩,Iz⟩:=G
 have IF:m≤281474976710656:=by
  have:(1:Int)*m≤(T.bytes:Int)*m:=Int.mul_le_mul_of_nonneg_right (by omega) (by omega)
  omega
 have IG:¬ (T.bytes:Int)*n > 281474976710656:=by
  have:(T.bytes:Int)*n≤(T.bytes:Int)*m:=Int.mul_le_mul_of_nonneg_left Iy (by omega)
  omega
 have d:IntKind.i64.wrap n=n:=by simp [IntKind.wrap,IntKind.bits,IntKind.signed];omega
 have e:IntKind.i64.wrap m=m:=by simp [IntKind.wrap,IntKind.bits,IntKind.signed];omega
 have f:∀ k:Array Value,(m.toNat*a.size ≠ 0→k=a5.cells)→(Array.range (m.toNat*a.size)).map (fun M=>k[M % k.size]!)=(gK T.aF m.toNat).toArray:=by
  intro k IA
  exact yV T.aF _ _ (by rw [aZ,vW]) _ fun Z=>by rw [IA Z,Ix]
 refine⟨_,{ L with heap:=L.heap.push (.cells (gK T.aF m.toNat).toArray O (0,0)) },?_,⟨rfl,rfl,rfl⟩,Iz⟩
 have g:¬ m < 0:=by omega
 have bA:¬ (281474976710656:Int) < (a.bytes:Int)*m:=by rw [H];omega
 have h:¬ n < 0:=by omega
 have i:¬ n > m:=by omega
 have j:¬ m < n:=by omega
 by_cases o:m.toNat*a.size=0
 ·have b:=f #[] (fun Z=>absurd o Z)
  rw [o] at b
  have IB:(gK T.aF m.toNat).toArray=#[]:=by rw [← b];simp
  simp only [Instr.makeSlice,Sem.run_bind,fD dE,Result.andThen,Go.asInt,asIntOf,Sem.run_pure,vP aK,d,e]
  simp [g,bA,h,i,j,iZ aK,o,newRow,IB,Array.range_zero']
 ·have b:=f a5.cells (fun _=>rfl)
  simp only [Instr.makeSlice,Sem.run_bind,fD dE,Result.andThen,Go.asInt,asIntOf,Sem.run_pure,vP aK,d,e]
  simp [g,bA,h,i,j,iZ aK,o,qH aK Iv,newRow,b]
theorem C0{L:World}{x:Addr}{jG:TypeId}{e:Int→Int→V→Prop}{f:Prop}(g:tC L.heap x e f):
  (∃ T c b5,(Instr.next (.pointer (some x)) true jG).run P L=.ok (.tuple #[.bool true,.int .i64 T,.int .i32 c]) b5∧eP L b5∧e T c b5.heap)∨
  ((Instr.next (.pointer (some x)) true jG).run P L=.ok (.tuple #[.bool false]) L∧f):=by
 obtain⟨N,off,i⟩:=x
 obtain⟨o,F,b,d,cQ,h⟩:=g
 dsimp only at o d cQ
 subst o
 by_cases a:b < F.size
 ·refine .inl ⟨_,_,{ L with heap:=x6 L.heap N F (b+(Utf8.decode F b).2) },?_,⟨rfl,rfl,rfl⟩,cQ a⟩
  simp only [Instr.next,getObj,setObj,Sem.run_bind,Sem.run,d,Result.andThen,a,if_true]
  rfl
 ·refine .inr ⟨?_,h a⟩
  simp [Instr.next,getObj,Sem.run,d,a]
theorem C1{L:World}{a:R}{l c:Nat}{A:ByteArray→Prop}(b:tD L.heap a l A):∃ F,(Conv.bytesToString (.slice a l c)).run P L=.ok (.string F) L∧A F:=by
 cases a with
 | none=>exact⟨_,rfl,b⟩
 | some y=>
  obtain⟨d,e,f,g⟩:=b
  refine⟨_,?_,g⟩
  have aI:=tG (P:=P) (d.map fun N=>Value.int .u8 N.toNat) y 0 #[] L f
  rw [List.length_map,e] at aI
  have h:∀ (l:List UInt8) (F:ByteArray),List.foldl (fun (N:ByteArray) (a:UInt8)=>N.push a) F l=⟨F.data ++ l.toArray⟩:=by
   intro l
   induction l with
   | nil=>intro F;simp
   | cons Q l bD=>intro F;rw [List.foldl_cons,bD];simp [ByteArray.push]
  simp [Conv.bytesToString,loadCells,aI,h]
def lU(P:Program)(s:Oper)(a:Act)(L:World)(v:Value):Prop:=(execOp a.eval s).run P L=.ok (.value v) L
def vX(P:Program)(s:Oper)(a:Act)(L:World)(v:Value):Prop:=
 ∃ a3 args,(execOp a.eval s).run P L=.ok (.enter a3 args) L∧Calls P a3 args L (fun O b5=>O=.returned v∧eP L b5∧b5.heap=L.heap)
def kS(P:Program)(s:Oper)(a:Act)(L:World)(b:Value→V→Prop):Prop:=
 (∃ v b5,(execOp a.eval s).run P L=.ok (.value v) b5∧eP L b5∧b v b5.heap)∨
 (∃ b5,(execOp a.eval s).run P L=.ok .skip b5∧eP L b5∧b undef b5.heap)∨
 (∃ a3 args,(execOp a.eval s).run P L=.ok (.enter a3 args) L∧Calls P a3 args L (fun O b5=>∃ v,O=.returned v∧eP L b5∧b v b5.heap))
theorem kS.mono{s:Oper}{a:Act}{L:World}{d e:Value→V→Prop}(b:∀ v Z,d v Z→e v Z)(Z:kS P s a L d):kS P s a L e:=by
 rcases Z with ⟨v,b5,C,F,U⟩ | ⟨b5,C,F,U⟩ | ⟨a3,args,C,c⟩
 ·exact .inl ⟨v,b5,C,F,b _ _ U⟩
 ·exact .inr (.inl ⟨b5,C,F,b _ _ U⟩)
 ·exact .inr (.inr ⟨a3,args,C,c.mono fun _ _ ⟨v,O,F,U⟩=>⟨v,O,F,b _ _ U⟩⟩)
theorem kS.some{s:Oper}{a:Act}{L:World}{b:Value→V→Prop}(Z:kS P s a L b):∃ v K,b v K:=by
 rcases Z with ⟨v,b5,C,F,U⟩ | ⟨b5,C,F,U⟩ | ⟨a3,args,C,c⟩
 ·exact⟨v,_,U⟩
 ·exact⟨_,_,U⟩
 ·obtain⟨O,b5,X,⟨v,_,_,U⟩,_⟩:=c []
  exact⟨v,_,U⟩
theorem kS.wp{s:Oper}{a:Act}{L:World}{d:Value→V→Prop}(Z:kS P s a L d){next:Act→World→Prop}{b6:Exit→Act→World→Prop}
  (b:∀ v b5,eP L b5→d v b5.heap→next (a.put s.dst v) b5):s.wp P a L next b6:=by
 unfold Oper.wp
 rcases Z with ⟨v,b5,C,F,U⟩ | ⟨b5,C,F,U⟩ | ⟨a3,args,C,c⟩
 ·rw [C];exact b v b5 F U
 ·rw [C];exact b _ b5 F U
 ·rw [C,Oper.upon_enter]
  refine c.mono ?_
  rintro O b5 ⟨v,rfl,F,U⟩
  exact b v b5 F U
theorem vY(f:g3 P E){s:Oper}{X:Fr}{a:Act}(IB:a.eval=cI X){L:World}{A:Value→V→Prop}(b:hE P E s.op s.type X L.heap A):kS P s a L A:=by
 have g:∀ v b5,(execOp (cI X) s).run P L=.ok (.value v) b5→eP L b5→A v b5.heap→kS P s a L A:=by
  intro v b5 Iw F U
  exact .inl ⟨v,b5,by rw [IB];exact Iw,F,U⟩
 obtain⟨II,op,H,IJ,IK,guard⟩:=s
 simp only at b
 cases op with
 | range t Q=>
  simp only [hE] at b
  split at b
  ·rename_i eM N F d G
   have dE:=qE (f.c6 _ _ d)
   refine g _ { L with heap:=L.heap.push (.stringIter F 0) } ?_ ⟨rfl,rfl,rfl⟩ b
   simp [execOp,G,Instr.range,fD dE]
  ·cases b
 | next Q N=>
  cases N with
  | false=>exact b.elim
  | true=>
   simp only [hE,cond_true] at b
   split at b
   ·rename_i x G
    rcases C0 (P:=P) (jG:=H) b with ⟨T,c,b5,C,F,U⟩ | ⟨C,U⟩
    ·exact g _ b5 (by simp [execOp,G,C]) F U
    ·exact g _ L (by simp [execOp,G,C]) ⟨rfl,rfl,rfl⟩ U
   ·cases b
 | convert F aB Q=>
  simp only [hE] at b
  split at b
  ·rename_i O eM N Jf Jg IC l Iv IT IU G
   split at b
   ·rename_i Jh Ji IV
    have dE:=lT (f.c6 _ _ IT)
    have IW:=qE (f.c6 _ _ IU)
    have IX:=vN (f.c6 _ _ IV)
    obtain⟨F,C,U⟩:=C1 (P:=P) (c:=Iv) b
    refine g _ L ?_ ⟨rfl,rfl,rfl⟩ U
    simp [execOp,G,convert,fD dE,fD IW,fD IX,C]
   ·cases b
  ·cases b
 | store t Q v=>
  simp only [hE] at b
  split at b
  ·rename_i x T G d
   obtain⟨i,aK,aZ,_⟩:=mN (f.c6 _ _ d)
   have IL:∀ b5,(storeCells x (cI X v).cells.toList).run P L=.ok () b5→(cI X v).cells.size=i.size→eP L b5→A undef b5.heap→kS P ⟨II,.store t Q v,H,IJ,IK,guard⟩ a L A:=by
    intro b5 Iw IY F U
    refine .inr (.inl ⟨b5,?_,F,U⟩)
    rw [IB]
    simp [execOp,G,Instr.storeAt,Instr.sureAddr,storeVar,iZ aK,IY,Iw]
   unfold qB at b
   split at b
   ·rename_i cT a1
    cases e:Nat.beq cT.toList.length T.leaves.length with
    | false=>rw [e] at b;cases b
    | true=>
     rw [e] at b
     simp only [cond_true] at b
     obtain⟨b5,C,F,U⟩:=yT (P:=P) b
     have:=Nat.eq_of_beq_eq_true e
     exact IL b5 (by rw [a1];exact C) (by rw [a1,aZ,← this];simp [Value.cells]) F U
   ·cases b
   ·rename_i Jj Iy IM
    cases e:Nat.beq 1 T.leaves.length with
    | false=>rw [e] at b;cases b
    | true=>
     rw [e] at b
     simp only [cond_true] at b
     obtain⟨⟨IZ,I0⟩,I1⟩:=b
     have I2:kQ (cI X v)=true:=by
      cases O:cI X v <;> first | rfl | exact absurd O (Iy _) | exact absurd O (IM _)
     have Iz:(cI X v).cells=#[cI X v]:=by
      cases O:cI X v <;> first | rfl | exact absurd O (Iy _) | exact absurd O (IM _)
     have Iw:=vQ (P:=P) IZ I0 I2
     have:=Nat.eq_of_beq_eq_true e
     exact IL (L.setCell x (cI X v)) (by rw [Iz];simp [storeCells,add_zero,Iw]) (by rw [Iz,aZ,← this];rfl) ⟨rfl,rfl,rfl⟩ I1
  ·cases b
 | box O v=>
  simp only [hE,cU] at b
  refine g _ { L with heap:=L.heap.push (.cells (cI X v).cells O (0,0)) } ?_ ⟨rfl,rfl,rfl⟩ b
  simp [execOp,Instr.box,newVar,newRow]
 | alloc O=>
  simp only [hE] at b
  split at b
  ·cases b
  ·rename_i T h d
   have j:T.c6.isTuple=false:=by
    obtain⟨c6,eM,N⟩:=T
    cases c6 <;> first | rfl | exact absurd rfl (h _ _ _)
   obtain⟨i,aK,aZ,e,a5,ID,IE⟩:=qG (f.c6 _ _ d) j
   have IF:a5.cells=T.aF.toArray:=by apply Array.ext';simpa using IE
   refine g _ { L with heap:=L.heap.push (.cells T.aF.toArray O (0,0)) } ?_ ⟨rfl,rfl,rfl⟩ b
   simp [execOp,Instr.alloc,newVar,newRow,qH aK ID,IF]
  ·cases b
 | makeSlice t l c=>
  simp only [hE] at b
  split at b
  ·rename_i O eM N eT n I3 m d I4 I5
   split at b
   ·cases b
   ·rename_i T h D
    have j:T.c6.isTuple=false:=by
     obtain⟨c6,eM,N⟩:=T
     cases c6 <;> first | rfl | exact absurd rfl (h _ _ _)
    obtain⟨v,b5,C,F,U⟩:=CZ (P:=P) (U:=eT) (cD:=I3) f d D j b
    refine g v b5 ?_ F U
    simp [execOp,I4,I5,C]
   ·cases b
  ·cases b
 | buildSlice t n IN=>
  simp only [hE] at b
  split at b
  ·rename_i O eM N d
   split at b
   ·cases b
   ·rename_i T h D
    have j:T.c6.isTuple=false:=by
     obtain⟨c6,eM,N⟩:=T
     cases c6 <;> first | rfl | exact absurd rfl (h _ _ _)
    cases IG:Nat.ble (n*T.leaves.length) 16777216 with
    | false=>rw [IG] at b;cases b
    | true=>
     rw [IG] at b
     simp only [cond_true] at b
     split at b
     ·rename_i I6 Iz
      have dE:=lT (f.c6 _ _ d)
      obtain⟨i,aK,aZ,e,a5,ID,IE⟩:=qG (f.c6 _ _ D) j
      have IF:a5.cells=T.aF.toArray:=by apply Array.ext';simpa using IE
      have Jk:=Nat.le_of_ble_eq_true IG
      have IP:=vS (vT:=fun M=>some (M*i.size,i.size)) (fun M=>by rw [aZ]) _ _ _ Iz
      refine g _ { L with heap:=L.heap.push (.cells I6.toArray O (0,0)) } ?_ ⟨rfl,rfl,rfl⟩ b
      have I7:¬ n*i.size > 2 ^ 24:=by rw [aZ];omega
      have IQ:(Array.map (fun (Q:Nat × Operand)=>match Q with | (T,Q)=>(T,cI X Q)) IN).toList=IN.toList.map fun (T,Q)=>(T,cI X Q):=by simp
      have IS:∀ k:Array Value,(n*i.size ≠ 0→k=a5.cells)→(Array.range (n*i.size)).map (fun M=>k[M % k.size]!)=(gK T.aF n).toArray:=by
       intro k I8
       exact yV T.aF _ _ (by rw [aZ,vW]) _ fun Z=>by rw [I8 Z,IF]
      by_cases o:n*i.size=0
      ·have IA:=IS #[] (fun Z=>absurd o Z)
       have I9:¬ (0:Nat) > 2 ^ 24:=by decide
       rw [o] at IA
       simp only [execOp,Sem.run_bind,Instr.buildSlice,fD dE,Result.andThen,iZ aK,o,if_neg I9,if_true,Sem.run_pure,IA,IQ,IP]
       rfl
      ·have IA:=IS a5.cells (fun _=>rfl)
       simp only [execOp,Sem.run_bind,Instr.buildSlice,fD dE,Result.andThen,iZ aK,if_neg I7,o,if_false,Sem.run_pure,qH aK ID]
       simp only [IA,IQ,IP]
       rfl
     ·cases b
   ·cases b
  ·cases b
 | call c=>
  obtain⟨Jl,⟨args⟩,⟨nS⟩⟩:=c
  simp only [hE] at b
  split at b
  ·
   split at b
   ·rename_i F Q t Ja
    cases IH:qC E Ja with
    | false=>rw [IH] at b;cases b
    | true=>
     rw [IH] at b
     simp only [cond_true] at b
     split at b
     ·rename_i O eM N IC l Iv d aZ
      split at b
      ·cases b
      ·rename_i T h D
       have j:T.c6.isTuple=false:=by
        obtain⟨c6,eM,N⟩:=T
        cases c6 <;> first | rfl | exact absurd rfl (h _ _ _)
       obtain⟨v,b5,C,Ix,U⟩:=CV (P:=P) (c6:=H) f d D IH j b
       refine g v b5 ?_ Ix U
       simp [execOp,resolve,invoke,builtin,aZ,C]
      ·cases b
     ·cases b
   ·cases b
  ·
   split at b
   ·rename_i aB Q t iE
    split at b
    ·rename_i O eM N IC l Iv d aZ
     split at b
     ·cases b
     ·rename_i T h D
      obtain⟨v,b5,C,Ix,U⟩:=CW (P:=P) (c6:=H) (nS:=iE) (c:=Iv) f d D b
      refine g v b5 ?_ Ix U
      simp [execOp,resolve,invoke,builtin,aZ,C]
     ·cases b
    ·cases b
   ·cases b
  ·
   split at b
   ·rename_i aB t
    split at b
    ·rename_i O eM N IC l Iv d aZ
     split at b
     ·cases b
     ·rename_i T h D
      have j:T.c6.isTuple=false:=by
       obtain⟨c6,eM,N⟩:=T
       cases c6 <;> first | rfl | exact absurd rfl (h _ _ _)
      obtain⟨v,b5,C,Ix,U⟩:=CY (P:=P) (c6:=H) (c:=Iv) f d D j b
      refine g v b5 ?_ Ix U
      simp [execOp,resolve,invoke,builtin,aZ,C]
     ·cases b
    ·cases b
   ·cases b
  ·
   rename_i a3
   split at b
   ·rename_i d
    obtain⟨fn,Jb,Iy,e,_⟩:=tI f d
    have e:=e (.inl rfl)
    have Jc:(execOp (cI X) ⟨II,.call ⟨.value (.func a3),⟨args⟩,⟨nS⟩⟩,H,IJ,IK,guard⟩).run P L=.ok (.enter a3 (args.map (cI X)).toArray) L:=by
     have Jd:¬ fn.name="runtime.NumGoroutine":=by simpa using Iy
     have Je:¬ fn.body=none:=by intro O;rw [O] at e;cases e
     simp [execOp,resolve,Deferred.ofValue,cI,invoke,callFunc,Jb,Jd,Je]
    refine .inr (.inr ⟨a3,_,by rw [IB];exact Jc,(b L rfl).mono ?_⟩)
    rintro O b5 ⟨v,rfl,F,U⟩
    exact⟨v,rfl,F,yI U⟩
   ·cases b
  ·cases b
 | _=>exact b.elim
end
set_option linter.unusedSimpArgs false
section
variable {P:Program} {E:Env}
def dW(P:Program)(E:Env)(cJ:Bool)(b0:Nat)(b:Array Oper)(s:Oper)(a:Act)(Z:V)(c:Value→V→Prop):Prop:=
 if Region.wanted s (yielded b a.tmps) then
  match e1 E s.op with
  | .pure=>∃ v,(∀ L,lU P s a L v)∧c v Z
  | .load=>∃ v,(∀ L:World,cond cJ (cA b0 Z L.heap) (L.heap=Z)→lU P s a L v)∧c v Z
  | .quiet=>∃ v,(∀ L:World,L.heap=Z→vX P s a L v)∧c v Z
  | .call=>∀ L:World,L.heap=Z→kS P s a L fun v K=>(cJ=true→cA b0 Z K)∧c v K
  | .act=>∀ L:World,L.heap=Z→kS P s a L c
 else c undef Z
def qI(Z:V):World:={ heap:=Z,tape:=fun _ _=>0,drawn:=0,os:=default,output:=#[] }
theorem jH{cJ:Bool}{b0:Nat}{f:Array Oper}{s:Oper}{a:Act}{Z:V}{g h:Value→V→Prop}(c:∀ v Z,g v Z→h v Z)(aZ:dW P E cJ b0 f s a Z g):dW P E cJ b0 f s a Z h:=by
 unfold dW at *
 split
 ·rename_i b
  rw [if_pos b] at aZ
  cases d:e1 E s.op with
  | pure=>simp only [d] at aZ ⊢;obtain⟨v,aI,e⟩:=aZ;exact⟨v,aI,c _ _ e⟩
  | load=>simp only [d] at aZ ⊢;obtain⟨v,aI,e⟩:=aZ;exact⟨v,aI,c _ _ e⟩
  | quiet=>simp only [d] at aZ ⊢;obtain⟨v,aI,e⟩:=aZ;exact⟨v,aI,c _ _ e⟩
  | call=>simp only [d] at aZ ⊢;exact fun L b=>(aZ L b).mono fun v K U=>⟨U.1,c _ _ U.2⟩
  | act=>simp only [d] at aZ ⊢;exact fun L b=>(aZ L b).mono c
 ·rename_i b;rw [if_neg b] at aZ;exact c _ _ aZ
theorem yY{cJ:Bool}{b0:Nat}{e:Array Oper}{s:Oper}{a:Act}{Z:V}{d:Value→V→Prop}(aZ:dW P E cJ b0 e s a Z d):∃ v K,d v K:=by
 unfold dW at aZ
 split at aZ
 ·cases b:e1 E s.op with
  | pure=>simp only [b] at aZ;obtain⟨v,aI,c⟩:=aZ;exact⟨_,_,c⟩
  | load=>simp only [b] at aZ;obtain⟨v,aI,c⟩:=aZ;exact⟨_,_,c⟩
  | quiet=>simp only [b] at aZ;obtain⟨v,aI,c⟩:=aZ;exact⟨_,_,c⟩
  | call=>simp only [b] at aZ;obtain⟨v,K,U⟩:=(aZ (qI Z) rfl).some;exact⟨v,K,U.2⟩
  | act=>simp only [b] at aZ;exact(aZ (qI Z) rfl).some
 ·exact⟨_,_,aZ⟩
theorem lU.inj{s:Oper}{a:Act}{L:World}{v b:Value}(Z:lU P s a L v)(K:lU P s a L b):v=b:=by
 unfold lU at *
 rw [Z] at K
 cases K
 rfl
theorem cA.refl(b0:Nat)(Z:V):cA b0 Z Z:=fun _ _=>rfl
theorem cA.symm{b0:Nat}{Z K:V}(y:cA b0 Z K):cA b0 K Z:=fun N a=>(y N a).symm
theorem cA.trans{b0:Nat}{a N c:V}(y:cA b0 a N)(x:cA b0 N c):cA b0 a c:=fun T aK=>(x T aK).trans (y T aK)
theorem yZ{cJ:Bool}{b0:Nat}{c:Array Oper}{s:Oper}{a:Act}(b:e1 E s.op=.pure∨¬ Region.wanted s (yielded c a.tmps)=true){Z:V}{f:Value→V→Prop}(aZ:dW P E cJ b0 c s a Z f):
  ∃ v,∀ K d,dW P E cJ b0 c s a K d↔d v K:=by
 by_cases e:Region.wanted s (yielded c a.tmps)=true
 ·rcases b with b | b
  ·simp only [dW,if_pos e,b] at aZ
   obtain⟨v,aI,_⟩:=aZ
   refine⟨v,fun K d=>?_⟩
   simp only [dW,if_pos e,b]
   constructor
   ·rintro⟨j,h,i⟩
    have:=(aI (qI K)).inj (h (qI K))
    subst this
    exact i
   ·intro g;exact⟨v,aI,g⟩
  ·exact absurd e b
 ·exact⟨undef,fun K d=>by simp only [dW,if_neg e]⟩
theorem y0{cJ:Bool}{b0:Nat}{d:Array Oper}{s:Oper}{a:Act}(b:e1 E s.op=.load∨e1 E s.op=.quiet∨e1 E s.op=.pure){Z:V}{e:Value→V→Prop}(aZ:dW P E cJ b0 d s a Z e):
  ∃ v,e v Z∧∀ c:Value→V→Prop,c v Z→dW P E cJ b0 d s a Z c:=by
 by_cases f:Region.wanted s (yielded d a.tmps)=true
 ·rcases b with b | b | b <;> simp only [dW,if_pos f,b] at aZ ⊢ <;> obtain⟨v,aI,g⟩:=aZ <;> exact⟨v,g,fun c U=>⟨v,aI,U⟩⟩
 ·simp only [dW,if_neg f] at aZ ⊢;exact⟨undef,aZ,fun c U=>U⟩
theorem y1{b0:Nat}{d:Array Oper}{s:Oper}{a:Act}(e:e1 E s.op=.load){Z:V}{h:Value→V→Prop}(aZ:dW P E true b0 d s a Z h):
  ∃ v,∀ K c,cA b0 Z K→(dW P E true b0 d s a K c↔c v K):=by
 by_cases b:Region.wanted s (yielded d a.tmps)=true
 ·simp only [dW,if_pos b,e,cond_true] at aZ
  obtain⟨v,aI,_⟩:=aZ
  refine⟨v,fun K c f=>?_⟩
  simp only [dW,if_pos b,e,cond_true]
  constructor
  ·rintro⟨l,i,j⟩
   have:=(aI (qI K) f).inj (i (qI K) (cA.refl _ _))
   subst this
   exact j
  ·intro g;exact⟨v,fun L b=>aI L (f.trans b),g⟩
 ·exact⟨undef,fun K c _=>by simp only [dW,if_neg b]⟩
theorem y2{b0:Nat}{c:Array Oper}{s:Oper}{a:Act}(e:e1 E s.op=.call){Z:V}{d:Value→V→Prop}(aZ:dW P E true b0 c s a Z d):
  dW P E true b0 c s a Z fun v K=>cA b0 Z K∧d v K:=by
 by_cases b:Region.wanted s (yielded c a.tmps)=true
 ·simp only [dW,if_pos b,e] at aZ ⊢
  exact fun L b=>(aZ L b).mono fun v K U=>⟨U.1,U.1 trivial,U.2⟩
 ·simp only [dW,if_neg b] at aZ ⊢;exact⟨cA.refl _ _,aZ⟩
theorem y3{cJ:Bool}{b0:Nat}{d:Array Oper}{T M:Oper}{a:Act}(b:iF cJ (e1 E T.op) (e1 E M.op)=true){Z:V}{g:Value→Value→V→Prop}
  (aZ:dW P E cJ b0 d T a Z fun v K=>dW P E cJ b0 d M a K fun b7 e=>g v b7 e):dW P E cJ b0 d M a Z fun b7 K=>dW P E cJ b0 d T a K fun v e=>g v b7 e:=by
 have t:e1 E T.op=.pure→dW P E cJ b0 d M a Z fun b7 K=>dW P E cJ b0 d T a K fun v e=>g v b7 e:=by
  intro j
  obtain⟨v,a1⟩:=yZ (.inl j) aZ
  have aI:=(a1 _ _).1 aZ
  exact jH (fun b7 K U=>(a1 K _).2 U) aI
 have h:e1 E M.op=.pure→dW P E cJ b0 d M a Z fun b7 K=>dW P E cJ b0 d T a K fun v e=>g v b7 e:=by
  intro j
  obtain⟨D,o,l⟩:=yY aZ
  obtain⟨b7,f⟩:=yZ (.inl j) l
  exact(f Z _).2 (jH (fun v K U=>(f K _).1 U) aZ)
 have i:(e1 E T.op=.load∨e1 E T.op=.quiet∨e1 E T.op=.pure)→(e1 E M.op=.load∨e1 E M.op=.quiet∨e1 E M.op=.pure)→dW P E cJ b0 d M a Z fun b7 K=>dW P E cJ b0 d T a K fun v e=>g v b7 e:=by
  intro aI G
  obtain⟨v,a1,H⟩:=y0 aI aZ
  obtain⟨b7,f,Iv⟩:=y0 G a1
  exact Iv _ (H _ f)
 cases aK:e1 E T.op with
 | pure=>exact t aK
 | load=>
  cases c:e1 E M.op with
  | pure=>exact h c
  | load=>exact i (.inl aK) (.inl c)
  | quiet=>exact i (.inl aK) (.inr (.inl c))
  | call=>
   rw [aK,c] at b
   simp only [iF] at b
   subst b
   obtain⟨v,a1⟩:=y1 aK aZ
   have aI:=(a1 Z _ (cA.refl _ _)).1 aZ
   exact jH (fun b7 K U=>(a1 K _ U.1).2 U.2) (y2 c aI)
  | act=>rw [aK,c] at b;simp [iF] at b
 | quiet=>
  cases c:e1 E M.op with
  | pure=>exact h c
  | load=>exact i (.inr (.inl aK)) (.inl c)
  | quiet=>exact i (.inr (.inl aK)) (.inr (.inl c))
  | call=>rw [aK,c] at b;simp [iF] at b
  | act=>rw [aK,c] at b;simp [iF] at b
 | call=>
  cases c:e1 E M.op with
  | pure=>exact h c
  | load=>
   rw [aK,c] at b
   simp only [iF] at b
   subst b
   have m:=y2 aK aZ
   obtain⟨D,o,n,l⟩:=yY m
   obtain⟨b7,f⟩:=y1 c l
   refine(f Z _ n.symm).2 (jH (fun v K U=>?_) m)
   exact(f K _ (n.symm.trans U.1)).1 U.2
  | quiet=>rw [aK,c] at b;simp [iF] at b
  | call=>rw [aK,c] at b;simp [iF] at b
  | act=>rw [aK,c] at b;simp [iF] at b
 | act=>
  cases c:e1 E M.op with
  | pure=>exact h c
  | load=>rw [aK,c] at b;simp [iF] at b
  | quiet=>rw [aK,c] at b;simp [iF] at b
  | call=>rw [aK,c] at b;simp [iF] at b
  | act=>rw [aK,c] at b;simp [iF] at b
theorem tL{cJ:Bool}{b0:Nat}{b:Array Oper}{s:Oper}{a:Act}{aB:Option Tmp}{b7:Value}(e:∀ cT N,s.op ≠ .select cT N)(c:∀ t,aB=some t→t ∉ s.looksAt b){Z:V}{d:Value→V→Prop}:
  dW P E cJ b0 b s (a.put aB b7) Z d=dW P E cJ b0 b s a Z d:=by
 have f:=execOp_put s e a aB b7 c
 have g:=wanted_put s a aB b7 c
 unfold dW lU vX kS
 rw [f,g]
def hF(P:Program)(E:Env)(cJ:Bool)(b0:Nat)(b:Array Oper)(A:Act→V→Prop):List Nat→Act→V→Prop
 | [],a,Z=>A a Z
 | T :: l,a,Z=>match b[T]? with
  | some s=>dW P E cJ b0 b s a Z fun v K=>hF P E cJ b0 b A l (a.put s.dst v) K
  | none=>hF P E cJ b0 b A l a Z
theorem C2{cJ:Bool}{b0:Nat}{b:Array Oper}{A:Act→V→Prop}{T M:Nat}{c d:Oper}(aK:b[T]?=some c)(f:b[M]?=some d)(g:c.apart b d=true)
  (h:∀ cT N,c.op ≠ .select cT N) (i:∀ cT N,d.op ≠ .select cT N) (j:iF cJ (e1 E c.op) (e1 E d.op)=true) {l:List Nat} {a:Act} {Z:V}
  (aZ:hF P E cJ b0 b A (T :: M :: l) a Z):hF P E cJ b0 b A (M :: T :: l) a Z:=by
 obtain⟨aI,m,n⟩:=Oper.apart_spec g
 simp only [hF,aK,f] at aZ ⊢
 have t:dW P E cJ b0 b c a Z fun v K=>dW P E cJ b0 b d a K fun b7 e=>hF P E cJ b0 b A l ((a.put c.dst v).put d.dst b7) e:=
  jH (fun v K U=>by rw [tL i aI] at U;exact U) aZ
 have:=y3 j t
 refine jH (fun b7 K U=>?_) this
 rw [tL h n]
 refine jH (fun v e cD=>?_) U
 rw [Act.put_comm a v b7 m] at cD
 exact cD
theorem C3{cJ:Bool}{b0:Nat}{d:Array Oper}{b c:Oper}(g:b.apart d c=true)
  (h:∀ cT N,b.op ≠ .select cT N) (i:∀ cT N,c.op ≠ .select cT N) (j:iF cJ (e1 E b.op) (e1 E c.op)=true) {f:Act→V→Prop} {a:Act} {Z:V}
  (aZ:dW P E cJ b0 d b a Z fun v K=>dW P E cJ b0 d c (a.put b.dst v) K fun b7 e=>f ((a.put b.dst v).put c.dst b7) e) :
  dW P E cJ b0 d c a Z fun b7 K=>dW P E cJ b0 d b (a.put c.dst b7) K fun v e=>f ((a.put c.dst b7).put b.dst v) e:=by
 obtain⟨aI,l,m⟩:=Oper.apart_spec g
 have n:dW P E cJ b0 d b a Z fun v K=>dW P E cJ b0 d c a K fun b7 e=>f ((a.put b.dst v).put c.dst b7) e:=
  jH (fun v K U=>by rw [tL i aI] at U;exact U) aZ
 have:=y3 j n
 refine jH (fun b7 K U=>?_) this
 rw [tL h m]
 refine jH (fun v e cD=>?_) U
 rw [Act.put_comm a v b7 l] at cD
 exact cD
theorem tM{dR:List Nat}{T M:Nat}:M ∈ del dR T↔M ∈ dR∧M ≠ T:=by
 unfold del
 rw [List.mem_filter]
 refine and_congr Iff.rfl ?_
 constructor
 ·intro Z O;subst O;simp at Z
 ·intro Z
  cases a:Nat.beq M T with
  | true=>exact absurd (Nat.eq_of_beq_eq_true a) Z
  | false=>rfl
theorem y4{dR:List Nat}{T:Nat}(Z:dR.Nodup):(del dR T).Nodup:=Z.filter _
theorem C4(dR:List Nat)(T M:Nat):del (del dR T) M=del (del dR M) T:=by
 unfold del
 rw [List.filter_filter,List.filter_filter]
 apply List.filter_congr
 intro Q _
 rw [Bool.and_comm]
theorem y5:∀ {dR:List Nat} {T:Nat},T ∉ dR→del dR T=dR:=by
 intro dR T Z
 unfold del
 rw [List.filter_eq_self]
 intro Q a
 cases b:Nat.beq Q T with
 | true=>obtain rfl:=Nat.eq_of_beq_eq_true b;exact absurd a Z
 | false=>rfl
theorem y6{B bO:List Nat}{T:Nat}(Z:(B ++ T :: bO).Nodup):del (B ++ T :: bO) T=B ++ bO:=by
 have aI:T ∉ B:=fun a=>by
  have:=List.nodup_append.1 Z
  exact this.2.2 T a T List.mem_cons_self rfl
 have b:T ∉ bO:=(List.nodup_cons.1 (List.nodup_append.1 Z).2.1).1
 have O:del (B ++ T :: bO) T=del B T ++ del (T :: bO) T:=by unfold del;rw [List.filter_append]
 have c:del (T :: bO) T=del bO T:=by unfold del;rw [List.filter_cons];simp
 rw [O,c,y5 aI,y5 b]
theorem y7{dR:List Nat}{T:Nat}(Z:dR.Nodup)(aK:T ∈ dR):(del dR T).length+1=dR.length:=by
 obtain⟨B,bO,rfl⟩:=List.append_of_mem aK
 rw [y6 Z]
 simp;omega
def o1(P:Program)(E:Env)(cJ:Bool)(b0:Nat)(b:Array Oper)(c:List Nat)(A:Act→V→Prop):Nat→List Nat→Act→V→Prop
 | 0,_,a,Z=>A a Z
 | n+1,dR,a,Z=>∀ T s,T ∈ dR→mL c dR T=true→b[T]?=some s→dW P E cJ b0 b s a Z fun v K=>o1 P E cJ b0 b c A n (del dR T) (a.put s.dst v) K
theorem y8{a dR:List Nat}{T M:Nat}(Z:mL a dR T=true):mL a (del dR M) T=true:=by
 unfold mL at *
 rw [List.all_eq_true] at *
 exact fun Q b=>Z Q (tM.1 b).1
theorem C5{cJ:Bool}{b0:Nat}{b:Array Oper}{f:List Nat}{A:Act→V→Prop}(t:∀ (M:Nat) (s:Oper) cT N,b[M]?=some s→s.op ≠ .select cT N){T:Nat}{c:Oper}(j:b[T]?=some c):∀ {n:Nat} {dR:List Nat},dR.length=n+1→dR.Nodup→T ∈ dR→mL f dR T=true→
  (∀ M ∈ dR,M ≠ T→(f.getD M 0).testBit T=true∨∃ d,b[M]?=some d∧c.apart b d=true∧iF cJ (e1 E c.op) (e1 E d.op)=true)→∀ {a:Act} {Z:V},
  (dW P E cJ b0 b c a Z fun v K=>o1 P E cJ b0 b f A n (del dR T) (a.put c.dst v) K)→o1 P E cJ b0 b f A (n+1) dR a Z:=by
 intro n
 induction n with
 | zero=>
  intro dR D l aK G m a Z aZ M d g h e
  have:M=T:=by
   obtain⟨Q,rfl⟩:=List.length_eq_one_iff.1 D
   simp at aK g
   rw [aK,g]
  subst this
  rw [j] at e
  cases e
  exact aZ
 | succ n bD=>
  intro dR D l aK G m a Z aZ M d g h e
  by_cases i:M=T
  ·subst i
   rw [j] at e
   cases e
   exact aZ
  ·have Iv:(f.getD M 0).testBit T ≠ true:=by
    unfold mL at h
    rw [List.all_eq_true] at h
    have:=h T aK
    intro O
    rw [O] at this
    cases this
   rcases m M g i with Iw | ⟨ID,H,Ix,Iy⟩
   ·exact absurd Iw Iv
   ·rw [e] at H
    cases H
    have aI:dW P E cJ b0 b c a Z fun v K=>dW P E cJ b0 b d (a.put c.dst v) K fun b7 Iz=>(fun a Z=>o1 P E cJ b0 b f A n (del (del dR T) M) a Z) ((a.put c.dst v).put d.dst b7) Iz:=
     jH (fun v K U=>U M d (tM.2 ⟨g,i⟩) (y8 h) e) aZ
    have IA:=C3 Ix (fun cT N=>t T c cT N j) (fun cT N=>t M d cT N e) Iy aI
    refine jH (fun b7 K U=>?_) IA
    refine bD (dR:=del dR M) ?_ (y4 l) (tM.2 ⟨aK,fun O=>i O.symm⟩) (y8 G) (fun Q IB IC=>m Q (tM.1 IB).1 IC) ?_
    ·have:=y7 l g;omega
    ·rw [C4];exact U
theorem C6{cJ:Bool}{b0:Nat}{b:Array Oper}{A:Act→V→Prop}{T:Nat}{l d:List Nat}(e:∀ a Z,hF P E cJ b0 b A l a Z→hF P E cJ b0 b A d a Z){a:Act}{Z:V}
  (aZ:hF P E cJ b0 b A (T :: l) a Z):hF P E cJ b0 b A (T :: d) a Z:=by
 simp only [hF] at *
 split
 ·rename_i s c
  simp only [c] at aZ
  exact jH (fun v K U=>e _ _ U) aZ
 ·rename_i c
  simp only [c] at aZ
  exact e _ _ aZ
def free(E:Env)(cJ:Bool)(a:Array Oper)(T M:Nat):Prop:=
 ∃ b c,a[T]?=some b∧a[M]?=some c∧b.apart a c=true∧(∀ cT N,b.op ≠ .select cT N)∧(∀ cT N,c.op ≠ .select cT N)∧iF cJ (e1 E b.op) (e1 E c.op)=true
theorem y9{cJ:Bool}{b0:Nat}{b:Array Oper}{A:Act→V→Prop}{M:Nat}{bO:List Nat}:∀ {B:List Nat},(∀ T ∈ B,free E cJ b T M)→∀ {a:Act} {Z:V},hF P E cJ b0 b A (B ++ M :: bO) a Z→hF P E cJ b0 b A (M :: (B ++ bO)) a Z
 | [],_,a,Z,aZ=>aZ
 | T :: B,c,a,Z,aZ=>by
  have bD:=fun {a Z}=>y9 (b0:=b0) (A:=A) (bO:=bO) (B:=B) (fun Q d=>c Q (List.mem_cons_of_mem _ d)) (a:=a) (Z:=Z)
  have aI:hF P E cJ b0 b A (T :: M :: (B ++ bO)) a Z:=C6 (fun a Z=>bD) aZ
  obtain⟨l,m,e,f,g,h,i,j⟩:=c T List.mem_cons_self
  exact C2 e f g h i j aI
end
set_option linter.unusedSimpArgs false
section
variable {P:Program} {E:Env}
theorem C7(g:g3 P E){s:Oper}{X:Fr}{a:Act}(h:a.eval=cI X)(d:e1 E s.op=.quiet){Z:V}{A:Value→Prop}(b:oV P E s.op s.type X Z A):
  ∃ v,A v∧∀ L:World,L.heap=Z→vX P s a L v:=by
 obtain⟨D,op,G,H,Iv,guard⟩:=s
 simp only at b d
 cases op with
 | call c=>
  obtain⟨Iw,⟨args⟩,nS⟩:=c
  simp only [oV] at b
  split at b
  ·rename_i a3
   obtain⟨v,aI,i⟩:=b
   refine⟨v,yI i,fun L f=>?_⟩
   have j:look E.mG a3=some .quiet:=by
    simp only [e1] at d
    split at d <;> first | assumption | cases d
   obtain⟨fn,l,m,e,_⟩:=tI g j
   have e:=e (.inr rfl)
   refine⟨a3,(args.map (cI X)).toArray,?_,(aI L f).mono ?_⟩
   ·have n:¬ fn.name="runtime.NumGoroutine":=by simpa using m
    have t:¬ fn.body=none:=by intro O;rw [O] at e;cases e
    rw [h]
    simp [execOp,resolve,Deferred.ofValue,cI,invoke,callFunc,l,n,t]
   ·rintro O b5 ⟨Ix,rfl,F,rfl,U⟩
    exact⟨rfl,F,by rw [U,f]⟩
  ·cases b
 | _=>simp [oV] at b
theorem zA(d:g3 P E){cJ:Bool}{b0:Nat}{h:Array Oper}{s:Oper}{X:Fr}{a:Act}(e:a.eval=cI X){Z:V}{i:Value→V→Prop}(b:mJ P E cJ b0 s X Z i)
  (m:Region.wanted s (yielded h a.tmps)=true):dW P E cJ b0 h s a Z i:=by
 unfold mJ at b
 unfold dW
 rw [if_pos m]
 cases c:e1 E s.op with
 | pure=>
  simp only [c] at b ⊢
  obtain⟨v,a1,f⟩:=vU d b
  exact⟨v,fun L=>by unfold lU;rw [e];exact f L fun t Q x O _=>by rw [O] at c;simp [e1] at c,a1⟩
 | load=>
  simp only [c] at b ⊢
  cases cJ with
  | false=>
   simp only [cond_false] at b ⊢
   obtain⟨v,a1,f⟩:=vU d b
   exact⟨v,fun L g=>by unfold lU;rw [e];exact f L fun t Q x O _=>by rw [g],a1⟩
  | true=>
   simp only [cond_true] at b ⊢
   split at b
   ·rename_i t Q O
    obtain⟨j,b⟩:=b
    obtain⟨v,a1,f⟩:=vU d b
    refine⟨v,fun L n=>?_,a1⟩
    unfold lU
    rw [e]
    refine f L fun G H x l D=>?_
    rw [O] at l
    cases l
    rw [D] at j
    exact n _ j
   ·cases b
 | quiet=>
  simp only [c] at b ⊢
  obtain⟨v,a1,f⟩:=C7 d e c b
  exact⟨v,f,a1⟩
 | call=>
  simp only [c] at b ⊢
  cases cJ with
  | false=>
   intro L g
   subst g
   simp only [cond_false] at b
   exact(vY d e b).mono fun v K U=>⟨fun O=>(by cases O),U⟩
  | true=>
   intro L g
   subst g
   simp only [cond_true] at b
   exact(vY d e b).mono fun v K U=>⟨fun _=>U.1,U.2⟩
 | act=>
  simp only [c] at b ⊢
  intro L g
  subst g
  exact vY d e b
theorem zB{c7:List Oper}{n:Nat}{X:Fr}{a:Act}(e:fI n X a){s:Oper}{M t:Nat}{c N:Bool}(f:s.guard=some (M,c))(b:rN c7 M=some t)(g:X t=.bool N):
  Region.wanted s (yielded c7.toArray a.tmps)=(N == c):=by
 have aI:a.tmps[t]?=some (.bool N):=by
  have:=e.get t
  rw [g,Array.getD_eq_getD_getElem?] at this
  cases d:a.tmps[t]? with
  | none=>rw [d] at this;simp [undef] at this
  | some v=>rw [d] at this;simp at this;rw [this]
 have h:((c7.toArray[M]?).bind (·.dst)).bind (a.tmps[·]?)=some (.bool N):=by
  unfold rN at b
  split at b
  ·rename_i j i
   simp [i,b,aI]
  ·cases b
 unfold Region.wanted yielded
 rw [f]
 simp only [h]
 cases N <;> cases c <;> rfl
theorem zC{c7:List Oper}{n:Nat}{X:Fr}{a:Act}(c:fI n X a){s:Oper}{M t:Nat}{d:Bool}{bN:Array Value}(e:s.guard=some (M,d))(b:rN c7 M=some t)(f:X t=.tuple bN):
  Region.wanted s (yielded c7.toArray a.tmps)=false:=by
 have aI:a.tmps[t]?=none∨a.tmps[t]?=some (.tuple bN):=by
  have:=c.get t
  rw [f,Array.getD_eq_getD_getElem?] at this
  cases g:a.tmps[t]? with
  | none=>exact .inl rfl
  | some v=>rw [g] at this;simp at this;rw [this];exact .inr rfl
 have h:(c7.toArray[M]?).bind (·.dst)=some t:=by
  unfold rN at b
  split at b
  ·rename_i j i
   simp [i,b]
  ·cases b
 unfold Region.wanted yielded
 rw [e]
 simp only [h,Option.bind_some]
 rcases aI with aI | aI <;> rw [aI] <;> rfl
theorem vZ(H:g3 P E){cJ:Bool}{b0 n:Nat}{c7:List Oper}:∀ {l:List Oper} {U:Nat} {X:Fr} {a:Act} {Z:V} {A:Fr→V→Prop},(∀ M,l[M]?=c7[U+M]?)→l.all (o0 n)=true→fI n X a→
  hL P E cJ b0 c7 l X Z A→hF P E cJ b0 c7.toArray (fun f K=>∃ d,fI n d f∧A d K) (List.range' U l.length) a Z
 | [],U,X,a,Z,A,_,_,g,b=>⟨X,g,b⟩
 | s :: rest,U,X,a,Z,A,Iv,Iw,g,b=>by
  simp only [List.all_cons,Bool.and_eq_true] at Iw
  obtain⟨Iy,Iz⟩:=Iw
  have IA:c7.toArray[U]?=some s:=by have:=Iv 0;simp at this;simpa using this.symm
  have IB:∀ M,rest[M]?=c7[U+1+M]?:=fun M=>by have:=Iv (M+1);simpa [Nat.add_assoc,Nat.add_comm 1 M] using this
  simp only [List.length_cons,List.range'_succ,hF,IA]
  have next:∀ c,fI n c a→∀ v K,hL P E cJ b0 c7 rest (kN c s.dst v) K A→hF P E cJ b0 c7.toArray (fun f K=>∃ d,fI n d f∧A d K) (List.range' (U+1) rest.length) (a.put s.dst v) K:=
   fun c h v K i=>vZ H IB Iz (h.put Iy v) i
  have G:∀ c,fI n c a→Region.wanted s (yielded c7.toArray a.tmps)=true→mJ P E cJ b0 s c Z (fun v K=>hL P E cJ b0 c7 rest (kN c s.dst v) K A)→
    dW P E cJ b0 c7.toArray s a Z fun v K=>hF P E cJ b0 c7.toArray (fun f K=>∃ d,fI n d f∧A d K) (List.range' (U+1) rest.length) (a.put s.dst v) K:=
   fun c h e i=>jH (fun v K cD=>next c h v K cD) (zA H h.cI i e)
  have skip:∀ c,fI n c a→Region.wanted s (yielded c7.toArray a.tmps)=false→hL P E cJ b0 c7 rest (kN c s.dst undef) Z A→
    dW P E cJ b0 c7.toArray s a Z fun v K=>hF P E cJ b0 c7.toArray (fun f K=>∃ d,fI n d f∧A d K) (List.range' (U+1) rest.length) (a.put s.dst v) K:=by
   intro c h e i
   unfold dW
   rw [if_neg (by rw [e];decide)]
   exact next c h undef Z i
  unfold hL at b
  split at b
  ·rename_i j
   exact G X g (by simp [Region.wanted,j]) b
  ·rename_i M IC j
   split at b
   ·cases b
   ·rename_i t Ix
    split at b
    ·rename_i N m
     have e:=zB (c7:=c7) g j Ix m
     have D:fI n (jF X t (.bool N)) a:=by rw [s4 m];exact g
     cases N <;> cases IC <;> simp only [cond_true,cond_false] at b
     ·exact G _ D (by rw [e];rfl) b
     ·exact skip _ D (by rw [e];rfl) b
     ·exact skip _ D (by rw [e];rfl) b
     ·exact G _ D (by rw [e];rfl) b
    ·rename_i bN m
     exact skip X g (zC (c7:=c7) g j Ix m) b
    ·cases b
theorem C8(H:g3 P E){b0 n:Nat}{c7:List Oper}{T:Nat}{s:Oper}(Iw:c7[T]?=some s)(D:o0 n s=true){X:Fr}{a:Act}{Z:V}{A:Fr→V→Prop}(f:fI n X a)
  (b:hL P E true b0 c7 [s] X Z A):dW P E true b0 c7.toArray s a Z fun v K=>∃ c,fI n c (a.put s.dst v)∧A c K:=by
 have l:∀ d,fI n d a→Region.wanted s (yielded c7.toArray a.tmps)=true→mJ P E true b0 s d Z (fun v K=>hL P E true b0 c7 [] (kN d s.dst v) K A)→
   dW P E true b0 c7.toArray s a Z fun v K=>∃ c,fI n c (a.put s.dst v)∧A c K:=
  fun d g e m=>jH (fun v K cD=>⟨_,g.put D v,cD⟩) (zA H g.cI m e)
 have skip:∀ d,fI n d a→Region.wanted s (yielded c7.toArray a.tmps)=false→hL P E true b0 c7 [] (kN d s.dst undef) Z A→
   dW P E true b0 c7.toArray s a Z fun v K=>∃ c,fI n c (a.put s.dst v)∧A c K:=by
  intro d g e m
  unfold dW
  rw [if_neg (by rw [e];decide)]
  exact⟨_,g.put D undef,m⟩
 unfold hL at b
 split at b
 ·rename_i h
  exact l X f (by simp [Region.wanted,h]) b
 ·rename_i M Iv h
  split at b
  ·cases b
  ·rename_i t G
   split at b
   ·rename_i N i
    have e:=zB (c7:=c7) f h G i
    have j:fI n (jF X t (.bool N)) a:=by rw [s4 i];exact f
    cases N <;> cases Iv <;> simp only [cond_true,cond_false] at b
    ·exact l _ j (by rw [e];rfl) b
    ·exact skip _ j (by rw [e];rfl) b
    ·exact skip _ j (by rw [e];rfl) b
    ·exact l _ j (by rw [e];rfl) b
   ·rename_i bN i
    exact skip X f (zC (c7:=c7) f h G i) b
   ·cases b
theorem zD{a3:Nat→Prop}:∀ {l:List Nat},rP a3 l→∀ T ∈ l,a3 T
 | [T],Z,M,a=>by simp at a;subst a;exact Z
 | T :: U :: l,Z,M,a=>by
  rcases List.mem_cons.1 a with rfl | a
  ·exact Z.1
  ·exact zD Z.2 M a
theorem C9{a:List Oper}(b:Region.noSelect a.toArray=true):∀ (M:Nat) (s:Oper) cT N,a.toArray[M]?=some s→s.op ≠ .select cT N:=by
 intro M s cT N c O
 have d:a[M]?=some s:=by simpa using c
 have:=List.mem_of_getElem? d
 simp only [Region.noSelect,Array.all_eq_true',List.mem_toArray] at b
 have:=b s this
 rw [O] at this
 simp at this
theorem Da(H:g3 P E){b0 n:Nat}{c7:List Oper}(Iv:c7.all (o0 n)=true)(Iw:Region.noSelect c7.toArray=true){f:List Nat}{A:Fr→V→Prop}:∀ {m:Nat} {dR:List Nat} {X:Fr} {a:Act} {Z:V},dR.length=m→dR.Nodup→fI n X a→
  mM P E b0 c7 f m dR X Z A→o1 P E true b0 c7.toArray f (fun h K=>∃ d,fI n d h∧A d K) m dR a Z:=by
 intro m
 induction m with
 | zero=>intro dR X a Z D g i b;exact⟨X,i,b⟩
 | succ m bD=>
  intro dR X a Z D g i b
  have at_:∀ T ∈ dR,∀ s,c7.toArray[T]?=some s→nR P E b0 c7 T X Z (fun X Z=>mM P E b0 c7 f m (del dR T) X Z A)→
    dW P E true b0 c7.toArray s a Z fun v K=>o1 P E true b0 c7.toArray f (fun h K=>∃ d,fI n d h∧A d K) m (del dR T) (a.put s.dst v) K:=by
   intro T aK s c b
   have e:c7[T]?=some s:=by simpa using c
   unfold nR at b
   rw [e] at b
   refine jH (fun v K U=>?_) (C8 H e (List.all_eq_true.1 Iv s (List.mem_of_getElem? e)) i b)
   obtain⟨d,C,U⟩:=U
   refine bD ?_ (y4 g) C U
   have:=y7 g aK;omega
  unfold mM at b
  split at b
  ·rename_i T j
   have aK:=List.mem_of_find?_eq_some j
   have l:=List.find?_some j
   unfold x8 at l
   rw [Bool.and_eq_true] at l
   obtain⟨Ix,G⟩:=l
   rw [List.all_eq_true] at G
   cases c:c7[T]? with
   | none=>unfold nR at b;rw [c] at b;cases b
   | some s=>
    have e:c7.toArray[T]?=some s:=by simpa using c
    refine C5 (C9 Iw) e D g aK Ix (fun M Iy Iz=>?_) (at_ T aK s e b)
    have:=G M Iy
    rw [Bool.or_eq_true,Bool.or_eq_true] at this
    rcases this with (aI | aI) | aI
    ·exact absurd (Nat.eq_of_beq_eq_true aI) Iz
    ·exact .inl aI
    ·rw [c] at aI
     cases t:c7[M]? with
     | none=>rw [t] at aI;cases aI
     | some IA=>
      rw [t] at aI
      simp only [Bool.and_eq_true] at aI
      exact .inr ⟨IA,by simpa using t,aI.1,aI.2⟩
  ·rename_i j
   intro T s aK IB c
   exact at_ T aK s c (zD b T (List.mem_filter.2 ⟨aK,IB⟩))
theorem v0{cJ:Bool}{b0:Nat}{f:Array Oper}{T:Nat}{s:Oper}(j:f[T]?=some s){a:Act}{L:World}{g:Value→V→Prop}(aZ:dW P E cJ b0 f s a L.heap g)
  {A:Act→World→Prop} {b6:Exit→Act→World→Prop} (b:∀ v b5,eP L b5→g v b5.heap→A (a.put s.dst v) b5):wpOp P f b6 T A a L:=by
 unfold wpOp
 simp only [j]
 unfold dW at aZ
 by_cases h:Region.wanted s (yielded f a.tmps)=true
 ·rw [if_pos h] at aZ ⊢
  refine .inl ?_
  have i:∀ v,lU P s a L v→g v L.heap→s.wp P a L A b6:=by
   intro v l U
   unfold Oper.wp
   rw [l]
   exact b v L (eP.refl L) U
  cases d:e1 E s.op with
  | pure=>simp only [d] at aZ;obtain⟨v,aI,e⟩:=aZ;exact i v (aI L) e
  | load=>
   simp only [d] at aZ
   obtain⟨v,aI,e⟩:=aZ
   refine i v (aI L ?_) e
   cases cJ
   ·exact rfl
   ·exact cA.refl _ _
  | quiet=>
   simp only [d] at aZ
   obtain⟨v,aI,e⟩:=aZ
   obtain⟨a3,args,C,c⟩:=aI L rfl
   unfold Oper.wp
   rw [C,Oper.upon_enter]
   refine c.mono ?_
   rintro O b5 ⟨rfl,F,U⟩
   exact b v b5 F (by rw [U];exact e)
  | call=>simp only [d] at aZ;exact(aZ L rfl).wp fun v b5 F U=>b v b5 F U.2
  | act=>simp only [d] at aZ;exact(aZ L rfl).wp fun v b5 F U=>b v b5 F U
 ·rw [if_neg h] at aZ ⊢
  exact b undef L (eP.refl L) aZ
def rem(n:Nat)(a:Array Bool):List Nat:=(List.range n).filter fun T=>!a.getD T true
def tN(a:Array Oper)(b:Array Bool):Prop:=∀ T s,a[T]?=some s→b.getD T false=true→∀ O ∈ s.after,Region.binds .any O=true→b.getD O.on false=true
theorem mO{n T:Nat}{a:Array Bool}:T ∈ rem n a↔T < n∧a.getD T true=false:=by simp [rem]
theorem v3{d:List Nat}{M:Nat}:∀ {l:List Edge},(mK d l).testBit M=true→∃ O ∈ l,Region.binds .any O=true∧(O.on=M∨(d.getD O.on 0).testBit M=true)
 | [],Z=>by simp [mK] at Z
 | O :: l,Z=>by
  unfold mK at Z
  cases a:Region.binds .any O with
  | false=>
   rw [a] at Z
   obtain⟨b,aI,c⟩:=v3 (l:=l) Z
   exact⟨b,List.mem_cons_of_mem _ aI,c⟩
  | true=>
   rw [a] at Z
   simp only [cond_true,Nat.testBit_or,Bool.or_eq_true] at Z
   rcases Z with (Z | Z) | Z
   ·refine⟨O,List.mem_cons_self,a,.inl ?_⟩
    rw [Nat.testBit_two_pow] at Z
    simpa using Z
   ·exact⟨O,List.mem_cons_self,a,.inr Z⟩
   ·obtain⟨b,aI,c⟩:=v3 (l:=l) Z
    exact⟨b,List.mem_cons_of_mem _ aI,c⟩
theorem zE:∀ (l:List Oper) (a:List Nat),(∀ T,T < a.length→(iY a l)[T]?=a[T]?)∧(∀ T s,l[T]?=some s→(iY a l)[a.length+T]?=some (mK ((iY a l).take (a.length+T)) s.after.toList))
 | [],a=>⟨fun T _=>rfl,fun T s Z=>by simp at Z⟩
 | s :: l,a=>by
  obtain⟨aI,c⟩:=zE l (a ++ [mK a s.after.toList])
  simp only [List.length_append,List.length_cons,List.length_nil] at aI c
  have O:iY a (s :: l)=iY (a ++ [mK a s.after.toList]) l:=rfl
  rw [O]
  refine⟨fun T aK=>?_,fun T eG b=>?_⟩
  ·rw [aI T (by omega),List.getElem?_append_left aK]
  ·cases T with
   | zero=>
    simp at b
    subst b
    have d:(iY (a ++ [mK a s.after.toList]) l).take (a.length+0)=a:=by
     apply List.ext_getElem?
     intro M
     rw [List.getElem?_take]
     split
     ·rename_i e
      rw [aI M (by omega),List.getElem?_append_left (by omega)]
     ·rename_i e
      rw [List.getElem?_eq_none (by omega)]
    rw [d,aI _ (by omega)]
    simp
   | succ T=>
    have:=c T eG (by simpa using b)
    rw [show a.length+(T+1)=a.length+(0+1)+T by omega]
    exact this
theorem zF{a:List Oper}{d:Array Bool}(m:tN a.toArray d)(g:oW a=true):∀ (T:Nat) (s:Oper),a[T]?=some s→(∀ O ∈ s.after,Region.binds .any O=true→d.getD O.on false=true)→
  ∀ M,((iY [] a).getD T 0).testBit M=true→d.getD M false=true:=by
 intro T
 induction T using Nat.strongRecOn with
 | _ T bD=>
  intro s b n M e
  have aZ:=(zE a []).2 T s b
  simp only [List.length_nil,Nat.zero_add] at aZ
  rw [List.getD_eq_getElem?_getD,aZ] at e
  simp only [Option.getD_some] at e
  obtain⟨O,aI,h,c⟩:=v3 e
  have t:O ∈ s.after:=by simpa using aI
  have i:=n O t h
  rcases c with rfl | c
  ·exact i
  ·have j:O.on < T:=by
    simp only [oW,List.all_eq_true,List.mem_range] at g
    have aK:T < a.length:=by
     rcases Nat.lt_or_ge T a.length with Z | Z
     ·exact Z
     ·rw [List.getElem?_eq_none Z] at b;cases b
    have:=g T aK
    rw [b] at this
    simp only [List.all_eq_true] at this
    have:=this O aI
    rw [h] at this
    simpa [Nat.blt_eq] using this
   have v:((iY [] a).take T).getD O.on 0=(iY [] a).getD O.on 0:=by
    rw [List.getD_eq_getElem?_getD,List.getD_eq_getElem?_getD,List.getElem?_take,if_pos j]
   rw [v] at c
   cases f:a[O.on]? with
   | none=>
    have D:a.length≤O.on:=by simpa using f
    have aK:T < a.length:=by
     rcases Nat.lt_or_ge T a.length with Z | Z
     ·exact Z
     ·rw [List.getElem?_eq_none Z] at b;cases b
    omega
   | some l=>exact bD O.on j l f (m O.on l (by simpa using f) i) M c
theorem zG{n T:Nat}{a:Array Bool}(aZ:a.size=n)(aK:T ∈ rem n a):
  ∃ B bO,rem n a=B ++ T :: bO∧rem n (a.setIfInBounds T true)=B ++ bO∧(∀ M ∈ B,M < T∧M < n∧a.getD M true=false):=by
 have e:=(mO.1 aK)
 have c:List.range n=List.range T ++ T :: List.range' (T+1) (n - T - 1):=by
  rw [List.range_eq_range',List.range_eq_range',show n=T+(1+(n - T - 1)) by omega,← List.range'_append_1,← List.range'_append_1]
  simp
 refine⟨(List.range T).filter fun M=>!a.getD M true,(List.range' (T+1) (n - T - 1)).filter fun M=>!a.getD M true,?_,?_,?_⟩
 ·unfold rem
  rw [c,List.filter_append,List.filter_cons,e.2]
  simp
 ·unfold rem
  rw [c,List.filter_append,List.filter_cons]
  have aI:(a.setIfInBounds T true).getD T true=true:=by
   rw [Array.getD_eq_getD_getElem?,Array.getElem?_setIfInBounds]
   simp
   split <;> rfl
  rw [aI]
  have d:∀ M,M ≠ T→(a.setIfInBounds T true).getD M true=a.getD M true:=by
   intro M b
   rw [Array.getD_eq_getD_getElem?,Array.getElem?_setIfInBounds,if_neg (fun O=>b O.symm),← Array.getD_eq_getD_getElem?]
  simp only [Bool.not_true,Bool.false_eq_true,if_false]
  congr 1
  ·apply List.filter_congr
   intro M b
   rw [d M (by simp at b;omega)]
  ·apply List.filter_congr
   intro M b
   rw [d M (by simp [List.mem_range'_1] at b;omega)]
 ·intro M b
  simp only [List.mem_filter,List.mem_range,Bool.not_eq_true'] at b
  exact⟨b.1,by omega,b.2⟩
theorem Db{cJ:Bool}{b0:Nat}{b:List Oper}(IV:oX E cJ b=true){A:Act→V→Prop}{b6:Exit→Act→World→Prop}{j6:World}
  (IE:∀ a L,eP j6 L→A a L.heap→b6 .normal a L):∀ (n:Nat) (c:Array Bool) (a:Act) (L:World),c.size=b.length→tN b.toArray c→(rem b.length c).length≤n→eP j6 L→
   hF P E cJ b0 b.toArray A (rem b.length c) a L.heap→wpAny P .any b.toArray b6 n c a L:=by
 have IF:=IV
 simp only [oX,Bool.and_eq_true,List.all_eq_true,List.mem_range] at IF
 obtain⟨⟨IG,Iw⟩,IW⟩:=IF
 have IH:∀ (M:Nat) (s:Oper) cT N,b[M]?=some s→s.op ≠ .select cT N:=by
  intro M s cT N D O
  have:=List.mem_of_getElem? D
  simp only [Region.noSelect,Array.all_eq_true',List.mem_toArray] at IG
  have:=IG s this
  rw [O] at this
  simp at this
 have II:∀ c:Array Bool,∀ T ∈ Region.ready .any b.toArray c,T ∈ rem b.length c∧∃ s,b[T]?=some s∧∀ O ∈ s.after,Region.binds .any O=true→c.getD O.on false=true:=by
  intro c T aK
  simp only [Region.ready,List.size_toArray,List.mem_filter,List.mem_range,Bool.and_eq_true,Bool.not_eq_true'] at aK
  obtain⟨aI,IX,Ix⟩:=aK
  refine⟨mO.2 ⟨aI,IX⟩,?_⟩
  have d:b.toArray[T]?=some b[T]:=by simp [aI]
  rw [d] at Ix
  simp only [Option.map_some,Option.getD_some,Array.all_eq_true',Bool.or_eq_true,Bool.not_eq_true'] at Ix
  refine⟨b[T],by simp [aI],fun O g e=>?_⟩
  rcases Ix O g with Z | Z
  ·rw [Z] at e;cases e
  ·exact Z
 have IY:∀ c:Array Bool,c.size=b.length→∀ T l,rem b.length c=T :: l→T ∈ Region.ready .any b.toArray c:=by
  intro c aZ T l h
  have aK:T ∈ rem b.length c:=by rw [h];exact List.mem_cons_self
  have t:=mO.1 aK
  have IZ:∀ M,M < T→c.getD M true=true:=by
   intro M D
   cases i:c.getD M true with
   | true=>rfl
   | false=>
    have G:M ∈ rem b.length c:=mO.2 ⟨by omega,i⟩
    have IJ:(rem b.length c).Pairwise (·< ·):=List.Pairwise.sublist List.filter_sublist List.pairwise_lt_range
    rw [h] at IJ G
    rcases List.mem_cons.1 G with rfl | G
    ·omega
    ·have:=(List.pairwise_cons.1 IJ).1 M G
     omega
  simp only [Region.ready,List.size_toArray,List.mem_filter,List.mem_range,Bool.and_eq_true,Bool.not_eq_true']
  refine⟨t.1,t.2,?_⟩
  have d:b.toArray[T]?=some b[T]:=by simp [t.1]
  rw [d]
  simp only [Option.map_some,Option.getD_some,Array.all_eq_true',Bool.or_eq_true,Bool.not_eq_true']
  intro O g
  cases e:Region.binds .any O with
  | false=>exact .inl rfl
  | true=>
   refine .inr ?_
   simp only [oW,List.all_eq_true,List.mem_range] at Iw
   have:=Iw T t.1
   rw [show b[T]?=some b[T] by simp [t.1]] at this
   simp only [List.all_eq_true] at this
   have:=this O (by simpa using g)
   rw [e] at this
   have Iy:O.on < T:=by simpa [Nat.blt_eq] using this
   have aI:=IZ O.on Iy
   rw [Array.getD_eq_getD_getElem?] at aI ⊢
   have Iz:O.on < c.size:=by rw [aZ];omega
   rw [Array.getElem?_eq_getElem Iz] at aI ⊢
   exact aI
 intro n
 induction n with
 | zero=>
  intro c a L aZ IA IB H f
  have IK:rem b.length c=[]:=List.length_eq_zero_iff.1 (by omega)
  have h:Region.ready .any b.toArray c=[]:=by
   cases Iv:Region.ready .any b.toArray c with
   | nil=>rfl
   | cons T l=>
    have:=(II c T (by rw [Iv];exact List.mem_cons_self)).1
    rw [IK] at this
    cases this
  rw [IK] at f
  exact⟨h,IE a L H f⟩
 | succ n bD=>
  intro c a L aZ IA IB H f
  refine⟨fun h=>?_,fun T aK=>?_⟩
  ·cases Iv:rem b.length c with
   | nil=>rw [Iv] at f;exact IE a L H f
   | cons T l=>
    have:=IY c aZ T l Iv
    rw [h] at this
    cases this
  ·obtain⟨IL,s,d,IM⟩:=II c T aK
   obtain⟨B,bO,IN,IP,aI⟩:=zG aZ IL
   rw [IN] at f
   have IQ:=(mO.1 IL).1
   have I0:∀ M ∈ B,free E cJ b.toArray M T:=by
    intro M D
    obtain⟨I1,IC,i⟩:=aI M D
    have j:=IW T IQ M I1
    have m:b[M]?=some b[M]:=by simp [IC]
    unfold x7 at j
    rw [d,m] at j
    simp only [Bool.or_eq_true,Bool.and_eq_true] at j
    have I2:((iY [] b).getD T 0).testBit M ≠ true:=by
     intro e
     have:=zF IA Iw T s d IM M e
     have Iz:M < c.size:=by rw [aZ];exact IC
     rw [Array.getD_eq_getD_getElem?,Array.getElem?_eq_getElem Iz] at this i
     simp at this i
     rw [this] at i
     cases i
    rcases j with j | ⟨I3,I4⟩
    ·exact absurd j I2
    ·exact⟨b[M],s,by simp [IC],by simpa using d,I3,fun cT N=>IH M _ cT N m,fun cT N=>IH T _ cT N d,I4⟩
   have IS:=y9 I0 f
   have ID:b.toArray[T]?=some s:=by simpa using d
   simp only [hF,ID] at IS
   refine v0 ID IS fun v b5 F U=>?_
   refine bD _ _ _ (by simp [aZ]) ?_ ?_ (H.trans F) (by rw [IP];exact U)
   ·intro M I5 m IT O g e
    by_cases IU:M=T
    ·subst IU
     rw [ID] at m
     cases m
     have:=IM O g e
     rw [Array.getD_eq_getD_getElem?,Array.getElem?_setIfInBounds]
     rw [Array.getD_eq_getD_getElem?] at this
     split
     ·rename_i I6
      split <;> simp_all
     ·exact this
    ·have I7:c.getD M false=true:=by
      rw [Array.getD_eq_getD_getElem?,Array.getElem?_setIfInBounds,if_neg (fun O=>IU O.symm),← Array.getD_eq_getD_getElem?] at IT
      exact IT
     have:=IA M I5 m I7 O g e
     rw [Array.getD_eq_getD_getElem?,Array.getElem?_setIfInBounds]
     rw [Array.getD_eq_getD_getElem?] at this
     split
     ·rename_i I6
      split
      ·rfl
      ·rename_i Iy;exact absurd (by rw [aZ];exact IQ) Iy
     ·exact this
   ·rw [IP];rw [IN] at IB;simp at IB ⊢;omega
theorem Dc{cJ:Bool}{b0:Nat}{c:List Oper}(n:oW c=true){A:Act→V→Prop}{b6:Exit→Act→World→Prop}{j6:World}
  (IC:∀ a L,eP j6 L→A a L.heap→b6 .normal a L):∀ (j:Nat) (b:Array Bool) (a:Act) (L:World),b.size=c.length→tN c.toArray b→(rem c.length b).length≤j→eP j6 L→
   o1 P E cJ b0 c.toArray (iY [] c) A (rem c.length b).length (rem c.length b) a L.heap→wpAny P .any c.toArray b6 j b a L:=by
 have I1:=n
 have ID:∀ b:Array Bool,∀ T ∈ Region.ready .any c.toArray b,T ∈ rem c.length b∧∃ s,c[T]?=some s∧∀ O ∈ s.after,Region.binds .any O=true→b.getD O.on false=true:=by
  intro b T aK
  simp only [Region.ready,List.size_toArray,List.mem_filter,List.mem_range,Bool.and_eq_true,Bool.not_eq_true'] at aK
  obtain⟨aI,IP,H⟩:=aK
  refine⟨mO.2 ⟨aI,IP⟩,?_⟩
  have g:c.toArray[T]?=some c[T]:=by simp [aI]
  rw [g] at H
  simp only [Option.map_some,Option.getD_some,Array.all_eq_true',Bool.or_eq_true,Bool.not_eq_true'] at H
  refine⟨c[T],by simp [aI],fun O h d=>?_⟩
  rcases H O h with Z | Z
  ·rw [Z] at d;cases d
  ·exact Z
 have IQ:∀ b:Array Bool,b.size=c.length→∀ T l,rem c.length b=T :: l→T ∈ Region.ready .any c.toArray b:=by
  intro b aZ T l e
  have aK:T ∈ rem c.length b:=by rw [e];exact List.mem_cons_self
  have m:=mO.1 aK
  have IS:∀ M,M < T→b.getD M true=true:=by
   intro M IE
   cases i:b.getD M true with
   | true=>rfl
   | false=>
    have t:M ∈ rem c.length b:=mO.2 ⟨by omega,i⟩
    have IF:(rem c.length b).Pairwise (·< ·):=List.Pairwise.sublist List.filter_sublist List.pairwise_lt_range
    rw [e] at IF t
    rcases List.mem_cons.1 t with rfl | t
    ·omega
    ·have:=(List.pairwise_cons.1 IF).1 M t
     omega
  simp only [Region.ready,List.size_toArray,List.mem_filter,List.mem_range,Bool.and_eq_true,Bool.not_eq_true']
  refine⟨m.1,m.2,?_⟩
  have g:c.toArray[T]?=some c[T]:=by simp [m.1]
  rw [g]
  simp only [Option.map_some,Option.getD_some,Array.all_eq_true',Bool.or_eq_true,Bool.not_eq_true']
  intro O h
  cases d:Region.binds .any O with
  | false=>exact .inl rfl
  | true=>
   refine .inr ?_
   simp only [oW,List.all_eq_true,List.mem_range] at n
   have:=n T m.1
   rw [show c[T]?=some c[T] by simp [m.1]] at this
   simp only [List.all_eq_true] at this
   have:=this O (by simpa using h)
   rw [d] at this
   have Iv:O.on < T:=by simpa [Nat.blt_eq] using this
   have aI:=IS O.on Iv
   rw [Array.getD_eq_getD_getElem?] at aI ⊢
   have Iw:O.on < b.size:=by rw [aZ];omega
   rw [Array.getElem?_eq_getElem Iw] at aI ⊢
   exact aI
 have IT:∀ b:Array Bool,(rem c.length b).Nodup:=fun b=>List.Nodup.sublist List.filter_sublist List.nodup_range
 intro j
 induction j with
 | zero=>
  intro b a L aZ Ix IU D f
  have IG:rem c.length b=[]:=List.length_eq_zero_iff.1 (by omega)
  have e:Region.ready .any c.toArray b=[]:=by
   cases G:Region.ready .any c.toArray b with
   | nil=>rfl
   | cons T l=>
    have:=(ID b T (by rw [G];exact List.mem_cons_self)).1
    rw [IG] at this
    cases this
  rw [IG] at f
  exact⟨e,IC a L D f⟩
 | succ j bD=>
  intro b a L aZ Ix IU D f
  refine⟨fun e=>?_,fun T aK=>?_⟩
  ·cases G:rem c.length b with
   | nil=>rw [G] at f;exact IC a L D f
   | cons T l=>
    have:=IQ b aZ T l G
    rw [e] at this
    cases this
  ·obtain⟨Iy,s,g,IH⟩:=ID b T aK
   obtain⟨B,bO,Iz,II,aI⟩:=zG aZ Iy
   have IV:=(mO.1 Iy).1
   have e:mL (iY [] c) (rem c.length b) T=true:=by
    unfold mL
    rw [List.all_eq_true]
    intro M IE
    have IJ:=mO.1 IE
    cases d:((iY [] c).getD T 0).testBit M with
    | false=>rfl
    | true=>
     have:=zF Ix n T s g IH M d
     have Iw:M < b.size:=by rw [aZ];exact IJ.1
     have i:=IJ.2
     rw [Array.getD_eq_getD_getElem?,Array.getElem?_eq_getElem Iw] at this i
     simp at this i
     rw [this] at i
     cases i
   have IK:del (rem c.length b) T=rem c.length (b.setIfInBounds T true):=by
    have IL:=IT b
    rw [Iz] at IL
    rw [II,Iz,y6 IL]
   have IW:(rem c.length b).length=(rem c.length (b.setIfInBounds T true)).length+1:=by rw [Iz,II];simp;omega
   rw [IW] at f
   have IA:c.toArray[T]?=some s:=by simpa using g
   have IX:=f T s Iy e IA
   refine v0 IA IX fun v b5 F U=>?_
   refine bD _ _ _ (by simp [aZ]) ?_ (by omega) (D.trans F) (by rw [← IK];rw [← IK] at U;exact U)
   intro M IY IB IM O h d
   by_cases IN:M=T
   ·subst IN
    rw [IA] at IB
    cases IB
    have:=IH O h d
    rw [Array.getD_eq_getD_getElem?,Array.getElem?_setIfInBounds]
    rw [Array.getD_eq_getD_getElem?] at this
    split
    ·rename_i IZ
     split <;> simp_all
    ·exact this
   ·have I0:b.getD M false=true:=by
     rw [Array.getD_eq_getD_getElem?,Array.getElem?_setIfInBounds,if_neg (fun O=>IN O.symm),← Array.getD_eq_getD_getElem?] at IM
     exact IM
    have:=Ix M IY IB I0 O h d
    rw [Array.getD_eq_getD_getElem?,Array.getElem?_setIfInBounds]
    rw [Array.getD_eq_getD_getElem?] at this
    split
    ·rename_i IZ
     split
     ·rfl
     ·rename_i Iv;exact absurd (by rw [aZ];exact IV) Iv
    ·exact this
theorem Dd(t:g3 P E){id n:Nat}{d:Array Oper}{h:Bool}(g:vM E n d h=true){X:Fr}{a:Act}{L:World}(H:fI n X a){A:Fr→V→Prop}
  (i:bif rO E h d.toList then mM P E L.heap.size d.toList (iY [] d.toList) d.toList.length (List.range d.toList.length) X L.heap A
   else hL P E (oY E h d.toList) L.heap.size d.toList d.toList X L.heap A) {b6:Exit→Act→World→Prop} (Iv:∀ b c b5,fI n b c→eP L b5→A b b5.heap→b6 .normal c b5) :
  (Code.region id d h).wp P b6 a L:=by
 obtain⟨l⟩:=d
 simp only [vM,Bool.and_eq_true] at g
 obtain⟨Iz,g⟩:=g
 have Iw:l.all (o0 n)=true:=Iz
 cases h with
 | false=>
  have IA:hL P E (oY E false l) L.heap.size l l X L.heap A:=i
  have Ix:=vZ t (U:=0) (fun M=>by simp) Iw H IA
  refine wp_region ?_
  have IB:∀ (j:List Nat) (a:Act) (f:World),eP L f→hF P E (oY E false l) L.heap.size l.toArray (fun c K=>∃ b,fI n b c∧A b K) j a f.heap→wpOps P l.toArray b6 j a f:=by
   intro j
   induction j with
   | nil=>intro a f F ⟨b,C,U⟩;exact Iv b a f C F U
   | cons T j bD=>
    intro a f F U
    rw [wpOps_cons]
    simp only [hF] at U
    cases D:l.toArray[T]? with
    | none=>simp only [D] at U;unfold wpOp;simp only [D];exact bD a f F U
    | some s=>simp only [D] at U;exact v0 D U fun v b5 IC cD=>bD _ b5 (F.trans IC) cD
  rw [List.range_eq_range']
  exact IB _ a L (eP.refl L) (by simpa using Ix)
 | true=>
  simp only [Bool.not_true,Bool.false_or,Bool.and_eq_true] at g
  have Iy:eP L { L with drawn:=L.drawn+1 }:=⟨rfl,rfl,rfl⟩
  refine wp_region_any t.mixed ?_
  have G:rem l.length (Array.replicate l.length false)=List.range' 0 l.length:=by
   unfold rem
   rw [List.range_eq_range',List.filter_eq_self]
   intro M ID
   rw [Array.getD_eq_getD_getElem?,Array.getElem?_replicate]
   have:M < l.length:=by simpa [List.mem_range'_1] using ID
   simp [this]
  have IE:tN l.toArray (Array.replicate l.toArray.size false):=by
   intro T s _ e
   rw [Array.getD_eq_getD_getElem?,Array.getElem?_replicate] at e
   simp only [List.size_toArray] at e
   split at e <;> simp at e
  cases m:rO E true l with
  | true=>
   rw [show({ toList:=l }:Array Oper).toList=l from rfl,m,cond_true] at i
   have IF:=Da t Iw (by simpa using g.1) (by simp) List.nodup_range H i
   refine Dc (E:=E) (cJ:=true) (b0:=L.heap.size) g.2 (A:=fun c K=>∃ b,fI n b c∧A b K) (j6:=L) ?_ _ _ _ _ (by simp) IE ?_ Iy ?_
   ·rintro c b5 F ⟨b,C,U⟩
    exact Iv b c b5 C F U
   ·simp only [List.size_toArray];rw [G];simp
   ·simp only [List.size_toArray];rw [G,← List.range_eq_range',List.length_range];exact IF
  | false=>
  rw [show({ toList:=l }:Array Oper).toList=l from rfl,m,cond_false] at i
  have Ix:=vZ t (U:=0) (fun M=>by simp) Iw H i
  have IG:oX E (oY E true l) l=true:=by
   unfold rO at m
   unfold oY
   cases aI:oX E false l with
   | true=>simp [aI]
   | false=>simp [aI] at m ⊢;exact m
  refine Db (cJ:=oY E true l) (b0:=L.heap.size) IG (A:=fun c K=>∃ b,fI n b c∧A b K) (j6:=L) ?_ _ _ _ _ (by simp) ?_ ?_ Iy ?_
  ·rintro c b5 F ⟨b,C,U⟩
   exact Iv b c b5 C F U
  ·intro T s _ e
   rw [Array.getD_eq_getD_getElem?,Array.getElem?_replicate] at e
   simp only [List.size_toArray] at e
   split at e <;> simp at e
  ·simp only [List.size_toArray];rw [G];simp
  ·simp only [List.size_toArray];rw [G];exact Ix
def aM.up:aM→Exit
 | .normal=>.normal
 | .exit id=>.exit id
 | .ret=>.ret
theorem De(Ix:g3 P E){n:Nat}:∀ {c:Code} {b6:aM→Fr→V→Prop} {X:Fr} {a:Act} {L:World} {i:Exit→Act→World→Prop},k7 E n c=true→fI n X a→den P E c b6 X L.heap→
  (∀ O g h b5,fI n g h→eP L b5→b6 O g b5.heap→i O.up h b5)→c.wp P i a L:=by
 intro c
 induction c with
 | skip=>intro b6 X a L i f e b d;exact wp_skip (d .normal X a L e (eP.refl L) b)
 | label l=>intro b6 X a L i f e b d;exact wp_label (d .normal X a L e (eP.refl L) b)
 | ret=>intro b6 X a L i f e b d;exact wp_ret (d .ret X a L e (eP.refl L) b)
 | exit id=>intro b6 X a L i f e b d;exact wp_exit (d (.exit id) X a L e (eP.refl L) b)
 | region id IH II=>
  intro b6 X a L i f e b d
  exact Dd Ix f e b fun g h b5 C F U=>d .normal g h b5 C F U
 | seq Q k D G=>
  intro b6 X a L i f e b d
  simp only [k7,Bool.and_eq_true] at f
  refine wp_seq (D f.1 e b fun O g h b5 C F U=>?_)
  cases O with
  | normal=>exact G f.2 C U fun Iy Iz IA j IB s2 IC=>d Iy Iz IA j IB (F.trans s2) IC
  | exit id=>exact d (.exit id) g h b5 C F U
  | ret=>exact d .ret g h b5 C F U
 | cond c Q k D G=>
  intro b6 X a L i f e b d
  simp only [k7,Bool.and_eq_true] at f
  simp only [den] at b
  split at b
  ·rename_i t H
   have ID:a.eval c=.bool t:=by rw [e.cI];exact H
   refine wp_cond ID ?_
   cases t with
   | true=>simp only [cond_true,x1 H] at b;exact D f.1 e b d
   | false=>simp only [cond_false,x1 H] at b;exact G f.2 e b d
  ·cases b
 | block id c bD=>
  intro b6 X a L i f e b d
  refine wp_block (bD f e b fun O g h b5 C F U=>?_)
  cases O with
  | normal=>exact d .normal g h b5 C F U
  | ret=>exact d .ret g h b5 C F U
  | exit Iw=>
   simp only [aM.inBlock] at U
   simp only [aM.up,Exit.inBlock]
   cases v:Nat.beq Iw id with
   | true=>
    simp only [v,cond_true] at U
    rw [if_pos (Nat.eq_of_beq_eq_true v)]
    exact d .normal g h b5 C F U
   | false=>
    simp only [v,cond_false] at U
    rw [if_neg (fun O=>by subst O;simp at v)]
    exact d (.exit Iw) g h b5 C F U
 | scope c bD=>
  intro b6 X a L i f e b d
  refine wp_scope_straight (bD f e b fun O g h b5 C F U=>?_)
  cases O <;> exact d _ g h b5 C F U
 | loop c bD=>
  intro b6 X a L i f e b d
  obtain⟨m,b⟩:=b
  refine wp_loop_rounds m ?_
  have IE:∀ m X a j,fI n X a→eP L j→iter (fun IF=>den P E c (aM.then IF b6)) m X j.heap→Code.rounds P c i m a j:=by
   intro m
   induction m with
   | zero=>intro X a j _ _ Z;exact Z.elim
   | succ m IG=>
    intro X a j e F Z
    rw [rounds_succ]
    refine bD f e Z fun O g h b5 C Iv U=>?_
    cases O with
    | normal=>exact IG g h b5 C (F.trans Iv) U
    | exit id=>exact d (.exit id) g h b5 C (F.trans Iv) U
    | ret=>exact d .ret g h b5 C (F.trans Iv) U
  exact IE m X a L e (eP.refl L) b
 | _=>intro b6 X a L i f e b d;exact b.elim
theorem Df(args:List Value)(n:Nat)(b:args.length≤n):fI n (tE args) { tmps:=args.toArray ++ Array.replicate (n - args.length) undef,defers:=[] }:=by
 refine⟨by simp;omega,rfl,fun t=>?_⟩
 unfold tE
 rw [Array.getD_eq_getD_getElem?]
 by_cases Z:t < args.length
 ·rw [Array.getElem?_append_left (by simpa using Z)]
  simp [Z]
 ·rw [Array.getElem?_append_right (by simpa using Z)]
  have a:args[t]?=none:=by simp;omega
  rw [a]
  simp only [List.size_toArray]
  rw [Array.getElem?_replicate]
  split <;> rfl
def tO(tmps:Array Value):ResultVar→Sem Value
 | .tmp t=>pure (tmps.getD t undef)
 | .cell a t=>do loadVar t (← asAddr (tmps.getD a undef))
theorem v5(c:g3 P E){n:Nat}{X:Fr}{a:Act}(b:fI n X a){L:World}:∀ {l:List ResultVar} {A:List Value→Prop},oZ E X L.heap l A→∃ bN,A bN∧(l.mapM (tO a.tmps)).run P L=Result.ok bN L
 | [],A,Z=>⟨[],Z,rfl⟩
 | .tmp t :: l,A,Z=>by
  obtain⟨bN,aI,d⟩:=v5 c b (l:=l) Z
  refine⟨_,aI,?_⟩
  rw [List.mapM_cons]
  simp only [tO,Sem.run_bind,Sem.run_pure,Result.andThen,d,b.get t]
 | .cell Q t :: l,A,Z=>by
  simp only [oZ] at Z
  split at Z
  ·rename_i x T f g
   obtain⟨v,aI,d⟩:=yN (P:=P) c g Z
   obtain⟨bN,h,i⟩:=v5 c b (l:=l) aI
   refine⟨_,h,?_⟩
   have e:=d L rfl
   simp only [Instr.loadAt,Instr.sureAddr,pure_bind] at e
   rw [List.mapM_cons]
   simp only [tO,Sem.run_bind,Sem.run_pure,Result.andThen,i,b.get Q,f,asAddr,e]
  ·cases Z
theorem Dg(e:g3 P E){a3:FuncId}{fn:Func}{c:Code}{c3:List ResultVar}(f:P.funcs[a3]?=some fn)(g:fn.body=some c)(h:k7 E fn.ntmps c=true)(i:fn.results.toList=c3)
  {args:List Value} (j:args.length≤fn.ntmps) {Z:V} {Y:Value→V→Prop}
  (l:den P E c (fun O X K=>match O with | .exit _=>False | _=>oZ E X K c3 fun bN=>Y (tF bN) K) (tE args) Z):lS P a3 args.toArray Z Y:=by
 intro L m
 subst m
 refine calls_of_wp f g ?_
 have n:=Df args fn.ntmps j
 have D:fn.ntmps - args.toArray.size=fn.ntmps - args.length:=by simp
 rw [D]
 refine De e h n l fun O G d b5 C F U=>?_
 have b:(oZ E G b5.heap c3 fun bN=>Y (tF bN) b5.heap)→∃ v,(results fn d.tmps).run P b5=.ok v b5∧Y v b5.heap:=by
  intro U
  obtain⟨bN,aI,a⟩:=v5 e C U
  refine⟨_,?_,aI⟩
  have b:results fn d.tmps=(fn.results.mapM (tO d.tmps) >>= fun bN=>pure (if Z:bN.size=1 then bN[0] else .tuple bN)):=rfl
  rw [b,Sem.run_bind,Array.mapM_eq_mapM_toList,Sem.run_map,i,a]
  simp only [Result.andThen,Sem.run_pure]
  congr 1
  match bN with
  | []=>rfl
  | [t]=>rfl
  | t :: H :: iE=>simp [tF]
 cases O with
 | normal=>obtain⟨v,aI,a⟩:=b U;exact⟨C.defers,v,aI,v,rfl,F,a⟩
 | ret=>obtain⟨v,aI,a⟩:=b U;exact⟨C.defers,v,aI,v,rfl,F,a⟩
 | exit id=>exact U.elim
end
set_option linter.unusedSimpArgs false
theorem o2{n:Int}{A a:Int→Prop}(b:∀ n,A n→a n)(Z:aN n A):aN n a:=⟨b _ Z.out⟩
theorem Dh{op:BinOp}{U:IntKind}{a N:Int}{A c:Value→Prop}(b:∀ v,A v→c v)(Z:s9 op U a N A):s9 op U a N c:=by
 cases op <;> first
  | exact b _ Z
  | exact o2 (fun n=>b _) Z
  | exact⟨Z.1,o2 (fun n=>b _) Z.2⟩
  | exact Z
theorem Di{E:Env}{op:BinOp}{t:TypeId}{Q k:Value}{A c:Value→Prop}(b:∀ v,A v→c v)(Z:p5 E op t Q k A):p5 E op t Q k c:=by
 unfold p5 at *
 split at Z
 ·rename_i U a cD N
  split at Z
  ·exact⟨Z.1,o2 (fun n=>b _) Z.2⟩
  ·exact⟨Z.1,o2 (fun n=>b _) Z.2⟩
  ·cases O:m7 U cD with
   | false=>rw [O] at Z;cases Z
   | true=>rw [O] at Z;exact Dh b Z
 ·split at Z
  ·exact⟨Z.1,b _ Z.2⟩
  ·exact b _ Z
  ·exact b _ Z
  ·cases Z
 ·split at Z
  ·split at Z
   ·exact b _ Z
   ·exact b _ Z
   ·cases Z
  ·cases Z
 ·split at Z
  ·split at Z
   ·exact b _ Z
   ·exact b _ Z
   ·cases Z
  ·cases Z
 ·cases Z
theorem Dj{op:UnOp}{Q:Value}{A b:Value→Prop}(a:∀ v,A v→b v)(Z:p6 op Q A):p6 op Q b:=by
 unfold p6 at *
 split at Z
 ·exact o2 (fun n=>a _) Z
 ·exact o2 (fun n=>a _) Z
 ·exact a _ Z
 ·cases Z
theorem Dk{eT:IntKind}{v:Value}{A a:Int→Prop}(b:∀ n,A n→a n)(Z:aC eT v A):aC eT v a:=by
 obtain⟨m,O,g⟩:=bC Z
 subst O
 have this:∀ M:IntKind,m7 M M=true:=fun M=>by cases M <;> rfl
 simp only [aC,this,cond_true]
 exact b _ g
theorem tP{U:fY}{v:Value}{A d:Value→Prop}(b:∀ v,A v→d v)(Z:oQ U v A):oQ U v d:=by
 cases U with
 | int U=>exact Dk (fun n=>b _) Z
 | bool=>obtain⟨n,O,g⟩:=g4 (show eL v _ from Z);subst O;exact b _ g
 | str=>obtain⟨n,O,g⟩:=yC (show s7 v _ from Z);subst O;exact b _ g
 | slice=>obtain⟨a,l,c,O,g⟩:=bT (show aE v _ from Z);subst O;exact b _ g
 | ptr=>obtain⟨n,O,g⟩:=yD (show s8 v _ from Z);subst O;exact b _ g
theorem zH:∀ {b:List fY} {l:List Value} {A a:List Value→Prop},(∀ v,A v→a v)→rI b l A→rI b l a
 | [],l,A,a,c,Z=>by obtain⟨O,g⟩:=gM Z;subst O;exact c _ g
 | U :: b,l,A,a,c,Z=>by
  obtain⟨v,bN,O,g⟩:=eI Z
  subst O
  exact tP (fun e d=>zH (fun f=>c _) d) g
theorem zI{T:c2}{v:Value}{A a:Value→Prop}(b:∀ v,A v→a v)(Z:oR T v A):oR T v a:=by
 unfold oR at *
 split at Z
 ·obtain⟨cT,O,g⟩:=vR Z
  subst O
  rename_i O
  exact zH (fun bN=>b _) g
 ·split at Z
  ·rename_i c U O
   exact tP b Z
  ·cases Z
theorem zJ{E:Env}:∀ {iE:List TypeId} {l:List Value} {A a:List Value→Prop},(∀ v,A v→a v)→p4 E iE l A→p4 E iE l a
 | [],l,A,a,b,Z=>by obtain⟨O,g⟩:=gM Z;subst O;exact b _ g
 | t :: iE,l,A,a,b,Z=>by
  obtain⟨v,bN,O,g⟩:=eI Z
  subst O
  unfold p4 cL
  simp only
  split at g
  ·rename_i T O
   exact zI (fun d c=>zJ (fun e=>b _) c) g
  ·cases g
theorem zK{E:Env}{t:TypeId}{v:Value}{A b:Value→Prop}(a:∀ v,A v→b v)(Z:oS E t v A):oS E t v b:=by
 unfold oS at *
 split at Z
 ·rename_i T O
  split at Z
  ·rename_i iE c
   obtain⟨cT,O,g⟩:=yF Z
   subst O
   exact zJ (fun bN=>a _) g
  ·rename_i d
   exact zI a Z
 ·exact a _ Z
theorem zL{a:R}{l:Nat}{T:Int}{gS:Nat}{A b:Addr→Prop}(c:∀ x,A x→b x)(Z:cC a l T gS A):cC a l T gS b:=by
 obtain⟨o,Z⟩:=Z
 refine⟨o,?_⟩
 cases a with
 | none=>exact Z
 | some y=>exact c _ Z
theorem Dl{F:ByteArray}{T:Int}{A a:Int→Prop}(b:∀ x,A x→a x)(Z:rJ F T A):rJ F T a:=by
 obtain⟨o,Z⟩:=Z
 refine⟨o,?_⟩
 split at Z
 ·rename_i O;exact b _ Z
 ·cases Z
theorem zM{Z:V}{x:Addr}{A b:Value→Prop}(c:∀ v,A v→b v)(a:gI Z x A):gI Z x b:=by
 unfold gI at *
 split at a
 ·rename_i O;exact c _ a
 ·cases a
theorem zN{Z:V}{x:Addr}:∀ {a:List fY} {T:Nat} {A b:List Value→Prop},(∀ v,A v→b v)→p7 Z x T a A→p7 Z x T a b
 | [],T,A,b,c,d=>c _ d
 | U :: a,T,A,b,c,d=>zM (fun v g=>tP (fun a a=>zN (fun bN=>c _) a) g) d
theorem Dm{T:c2}{Z:V}{x:Addr}{A b:Value→Prop}(c:∀ v,A v→b v)(a:p8 T Z x A):p8 T Z x b:=by
 obtain⟨c6,eM,N⟩:=T
 cases c6 with
 | struct dV=>exact zN (fun bN=>c _) a
 | tuple iE=>exact a
 | _=>
  match eM,a with
  | [U],a=>exact zM (fun v g=>tP c g) a
theorem rV{v:Option Value}{aB k:Nat}{A a:Nat→Prop}(b:∀ n,A n→a n)(Z:mI v aB k A):mI v aB k a:=by
 unfold mI at *
 split at Z
 ·exact b _ Z
 ·exact⟨Z.1,b _ Z.2⟩
 ·cases Z
theorem Dn{gS:Nat}{a:R}{l c:Nat}{a6 aK b:Option Value}{A d:R→Nat→Nat→Prop}(e:∀ a l c,A a l c→d a l c)(Z:gT gS a l c a6 aK b A):gT gS a l c a6 aK b d:=by
 unfold gT at *
 split at Z
 ·cases Z
 ·rename_i i
  exact rV (fun m g=>rV (fun K f=>rV (fun l h=>e _ _ _ h) f) g) Z
theorem Dp{F:ByteArray}{a6 aK:Option Value}{A a:ByteArray→Prop}(b:∀ F,A F→a F)(Z:rK F a6 aK A):rK F a6 aK a:=
 rV (fun K a=>rV (fun l c=>b _ c) a) Z
theorem zO:∀ {rest:List Value} {Q:Value} {A b:Value→Prop},(∀ v,A v→b v)→kO Q rest A→kO Q rest b
 | [],Q,A,b,c,Z=>by unfold kO at *;exact c _ Z
 | k :: rest,Q,A,b,c,Z=>by
  cases Q with
  | int U a=>
   cases k with
   | int cD N=>unfold kO at *;exact zO c Z
   | _=>simp [kO] at Z
  | _=>cases k <;> simp [kO] at Z
theorem zP:∀ {rest:List Value} {Q:Value} {A b:Value→Prop},(∀ v,A v→b v)→kP Q rest A→kP Q rest b
 | [],Q,A,b,c,Z=>by unfold kP at *;exact c _ Z
 | k :: rest,Q,A,b,c,Z=>by
  cases Q with
  | int U a=>
   cases k with
   | int cD N=>unfold kP at *;exact zP c Z
   | _=>simp [kP] at Z
  | _=>cases k <;> simp [kP] at Z
theorem Dq{E:Env}{t:TypeId}{v:Value}{A a:Value→Prop}(b:∀ v,A v→a v)(Z:rL E t v A):rL E t v a:=by
 unfold rL at *
 split at Z
 ·rename_i O;exact b _ Z
 ·rename_i O;exact b _ Z
 ·cases Z
theorem Dr{E:Env}{c:Call}{X:Fr}{A b:Value→Prop}(a:∀ v,A v→b v)(Z:qA E c X A):qA E c X b:=by
 obtain⟨e,args,nS⟩:=c
 unfold qA at *
 simp only at *
 split at Z
 ·split at Z
  ·rename_i f d;exact Dq a Z
  ·cases Z
 ·split at Z
  ·rename_i O;exact zO a Z
  ·cases Z
 ·split at Z
  ·rename_i O;exact zP a Z
  ·cases Z
 ·split at Z
  ·rename_i O
   split at Z
   ·rename_i d;exact⟨Z.1,a _ Z.2⟩
   ·cases Z
  ·rename_i O
   split at Z
   ·rename_i d;exact⟨Z.1,a _ Z.2⟩
   ·cases Z
  ·cases Z
 ·cases Z
theorem v7{E:Env}{op:Op}{X:Fr}{Z:V}{A i:Value→Prop}(d:∀ v,A v→i v)(b:gJ E op X Z A):gJ E op X Z i:=by
 cases op with
 | move Q=>exact d _ b
 | assign Q=>exact d _ b
 | pick c a N=>
  simp only [gJ] at *
  split at b
  ·rename_i t O
   cases t <;> exact d _ b
  ·cases b
 | load t a=>
  simp only [gJ] at *
  split at b
  ·rename_i e f;exact Dm d b
  ·cases b
 | binOp op t Q k D=>exact Di d b
 | unOp op t Q=>exact Dj d b
 | convert F aB Q=>
  simp only [gJ] at *
  split at b
  ·rename_i e f g;exact o2 (fun n=>d _) b
  ·cases b
 | indexAddr t Q T=>
  simp only [gJ] at *
  split at b
  ·rename_i e f g
   split at b
   ·rename_i h;exact zL (fun x=>d _) b
   ·cases b
  ·split at b
   ·split at b
    ·exact zL (fun x=>d _) b
    ·cases b
   ·cases b
  ·cases b
 | index t Q T=>
  simp only [gJ] at *
  split at b
  ·rename_i e f g;exact Dl (fun x=>d _) b
  ·cases b
 | extract Q T=>
  simp only [gJ] at *
  split at b
  ·rename_i e
   split at b
   ·rename_i f;exact d _ b
   ·cases b
  ·cases b
 | fieldAddr F Q a3=>
  simp only [gJ] at *
  split at b
  ·rename_i e f
   split at b
   ·rename_i g
    split at b
    ·rename_i T h
     cases j:Nat.beq T.leaves.length 0 with
     | true=>rw [j] at b;cases b
     | false=>rw [j] at b;exact d _ b
    ·cases b
   ·cases b
  ·cases b
 | field t Q a3=>
  simp only [gJ] at *
  split at b
  ·rename_i e f
   split at b
   ·rename_i g
    split at b
    ·rename_i h;exact d _ b
    ·cases b
    ·rename_i T G H h
     split at b
     ·rename_i P
      exact d _ b
     ·cases b
    ·cases b
   ·cases b
  ·cases b
 | build t Iv=>
  simp only [gJ] at *
  split at b
  ·rename_i dV eM N e
   cases m:(!dV.isEmpty && oT E dV) with
   | false=>rw [m] at b;cases b
   | true=>
    rw [m] at b
    simp only [cond_true] at *
    split at b
    ·rename_i f;exact d _ b
    ·cases b
  ·cases b
 | nilCheck Q=>
  simp only [gJ] at *
  split at b
  ·rename_i e;exact d _ b
  ·cases b
 | slice t Q a6 aK Iw=>
  simp only [gJ] at *
  split at b
  ·rename_i e f
   split at b
   ·rename_i g;exact Dn (fun a l c=>d _) b
   ·cases b
  ·rename_i e f
   split at b
   ·exact Dp (fun F=>d _) b
   ·cases b
  ·cases b
 | call c=>exact Dr d b
 | _=>exact b
theorem zQ{x:Addr}:∀ {l:List Value} {T:Nat} {Z:V} {A b:V→Prop},(∀ Z,A Z→b Z)→oU Z x T l A→oU Z x T l b
 | [],T,Z,A,b,c,a=>c _ a
 | v :: bN,T,Z,A,b,c,a=>by
  unfold oU at *
  cases d:kQ v with
  | false=>rw [d] at a;cases a
  | true=>rw [d] at a;exact⟨a.1,zQ c a.2⟩
theorem Ds{T:c2}{Z:V}{x:Addr}{v:Value}{A c:V→Prop}(d:∀ Z,A Z→c Z)(a:qB T Z x v A):qB T Z x v c:=by
 cases v with
 | agg cT=>
  unfold qB at *
  cases b:Nat.beq cT.toList.length T.leaves.length with
  | false=>simp only [b] at a;cases a
  | true=>simp only [b] at *;exact zQ d a
 | tuple cT=>exact a
 | _=>
  unfold qB at *
  cases b:Nat.beq 1 T.leaves.length with
  | false=>simp only [b] at a;cases a
  | true=>simp only [b] at *;exact⟨a.1,d _ a.2⟩
theorem Dt{Z:V}{O:TypeId}{T:c2}{a:R}{l c:Nat}{Q:Value}{A e:R→Nat→Nat→V→Prop}(b:∀ a l c Z,A a l c Z→e a l c Z)(f:g2 Z O T a l c Q A):g2 Z O T a l c Q e:=by
 obtain⟨n,cT,aI,g,h,i⟩:=f
 refine⟨n,cT,aI,g,fun d=>?_,fun d=>?_⟩
 ·have:=h d
  cases a with
  | none=>exact b _ _ _ _ this
  | some y=>exact⟨this.1,b _ _ _ _ this.2⟩
 ·obtain⟨j,m,t,v,D,E⟩:=i d
  exact⟨j,m,t,v,D,fun G H=>b _ _ _ _ (E G H)⟩
theorem Du{Z:V}{gS:Nat}{a:R}{l:Nat}{Q:Value}{A c:Int→V→Prop}(d:∀ n Z,A n Z→c n Z)(e:kR Z gS a l Q A):kR Z gS a l Q c:=by
 obtain⟨n,cT,aI,f,b⟩:=e
 refine⟨n,cT,aI,f,?_⟩
 cases a with
 | none=>exact d _ _ b
 | some y=>exact⟨b.1,d _ _ b.2⟩
theorem Dv{Z:V}{T:c2}{a:R}{l:Nat}{A d:V→Prop}(c:∀ Z,A Z→d Z)(b:tB Z T a l A):tB Z T a l d:=by
 cases a with
 | none=>exact c _ b
 | some y=>
  cases l with
  | zero=>exact c _ b
  | succ l=>exact⟨b.1,c _ b.2⟩
theorem Dw{Z:V}{x:Addr}{b d:Int→Int→V→Prop}{e f:Prop}(aI:∀ T c Z,b T c Z→d T c Z)(o:e→f)(g:tC Z x b e):tC Z x d f:=by
 obtain⟨a,F,h,N,c,aB⟩:=g
 exact⟨a,F,h,N,fun O=>aI _ _ _ (c O),fun O=>o (aB O)⟩
theorem Dx{Z:V}{a:R}{l:Nat}{A b:ByteArray→Prop}(c:∀ F,A F→b F)(d:tD Z a l A):tD Z a l b:=by
 cases a with
 | none=>exact c _ d
 | some y=>obtain⟨e,aI,f,g⟩:=d;exact⟨e,aI,f,c _ g⟩
theorem v8{P:Program}{E:Env}{op:Op}{jG:TypeId}{X:Fr}{Z:V}{A m:Value→V→Prop}(d:∀ v Z,A v Z→m v Z)(b:hE P E op jG X Z A):hE P E op jG X Z m:=by
 cases op with
 | range t Q=>
  simp only [hE] at *
  split at b
  ·exact d _ _ b
  ·cases b
 | next Q N=>
  cases N with
  | false=>exact b
  | true=>
   simp only [hE,cond_true] at *
   split at b
   ·exact Dw (fun _ _ _=>d _ _) (d _ _) b
   ·cases b
 | convert F aB Q=>
  simp only [hE] at *
  split at b
  ·split at b
   ·exact Dx (fun _=>d _ _) b
   ·cases b
  ·cases b
 | store t Q v=>
  simp only [hE] at *
  split at b
  ·rename_i e h;exact Ds (fun Z=>d _ _) b
  ·cases b
 | box O v=>exact d _ _ b
 | alloc O=>
  simp only [hE] at *
  split at b
  ·cases b
  ·rename_i T f e
   exact d _ _ b
  ·cases b
 | makeSlice t l c=>
  simp only [hE] at *
  split at b
  ·rename_i e h j
   split at b
   ·cases b
   ·rename_i T f i
    exact⟨b.1,d _ _ b.2⟩
   ·cases b
  ·cases b
 | buildSlice t n Iv=>
  simp only [hE] at *
  split at b
  ·rename_i e
   split at b
   ·cases b
   ·rename_i T f i
    cases D:Nat.ble (n*T.leaves.length) 16777216 with
    | false=>rw [D] at b;cases b
    | true=>
     rw [D] at b
     simp only [cond_true] at *
     split at b
     ·exact d _ _ b
     ·cases b
   ·cases b
  ·cases b
 | call c=>
  obtain⟨Iw,args,nS⟩:=c
  simp only [hE] at *
  split at b
  ·split at b
   ·rename_i F Q t H e h
    cases aZ:qC E H with
    | false=>rw [aZ] at b;cases b
    | true=>
     rw [aZ] at b
     simp only [cond_true] at *
     split at b
     ·rename_i j i
      split at b
      ·cases b
      ·rename_i T f G
       exact Dt (fun a l c Z=>d _ _) b
      ·cases b
     ·cases b
   ·cases b
  ·split at b
   ·rename_i e h
    split at b
    ·rename_i j i
     split at b
     ·cases b
     ·rename_i T f G
      exact Du (fun n Z=>d _ _) b
     ·cases b
    ·cases b
   ·cases b
  ·split at b
   ·rename_i e h
    split at b
    ·rename_i j i
     split at b
     ·cases b
     ·rename_i T f G
      exact Dv (fun Z=>d _ _) b
     ·cases b
    ·cases b
   ·cases b
  ·split at b
   ·rename_i e;exact lS.mono b fun v K g=>zK (fun Ix=>d _ _) g
   ·cases b
  ·cases b
 | _=>exact b
theorem Dy{P:Program}{E:Env}{op:Op}{jG:TypeId}{X:Fr}{Z:V}{A b:Value→Prop}(d:∀ v,A v→b v)(a:oV P E op jG X Z A):oV P E op jG X Z b:=by
 cases op with
 | call c=>
  simp only [oV] at *
  split at a
  ·obtain⟨v,aI,e⟩:=a
   exact⟨v,aI,zK d e⟩
  ·cases a
 | _=>exact a
theorem zR{P:Program}{E:Env}{cJ:Bool}{b0:Nat}{s:Oper}{X:Fr}{Z:V}{A d:Value→V→Prop}(b:∀ v Z,A v Z→d v Z)(a:mJ P E cJ b0 s X Z A):mJ P E cJ b0 s X Z d:=by
 unfold mJ at *
 cases c:e1 E s.op with
 | pure=>simp only [c] at *;exact v7 (fun v=>b v _) a
 | load=>
  simp only [c] at *
  cases cJ with
  | false=>exact v7 (fun v=>b v _) a
  | true=>
   simp only [cond_true] at *
   split at a
   ·exact⟨a.1,v7 (fun v=>b v _) a.2⟩
   ·cases a
 | quiet=>simp only [c] at *;exact Dy (fun v=>b v _) a
 | call=>
  simp only [c] at *
  cases cJ with
  | false=>simp only [cond_false] at *;exact v8 b a
  | true=>simp only [cond_true] at *;exact v8 (fun v K U=>⟨U.1,b _ _ U.2⟩) a
 | act=>simp only [c] at *;exact v8 b a
theorem qJ{P:Program}{E:Env}{cJ:Bool}{b0:Nat}{c7:List Oper}:∀ {l:List Oper} {X:Fr} {Z:V} {A c:Fr→V→Prop},(∀ X Z,A X Z→c X Z)→hL P E cJ b0 c7 l X Z A→hL P E cJ b0 c7 l X Z c
 | [],X,Z,A,c,b,a=>b _ _ a
 | s :: rest,X,Z,A,c,b,a=>by
  unfold hL at *
  split at a
  ·rename_i O;exact zR (fun v K=>qJ b) a
  ·rename_i M d O
   split at a
   ·cases a
   ·rename_i t e
    split at a
    ·rename_i N f
     cases N <;> cases d <;> simp only [cond_true,cond_false] at*<;> first
      | exact qJ b a
      | exact zR (fun v K=>qJ b) a
    ·exact qJ b a
    ·cases a
theorem zS{P:Program}{E:Env}{b0:Nat}{c7:List Oper}{T:Nat}{X:Fr}{Z:V}{A b:Fr→V→Prop}(c:∀ X Z,A X Z→b X Z)(a:nR P E b0 c7 T X Z A):nR P E b0 c7 T X Z b:=by
 unfold nR at *
 split at a
 ·exact qJ c a
 ·cases a
theorem zT{a3 g:Nat→Prop}(a:∀ T,a3 T→g T):∀ {l:List Nat},rP a3 l→rP g l
 | [],_=>trivial
 | [T],Z=>a T Z
 | T :: M :: l,Z=>⟨a T Z.1,zT a Z.2⟩
theorem v9{P:Program}{E:Env}{b0:Nat}{c7:List Oper}{c:List Nat}{A d:Fr→V→Prop}(b:∀ X Z,A X Z→d X Z):∀ {n:Nat} {dR:List Nat} {X:Fr} {Z:V},mM P E b0 c7 c n dR X Z A→mM P E b0 c7 c n dR X Z d
 | 0,_,X,Z,a=>b _ _ a
 | n+1,dR,X,Z,a=>by
  unfold mM at *
  split at a
  ·rename_i O;exact zS (fun X Z=>v9 b) a
  ·rename_i O;exact zT (fun T g=>zS (fun X Z=>v9 b) g) a
theorem tQ{P:Program}{E:Env}:∀ {c:Code} {b6 d:aM→Fr→V→Prop} {X:Fr} {Z:V},(∀ O X Z,b6 O X Z→d O X Z)→den P E c b6 X Z→den P E c d X Z:=by
 intro c
 induction c with
 | skip=>intro b6 d X Z b a;exact b _ _ _ a
 | label l=>intro b6 d X Z b a;exact b _ _ _ a
 | ret=>intro b6 d X Z b a;exact b _ _ _ a
 | exit id=>intro b6 d X Z b a;exact b _ _ _ a
 | region id D G=>
  intro b6 d X Z b a
  simp only [den] at *
  cases j:rO E G D.toList with
  | true=>rw [j] at a;simp only [cond_true] at a ⊢;exact v9 (b _) a
  | false=>rw [j] at a;simp only [cond_false] at a ⊢;exact qJ (b _) a
 | seq Q k e f=>
  intro b6 d X Z b a
  refine e (fun O m K g=>?_) a
  cases O with
  | normal=>exact f b g
  | exit id=>exact b _ _ _ g
  | ret=>exact b _ _ _ g
 | cond c Q k e f=>
  intro b6 d X Z b a
  simp only [den] at *
  split at a
  ·rename_i t O
   cases t with
   | true=>exact e b a
   | false=>exact f b a
  ·cases a
 | block id c bD=>
  intro b6 d X Z b a
  refine bD (fun O m K g=>?_) a
  cases O with
  | normal=>exact b _ _ _ g
  | ret=>exact b _ _ _ g
  | exit H=>
   simp only [aM.inBlock] at *
   cases v:Nat.beq H id with
   | true=>rw [v] at g;exact b _ _ _ g
   | false=>rw [v] at g;exact b _ _ _ g
 | scope c bD=>intro b6 d X Z b a;exact bD b a
 | loop c bD=>
  intro b6 d X Z b a
  obtain⟨n,a⟩:=a
  refine⟨n,?_⟩
  have Iv:∀ n X Z,iter (fun h=>den P E c (aM.then h b6)) n X Z→iter (fun h=>den P E c (aM.then h d)) n X Z:=by
   intro n
   induction n with
   | zero=>intro X Z g;exact g
   | succ n Iw=>
    intro X Z g
    refine bD (fun O m K i=>?_) g
    cases O with
    | normal=>exact Iw _ _ i
    | exit id=>exact b _ _ _ i
    | ret=>exact b _ _ _ i
  exact Iv n X Z a
 | _=>intro b6 d X Z b a;exact a
theorem Dz(Q k:Fr→V→Prop)(b6:aM→Fr→V→Prop):aM.then Q (aM.then k b6)=aM.then Q b6:=by
 funext O
 cases O <;> rfl
theorem DA{v:Value}{A:Addr→Prop}(Z:gB v A):∃ x,v=.pointer (some x)∧A x:=by
 cases v with
 | pointer a=>cases a with
  | some x=>exact⟨x,rfl,Z⟩
  | none=>cases Z
 | _=>cases Z
variable {P:Program} {E:Env}
def aX(E:Env)(c3:List ResultVar)(Y:Value→V→Prop):aM→Fr→V→Prop:=
 fun O X K=>match O with | .exit _=>False | _=>oZ E X K c3 fun bN=>Y (tF bN) K
def tR(X:Fr):List (Nat × Value)→Fr
 | []=>X
 | y :: l=>tR (jF X y.1 y.2) l
def wA(X:Fr):List (Nat × Value)→Prop
 | []=>True
 | y :: l=>X y.1=y.2∧wA X l
theorem zU:∀ {l:List (Nat × Value)} {X:Fr},wA X l→tR X l=X
 | [],_,_=>rfl
 | y :: l,X,Z=>by
  have O:jF X y.1 y.2=X:=s4 Z.1
  show tR (jF X y.1 y.2) l=X
  rw [O];exact zU Z.2
theorem bH{c:Code}{b6:aM→Fr→V→Prop}{X:Fr}{Z:V}(l:List (Nat × Value))(a:wA X l){t:Prop}(b:den P E c b6 (tR X l) Z=t)(g:t):den P E c b6 X Z:=by
 rw [← b,zU a] at g;exact g
def first:Nat→Code→Code
 | 1,.seq a _=>a
 | n+2,.seq a N=>.seq a (first (n+1) N)
 | _,c=>c
def rest:Nat→Code→Code
 | 1,.seq _ N=>N
 | n+2,.seq _ N=>rest (n+1) N
 | _,_=>.skip
theorem zV{d:Fr→V→Prop}{b6:aM→Fr→V→Prop}:∀ {n:Nat} {c:Code} (_:∀ X Z,d X Z→den P E (rest n c) b6 X Z) {X:Fr} {Z:V},den P E (first n c) (aM.then d b6) X Z→den P E c b6 X Z:=by
 have e:∀ (c:Code),(∀ X Z,d X Z→den P E .skip b6 X Z)→∀ {X:Fr} {Z:V},den P E c (aM.then d b6) X Z→den P E c b6 X Z:=by
  intro c b X Z g
  refine tQ (fun O X Z g=>?_) g
  cases O with
  | normal=>exact b _ _ g
  | exit T=>exact g
  | ret=>exact g
 have h:∀ (a N:Code),(∀ X Z,d X Z→den P E N b6 X Z)→∀ {X:Fr} {Z:V},den P E a (aM.then d b6) X Z→den P E (.seq a N) b6 X Z:=by
  intro a N b X Z g
  show den P E a (aM.then (den P E N b6) b6) X Z
  refine tQ (fun O X Z g=>?_) g
  cases O with
  | normal=>exact b _ _ g
  | exit T=>exact g
  | ret=>exact g
 intro n
 induction n with
 | zero=>
  intro c b X Z g
  have i:first 0 c=c:=by cases c <;> rfl
  have j:rest 0 c=.skip:=by cases c <;> rfl
  rw [i] at g;rw [j] at b;exact e c b g
 | succ n bD=>
  intro c b X Z g
  cases c with
  | seq a N=>
   cases n with
   | zero=>exact h a N b g
   | succ m=>
    have f:den P E a (aM.then (den P E (first (m+1) N) (aM.then d b6)) (aM.then d b6)) X Z:=g
    rw [Dz] at f <;> skip
    all_goals show den P E a (aM.then (den P E N b6) b6) X Z
    all_goals refine tQ (fun O X Z g=>?_) f
    all_goals cases O with
     | normal=>exact bD b g
     | exit T=>exact g
     | ret=>exact g
  | _=>exact e _ (by cases n <;> exact b) (by cases n <;> exact g)
theorem cN(n:Nat){c C:Code}{a:Fr→V→Prop}{b6:aM→Fr→V→Prop}(b:rest n c=C)(d:∀ X Z,a X Z→den P E C b6 X Z){X:Fr}{Z:V}(g:den P E (first n c) (aM.then a b6) X Z):den P E c b6 X Z:=by
 subst b;exact zV d g
theorem e8{c a C:Code}{b:Fr→V→Prop}{b6:aM→Fr→V→Prop}(d:c=.seq a C)(e:∀ X Z,b X Z→den P E C b6 X Z){X:Fr}{Z:V}(g:den P E a (aM.then b b6) X Z):den P E c b6 X Z:=by
 subst d;exact zV (n:=1) e g
theorem eN{c a:Code}{T:Nat}{b6:aM→Fr→V→Prop}(b:c=.block T a){X:Fr}{Z:V}(g:den P E a (aM.inBlock T b6) X Z):den P E c b6 X Z:=by
 subst b;exact g
theorem DB{c a:Code}{b6:aM→Fr→V→Prop}(b:c=.scope a){X:Fr}{Z:V}(g:den P E a b6 X Z):den P E c b6 X Z:=by
 subst b;exact g
theorem eZ{c N:Code}{b6:aM→Fr→V→Prop}(cG:Nat→Fr→V→Prop)(a:c=.loop N)(o:∀ X Z,cG 0 X Z→False)(aZ:∀ n X Z,cG (n+1) X Z→den P E N (aM.then (cG n) b6) X Z)(n:Nat)(X:Fr)(Z:V)(g:cG n X Z):den P E c b6 X Z:=by
 subst a
 refine⟨n,?_⟩
 induction n generalizing X Z with
 | zero=>exact(o X Z g).elim
 | succ n bD=>
  show den P E N (aM.then (iter (fun b=>den P E N (aM.then b b6)) n) b6) X Z
  refine tQ (fun O X Z g=>?_) (aZ n X Z g)
  cases O with
  | normal=>exact bD _ _ g
  | exit T=>exact g
  | ret=>exact g
theorem bJ{U:IntKind}{v:Value}{n:Int}{A:Int→Prop}(O:v=.int U n)(g:A n):aC U v A:=by
 subst O;cases U <;> exact g
theorem bK{v:Value}{n:Bool}{A:Bool→Prop}(O:v=.bool n)(g:A n):eL v A:=by subst O;exact g
theorem aQ{v:Value}{a:R}{l c:Nat}{A:R→Nat→Nat→Prop}(O:v=.slice a l c)(g:A a l c):aE v A:=by subst O;exact g
theorem cF{v:Value}{l:List Value}{A:List Value→Prop}(O:v=.agg l.toArray)(g:A l):cE v A:=by subst O;exact g
theorem hG{v:Value}{A:List Value→Prop}(Z:cE v A):∃ l,v=.agg l.toArray∧A l:=by
 obtain⟨cT,O,g⟩:=vR Z;exact⟨cT.toList,by rw [O],g⟩
theorem fR{v:Value}{l:List Value}{A:List Value→Prop}(O:v=.tuple l.toArray)(g:A l):cO v A:=by subst O;exact g
theorem a9{v:Value}{bN:List Value}{A:Value→List Value→Prop}(g:A v bN):cL (v :: bN) A:=g
theorem b3{A:Prop}(g:A):bG [] A:=g
theorem c9(a:g3 P E){a3:FuncId}{fn:Func}{c:Code}{c3:List ResultVar}(b:P.funcs[a3]?=some fn)(d:fn.body=some c)(e:k7 E fn.ntmps c=true)(f:fn.results.toList=c3)
  {args:List Value} (g:Nat.ble args.length fn.ntmps=true) {Z:V} {Y:Value→V→Prop}
  (h:den P E c (aX E c3 Y) (tE args) Z):lS P a3 args.toArray Z Y:=
 Dg a b d e f (Nat.le_of_ble_eq_true g) h
end Go.Gv
namespace Go.Gv
abbrev W:Bool:=true
abbrev p:Bool:=false
abbrev c4(Z:V)(x:Addr)(A:Bool→Prop):Prop:=gI Z x fun v=>eL v A
abbrev cR(Z:V)(x:Addr)(A:R→Nat→Nat→Prop):Prop:=gI Z x fun v=>aE v A
abbrev c5(Z:V)(U:IntKind)(x:Addr)(A:Int→Prop):Prop:=gI Z x fun v=>aC U v A
abbrev cX(l:List Value)(A:Bool→List Value→Prop):Prop:=cL l fun v k=>eL v fun N=>A N k
abbrev bY(l:List Value)(A:R→Nat→Nat→List Value→Prop):Prop:=cL l fun v k=>aE v fun a l c=>A a l c k
abbrev dI(l:List Value)(U:IntKind)(A:Int→List Value→Prop):Prop:=cL l fun v k=>aC U v fun Q=>A Q k
theorem a0{v:Value}{A:R→Nat→Nat→Prop}{P:Prop}(g:aE v A)(a3:∀ a l c,v=.slice a l c→A a l c→P):P:=by
 obtain⟨a,l,c,O,g⟩:=bT g
 exact a3 a l c O g
theorem aW{U:IntKind}{v:Value}{A:Int→Prop}{P:Prop}(g:aC U v A)(a3:∀ Q,v=.int U Q→A Q→P):P:=by
 obtain⟨Q,O,g⟩:=bC g
 exact a3 Q O g
theorem rW{v:Value}{A:Bool→Prop}{P:Prop}(g:eL v A)(a3:∀ Q,v=.bool Q→A Q→P):P:=by
 obtain⟨Q,O,g⟩:=g4 g
 exact a3 Q O g
theorem gN{v:Value}{A:Addr→Prop}{P:Prop}(g:gB v A)(a3:∀ Q,v=.pointer (some Q)→A Q→P):P:=by
 obtain⟨Q,O,g⟩:=DA g
 exact a3 Q O g
end Go.Gv
