import Derived.Carry
import Derived.ChangeSlices
import Derived.WalkKit
import Derived.ProofKit
import Derived.OpenShut
import Derived.ShutString
import Derived.ChangeOld
import Derived.Below
import Derived.SizedLaws
import Derived.ChangeArms
import Derived.Laws.Append
import Derived.Test.YtjijdlkpmngolaaGreatKM
set_option linter.unusedVariables false
namespace Go.Gv
open Go.ChangeShapes Go.WideShapes Go.ChangeAt Go.RowKit
theorem w5{aB cI:World}(aH:eR aB cI)(S:bA aB.heap cI.heap):Below aB.heap.size aB cI:=⟨aH.os,aH.tape,aH.output,S.le,fun O a4=>S.pre O a4⟩
theorem wf_i64{n:Int}(Z:(Lit.int .i64 n).wf=true):-9223372036854775808≤n∧n < 9223372036854775808:=by
 simp only [Lit.wf,Bool.and_eq_true,decide_eq_true_eq,IntKind.min,IntKind.max,IntKind.signed,IntKind.bits,if_true] at Z
 have a:(2:Int) ^ (64 - 1)=9223372036854775808:=by decide
 rw [a] at Z;omega
theorem wf_u64{n:Int}(Z:(Lit.int .u64 n).wf=true):0≤n∧n < 18446744073709551616:=by
 simp only [Lit.wf,Bool.and_eq_true,decide_eq_true_eq,IntKind.min,IntKind.max,IntKind.signed,IntKind.bits,Bool.false_eq_true,if_false] at Z
 have a:(2:Int) ^ 64=18446744073709551616:=by decide
 rw [a] at Z;omega
open Go.ChangeShapes Go.WideShapes Go.ChangeAt Go.RowKit
abbrev jH(cX:Type):=U→List Value→cX→Prop
def sX{cX:Type}(c6:jH cX):Prop:=∀ (Z K:U) (c2:List Value) (a:cX),c6 Z c2 a→bA Z K→c6 K c2 a
def sY{H:Type}(enc:TypeId × Value→H)(P:Program)(bH:World)(t:TypeId){cX:Type}(c6:jH cX):Prop:=
 ∀ (b:Nat) (c2:List Value) (N:DataW H × List MemPlace),DataW.trod enc P bH 0 (fun _=>true) true b t c2=some N→(∀ n ∈ N.1.weights P t,n≤reachBytes)→∃ a,c6 bH.heap c2 a
def rH(S:IntKind):jH Int:=fun _ c2 n=>c2=[.int S n]∧(Lit.int S n).wf=true
structure sZ{cX:Type}(c6:jH cX)(fI m:Nat)(Z:U)(a:M)(c:Nat)(l:List cX):Prop where
 len:l.length≤m
 cap:l.length≤c
 at_:∀ O N,l[O]?=some N→∃ p bV,a=some p∧bV.length=fI∧j1 Z (p.add (O*fI)) 0 bV∧c6 Z bV N
def D4{cX:Type}(c6:jH cX)(fI m:Nat):jH (List cX):=fun Z c2 l=>∃ a c,c2=[.slice a l.length c]∧sZ c6 fI m Z a c l
theorem j1.aR{Z K:U}(S:bA Z K){p:Addr}:∀ {bV:List Value} {O:Nat},j1 Z p O bV→j1 K p O bV
 | [],_,_=>trivial
 | _ :: _,_,g=>⟨S.cell g.1,j1.aR S g.2⟩
theorem sZ.aR{cX:Type}{c6:jH cX}(b:sX c6){fI m:Nat}{Z K:U}{a:M}{c:Nat}{l:List cX}(r:sZ c6 fI m Z a c l)(S:bA Z K):sZ c6 fI m K a c l:=
 ⟨r.len,r.cap,fun O N d=>let ⟨p,bV,R,bW,g,aH⟩:=r.at_ O N d;⟨p,bV,R,bW,g.aR S,b _ _ _ _ aH S⟩⟩
theorem Bk(S:IntKind):sX (rH S):=fun _ _ _ _ aH _=>aH
section
variable {H:Type} {enc:TypeId × Value→H} {P:Program} {bH:World}
theorem Bl{t:TypeId}{S:IntKind}(a:P.underlying t=some (.int S)):sY enc P bH t (rH S):=by
 intro b c2 N Z _
 cases b with
 | zero=>simp [DataW.trod] at Z
 | succ n=>
  unfold DataW.trod at Z
  rw [a] at Z
  split at Z <;> simp_all
  rename_i cS m d
  obtain⟨⟨rfl,c⟩,_⟩:=Z
  exact⟨_,rfl,c⟩
theorem D5{R:TypeId}{n:Nat}:∀ {a:List (DataW H)} {aV:DataW H},aV ∈ a→n ∈ aV.weights P R→n ∈ DataW.weightsAll P R a
 | [],_,Z,_=>by cases Z
 | aV :: a,c,Z,b=>by
  unfold DataW.weightsAll
  rcases List.mem_cons.mp Z with R | R
  ·subst R;exact List.mem_append_left _ b
  ·exact List.mem_append_right _ (D5 R b)
theorem IC{aB:World}{a:Addr}{n:Nat}{bV:List Value}(Z:aB.cells? 0 a n=some bV):bV.length=n∧j1 aB.heap a 0 bV:=by
 obtain⟨_,d,e⟩:=World.cells?_some Z
 refine⟨d,?_⟩
 have key:∀ (b:List Value) (O:Nat),(∀ aC,aC < b.length→aB.cell? (a.add (O+aC))=b[aC]?)→j1 aB.heap a O b:=by
  intro b
  induction b with
  | nil=>intro _ _;trivial
  | cons cU b bU=>
   intro O g
   refine⟨by have:=g 0 (by simp);simpa [C0] using this,bU (O+1) fun aC c=>?_⟩
   have:=g (aC+1) (by simpa using c)
   rw [show O+1+aC=O+(aC+1) by omega];simpa using this
 exact key bV 0 fun aC c=>by rw [Nat.zero_add];exact e aC (by omega)
theorem ID{t R:TypeId}{cX:Type}{c6:jH cX}{fI hV m:Nat}(j:P.underlying t=some (.slice R))(o:P.cellsOf R=fI)(y:P.bytesOf R=hV)(z:1≤hV)(h:m=140737488351232 / hV)(aN:sY enc P bH R c6):sY enc P bH t (D4 c6 fI m):=by
 intro A c2 N Z q
 rcases DataW.trod_slice j Z with ⟨rfl,rfl⟩ | ⟨a,len,cap,c,rest,n,rfl,rfl,rfl,_,r,_,B,s,C,_⟩
 ·exact⟨[],none,0,rfl,by simp,by simp,fun O N u=>by simp at u⟩
 have e:∀ m ∈ DataW.weights P t (.slice (c.map (·.1)) (rest.map (·.1)):DataW H),m≤reachBytes:=q
 unfold DataW.weights at e
 rw [j] at e
 have aZ:=e ((c.map (·.1)).length+(rest.map (·.1)).length |> (·*P.bytesOf R)) (by simp)
 have D:reachBytes=140737488351232:=rfl
 have v:len≤m:=by
  have E:len*hV≤(c.length+rest.length)*P.bytesOf R:=Nat.mul_le_mul (by omega) (by omega)
  simp only [List.length_map] at aZ
  rw [h,Nat.le_div_iff_mul_le (by omega)]
  omega
 have each:∀ O,O < len→∃ bI:cX,∃ p bV,some a=some p∧bV.length=fI∧j1 bH.heap (p.add (O*fI)) 0 bV∧c6 bH.heap bV bI:=by
  intro O a4
  have g:=s O a4
  rw [o] at g
  obtain⟨aP,k⟩:∃ aP,c[O]?=some aP:=⟨c[O]'(by omega),by simp⟩
  rw [k] at g
  obtain⟨bV,w,x⟩:=Option.bind_eq_some_iff.mp g
  obtain⟨aI,bZ⟩:=IC w
  obtain⟨bI,d⟩:=aN n bV aP x (fun m h=>e m (List.mem_cons_of_mem _ (List.mem_append_left _ (D5 (List.mem_map_of_mem (List.mem_of_getElem? k)) h))))
  exact⟨bI,a,bV,rfl,aI,bZ,d⟩
 have build:∀ S,S≤len→∃ l:List cX,l.length=S∧∀ O bI,l[O]?=some bI→∃ p bV,some a=some p∧bV.length=fI∧j1 bH.heap (p.add (O*fI)) 0 bV∧c6 bH.heap bV bI:=by
  intro S
  induction S with
  | zero=>intro _;exact⟨[],rfl,fun O bI d=>by simp at d⟩
  | succ S bU=>
   intro F
   obtain⟨l,f,i⟩:=bU (by omega)
   obtain⟨bI,d⟩:=each S (by omega)
   refine⟨l ++ [bI],by simp [f],fun O jI b=>?_⟩
   by_cases a4:O < l.length
   ·rw [List.getElem?_append_left a4] at b;exact i O jI b
   ·rw [List.getElem?_append_right (by omega)] at b
    have s0:O=S:=by
     have:=(List.getElem?_eq_some_iff.mp b).1
     simp at this;omega
    subst s0
    rw [f,Nat.sub_self] at b
    simp at b
    subst b;exact d
 obtain⟨l,f,i⟩:=build len (Nat.le_refl _)
 subst f
 exact⟨l,some a,cap,rfl,v,r,i⟩
def zG:jH Unit:=fun _ c2 _=>c2=[]
def qE{cX hC:Type}(c6:jH cX)(n:Nat)(T:jH hC):jH (cX × hC):=fun Z c2 p=>c2.length=n+(c2.drop n).length∧c6 Z (c2.take n) p.1∧T Z (c2.drop n) p.2
theorem IE:sX zG:=fun _ _ _ _ aH _=>aH
theorem Bm{cX hC:Type}{c6:jH cX}{T:jH hC}(a:sX c6)(b:sX T)(n:Nat):sX (qE c6 n T):=fun _ _ _ _ ⟨l,aH,t⟩ S=>⟨l,a _ _ _ _ aH S,b _ _ _ _ t S⟩
def vA{H:Type}(enc:TypeId × Value→H)(P:Program)(bH:World)(eL:List Field)(b aN total:Nat){cX:Type}(c6:jH cX):Prop:=
 ∀ (n:Nat) (c2:List Value) (aA:List (DataW H × List MemPlace)),c2.length=total→(∀ (aC:Nat) (f:Field),eL[aC]?=some f→DataW.trod enc P bH 0 (fun _=>true) true n f.type ((c2.drop f.offset).take (P.cellsOf f.type))=aA[aC]?)→
  (∀ (aC:Nat) (f:Field) (N:DataW H × List MemPlace),eL[aC]?=some f→aA[aC]?=some N→∀ m ∈ N.1.weights P f.type,m≤reachBytes)→aA.length=eL.length→∃ a,c6 bH.heap (c2.drop aN) a
theorem IF{eL:List Field}{O total:Nat}:vA enc P bH eL O total total zG:=
 fun _ c2 _ a _ _ _=>⟨(),by show c2.drop total=[];rw [← a,List.drop_length]⟩
theorem IG{eL:List Field}{O aN total fI:Nat}{f:Field}{cX hC:Type}{c6:jH cX}{T:jH hC}(b:eL[O]?=some f)(i:f.offset=aN)(bM:P.cellsOf f.type=fI)(p:aN+fI≤total)(j:sY enc P bH f.type c6)(k:vA enc P bH eL (O+1) (aN+fI) total T):vA enc P bH eL O aN total (qE c6 fI T):=by
 intro n c2 aA l c d e
 obtain⟨L,m⟩:=k n c2 aA l c d e
 have g:=c O f b
 have a4:O < aA.length:=by rw [e];exact(List.getElem?_eq_some_iff.mp b).1
 have h:aA[O]?=some aA[O]:=by simp
 rw [h,i,bM] at g
 obtain⟨a,o⟩:=j n _ _ g (d O f _ b h)
 refine⟨(a,L),?_,o,?_⟩
 ·rw [List.drop_drop,List.length_drop,List.length_drop];omega
 ·rw [List.drop_drop];exact m
theorem Bn{eL:List Field}{O aN total fI t:Nat}{cX hC:Type}{c6:jH cX}{T:jH hC}(a:(eL[O]?).map (fun f=>(f.offset,f.type))=some (aN,t))(bM:P.cellsOf t=fI)(c:aN+fI≤total)(d:sY enc P bH t c6)(e:vA enc P bH eL (O+1) (aN+fI) total T):vA enc P bH eL O aN total (qE c6 fI T):=by
 cases b:eL[O]? with
 | none=>rw [b] at a;cases a
 | some f=>
  rw [b] at a
  simp only [Option.map_some,Option.some.injEq,Prod.mk.injEq] at a
  obtain⟨aZ,g⟩:=a
  subst g
  exact IG b aZ bM c d e
theorem D6{m:Nat}:∀ {eL:List Field} {a:List (DataW H)} {aC:Nat} {f:Field} {aV:DataW H},eL[aC]?=some f→a[aC]?=some aV→m ∈ aV.weights P f.type→m ∈ DataW.weightsEach P (eL.map (·.type)) a
 | [],_,_,_,_,Z,_,_=>by simp at Z
 | _ :: _,[],_,_,_,_,Z,_=>by simp at Z
 | f :: eL,aV :: a,0,c,d,Z,K,b=>by
  simp at Z K;subst Z;subst K
  show m ∈ DataW.weights P f.type aV ++ DataW.weightsEach P (eL.map (·.type)) a
  exact List.mem_append_left _ b
 | f :: eL,aV :: a,aC+1,c,d,Z,K,b=>by
  show m ∈ DataW.weights P f.type aV ++ DataW.weightsEach P (eL.map (·.type)) a
  exact List.mem_append_right _ (D6 (by simpa using Z) (by simpa using K) b)
theorem IH{t:TypeId}{eL:Array Field}{cX:Type}{c6:jH cX}{total:Nat}(c:P.underlying t=some (.struct eL))(d:P.cellsOf t=total)(aN:vA enc P bH eL.toList 0 0 total c6):sY enc P bH t c6:=by
 intro l c2 N Z e
 obtain⟨aA,n,_,rfl,g,h,i⟩:=DataW.trod_struct c Z
 have a:∀ m ∈ DataW.weights P t (.agg (aA.map (·.1)):DataW H),m≤reachBytes:=e
 unfold DataW.weights at a
 rw [c] at a
 have:=aN n c2 aA (by rw [g,d]) (fun aC f b=>i aC f (by simpa using b)) (fun aC f N b j m k=>a m (D6 b (by rw [List.getElem?_map,j];rfl) k)) (by simpa using h)
 simpa using this
theorem II{t:TypeId}{v:Value}{aV:DataW H}{p:List MemPlace}{cX:Type}{c6:jH cX}(aN:sY enc P bH t c6)(Z:DataW.Trod enc P bH 0 (fun _=>true) true t v aV p){jD:List TypeId}{b:List (DataW H)}(c:(DataW.weightsEach P jD b).all (·≤reachBytes)=true){aC:Nat}(d:jD[aC]?=some t)(e:b[aC]?=some aV):
  ∃ a,c6 bH.heap v.cells.toList a:=by
 obtain⟨f,g⟩:=Z
 refine aN f _ _ g fun m h=>?_
 have:=List.all_eq_true.1 c _ (DataW.weights_mem_each d e m h)
 simpa using this
end
theorem b9{p:Prop}[Decidable p]{a bC:Prop}(b:p→a)(c:¬p→bC):cond (decide p) a bC:=by
 by_cases Z:p
 ·simp only [Z,decide_true,cond_true];exact b Z
 ·simp only [Z,decide_false,cond_false];exact c Z
theorem eY{N aP:Int}{a bC:Prop}(b:N=aP→a)(c:N ≠ aP→bC):cond (N == aP) a bC:=by
 by_cases Z:N=aP
 ·simp only [Z,beq_self_eq_true,cond_true];exact b Z
 ·simp only [beq_eq_false_iff_ne.mpr Z,cond_false];exact c Z
theorem jK{N aP:Int}{a bC:Prop}(b:N ≠ aP→a)(c:N=aP→bC):cond (N != aP) a bC:=by
 by_cases Z:N=aP
 ·simp only [Z,bne_self_eq_false,cond_false];exact c Z
 ·simp only [bne_iff_ne.mpr Z,cond_true];exact b Z
theorem jL{L:Bool}{a bC:Prop}(b:L=false→a)(c:L=true→bC):cond (!L) a bC:=by
 cases L
 ·exact b rfl
 ·exact c rfl
theorem cO{N:Int}(aP:Int)(R:N=aP)(aZ:-9223372036854775808≤aP)(a:aP < 9223372036854775808){aF:Int→Prop}(g:aF aP):a5 (IntKind.i64.wrap N) aF:=by
 subst R;refine⟨?_⟩;show aF _;rw [wrap_i64 aZ a];exact g
def s3(Z:U)(aE:Nat):Option Nat:=match Z[aE]? with | some (.cells c _ _)=>some c.size | _=>none
structure cD(aE:Nat)(Z K:U):Prop where
 le:Z.size≤K.size
 pre:∀ L,L < Z.size→L ≠ aE→K[L]?=Z[L]?
 len:∀ m,s3 Z aE=some m→s3 K aE=some m
theorem cD.refl(aE:Nat)(Z:U):cD aE Z Z:=⟨Nat.le_refl _,fun _ _ _=>rfl,fun _ R=>R⟩
theorem cD.trans{aE:Nat}{a L c:U}(N:cD aE a L)(aP:cD aE L c):cD aE a c:=
 ⟨Nat.le_trans N.le aP.le,fun O a4 b=>(aP.pre O (Nat.lt_of_lt_of_le a4 N.le) b).trans (N.pre O a4 b),fun m R=>aP.len m (N.len m R)⟩
theorem D7{Z:U}{aE m:Nat}(R:s3 Z aE=some m):aE < Z.size:=by
 rcases Nat.lt_or_ge aE Z.size with a | a
 ·exact a
 ·unfold s3 at R;rw [Array.getElem?_eq_none a] at R;cases R
theorem bA.Bo{aE:Nat}{Z K:U}(S:bA Z K):cD aE Z K:=
 ⟨S.le,fun L a _=>S.pre L a,fun m R=>by have:=S.pre aE (D7 R);unfold s3 at *;rw [this];exact R⟩
theorem cD.aR{aE:Nat}{aX Z K:U}(a:bA aX Z)(S:cD aE Z K)(b:aX.size≤aE):bA aX K:=
 ⟨Nat.le_trans a.le S.le,fun L b=>(S.pre L (Nat.lt_of_lt_of_le b a.le) (by omega)).trans (a.pre L b)⟩
theorem cD.set(aE:Nat)(Z:U)(O:Nat)(v:Value):cD aE Z (gQ Z ⟨aE,O,none⟩ v):=
 ⟨by rw [D8];exact Nat.le_refl _,fun L _ a=>D9 a,fun m R=>by
  unfold s3 at *
  split at R
  ·rename_i c el b d
   have:(gQ Z ⟨aE,O,none⟩ v)[aE]?=some (.cells (c.setIfInBounds O v) el b):=by
    unfold gQ
    rw [Array.getElem?_modify,if_pos rfl,d]
    rfl
   rw [this]
   simpa using R
  ·cases R⟩
def fU(aE:Nat)(a:M):Prop:=∀ p,a=some p→p.block ≠ aE
theorem fU.none(aE:Nat):fU aE none:=fun p R=>by cases R
theorem fU.sub{aE:Nat}{a:M}(aN:fU aE a)(m l fI:Nat):fU aE (iY a m l fI):=by
 intro p R
 unfold iY at R
 split at R
 ·exact aN p R
 ·cases a with
  | none=>cases R
  | some r=>
   simp only [Option.map_some,Option.some.injEq] at R
   rw [← R,pJ];exact aN r rfl
theorem cG.cL{aE:Nat}{Z K:U}{a:M}{c:Nat}{aA:List Nat}(r:cG Z a c aA)(aN:fU aE a)(S:cD aE Z K):cG K a c aA:=
 ⟨r.len,r.cap,r.words,fun O a4=>by
  obtain⟨p,R,g⟩:=r.at_ O a4
  refine⟨p,R,?_⟩
  have b:=s4 g
  rw [rF (S.pre _ b (by rw [pJ];exact aN p R))];exact g⟩
theorem Own.cL{aE L:Nat}{Z K:U}{aA:List Nat}(aN:Own Z L aA)(a:L ≠ aE)(S:cD aE Z K):Own K L aA:=by
 obtain⟨R,g⟩:=aN.at_
 exact⟨aN.len,aN.words,R,by rw [S.pre L aN.lt a];exact g⟩
theorem cG.off{Z:U}{a:M}{c:Nat}{aA:List Nat}(r:cG Z a c aA){aE:Nat}(e:Z.size≤aE):aA=[]∨fU aE a:=by
 cases aA with
 | nil=>exact Or.inl rfl
 | cons N aA=>
  obtain⟨p,R,g⟩:=r.at_ 0 (by simp)
  have d:=s4 g
  rw [pJ] at d
  refine Or.inr fun f b=>?_
  rw [R] at b;cases b;omega
def fF(Z:U)(L:Nat)(aA:List Nat):Prop:=∃ rest,Own Z L (aA ++ rest)
theorem Own.Ea{Z:U}{L:Nat}{aA:List Nat}(aN:Own Z L aA):fF Z L aA:=⟨[],by rw [List.append_nil];exact aN⟩
theorem fF.words{Z:U}{L:Nat}{aA:List Nat}(aN:fF Z L aA):Words aA:=fun N a=>by
 obtain⟨r,aN⟩:=aN;exact aN.words N (List.mem_append_left _ a)
theorem fF.len{Z:U}{L:Nat}{aA:List Nat}(aN:fF Z L aA):aA.length≤35184372088828:=by
 obtain⟨r,aN⟩:=aN;have:=aN.len;rw [List.length_append] at this;omega
theorem fF.lt{Z:U}{L:Nat}{aA:List Nat}(aN:fF Z L aA):L < Z.size:=by obtain⟨r,aN⟩:=aN;exact aN.lt
theorem fF.take{Z:U}{L:Nat}{aA:List Nat}(aN:fF Z L aA)(n:Nat):fF Z L (aA.take n):=by
 obtain⟨r,aN⟩:=aN
 exact⟨aA.drop n ++ r,by rw [← List.append_assoc,List.take_append_drop];exact aN⟩
theorem fF.cL{aE L:Nat}{Z K:U}{aA:List Nat}(aN:fF Z L aA)(a:L ≠ aE)(S:cD aE Z K):fF K L aA:=by
 obtain⟨r,aN⟩:=aN;exact⟨r,aN.cL a S⟩
theorem fF.aR{L:Nat}{Z K:U}{aA:List Nat}(aN:fF Z L aA)(S:bA Z K):fF K L aA:=by
 obtain⟨r,aN⟩:=aN;exact⟨r,aN.aR S⟩
theorem fF.word{Z:U}{L:Nat}{aA:List Nat}(aN:fF Z L aA)(O:Nat):aA.getD O 0 < 18446744073709551616:=zH aN.words O
theorem fF.rd{Z:U}{L c:Nat}{aA:List Nat}(aN:fF Z L aA)(a:aA.length≤c):cG Z (some ⟨L,0,none⟩) c aA:=by
 refine⟨aN.len,a,aN.words,fun O a4=>⟨_,rfl,?_⟩⟩
 obtain⟨r,aN⟩:=aN
 rw [cB,aN.cell (by rw [List.length_append];omega)]
 have R:(aA ++ r).getD O 0=aA.getD O 0:=by simp [List.getD,List.getElem?_append_left a4]
 rw [R]
theorem fF.set{Z:U}{L:Nat}{aA:List Nat}(aN:fF Z L aA){aC v:Nat}(a:aC < aA.length)(bW:v < 18446744073709551616):fF (gQ Z ⟨L,aC,none⟩ (h0 v)) L (aA.set aC v):=by
 obtain⟨r,aN⟩:=aN
 refine⟨r,?_⟩
 have:=aN.set aC bW
 rw [List.set_append_left _ _ a] at this;exact this
theorem vB{Z:U}{L l:Nat}{aA:List Nat}(aN:fF Z L aA){O:Int}{aC:Nat}(a4:O=(aC:Int))(a:l=aA.length)(b:aC < aA.length){N:Int}{v:Nat}(c:N=(v:Int))(bW:v < 18446744073709551616){aF:U→Prop}
  (g:fF (gQ Z ⟨L,aC,none⟩ (h0 v)) L (aA.set aC v)→cD L Z (gQ Z ⟨L,aC,none⟩ (h0 v))→aF (gQ Z ⟨L,aC,none⟩ (h0 v))):c7 (some ⟨L,0,none⟩) l O 1 fun aE=>cC Z aE (.int .u64 N) aF:=by
 subst a4;subst c;subst a
 have d:=g (aN.set b bW) (cD.set _ _ _ _)
 obtain⟨r,aN⟩:=aN
 refine⟨⟨by omega,by omega⟩,?_⟩
 show cC Z ((⟨L,0,none⟩:Addr).add ((aC:Int).toNat*1)) _ _
 have e:(aC:Int).toNat*1=aC:=by omega
 rw [e,cB]
 exact⟨⟨⟨_,aN.cell (by rw [List.length_append];omega)⟩,aN.frozen aC⟩,d⟩
theorem Bp{a:M}{l c:Nat}{N aP:Int}{n:Nat}(b:N=(n:Int))(d:aP=(n:Int))(e:n≤c){aF:M→Nat→Nat→Prop}(g:aF a n n):iD 1 a l c none (some (.int .i64 N)) (some (.int .i64 aP)) aF:=by
 subst b;subst d
 show(0≤(n:Int)∧(n:Int)≤(c:Int))∧(0≤(n:Int)∧(n:Int)≤(((n:Int).toNat:Nat):Int))∧aF (iY a (n:Int).toNat 0 1) ((n:Int).toNat - 0) ((n:Int).toNat - 0)
 refine⟨⟨by omega,by omega⟩,⟨by omega,by omega⟩,?_⟩
 have R:iY a (n:Int).toNat 0 1=a:=by
  unfold iY
  split
  ·rfl
  ·cases a <;> simp [Addr.add]
 rw [R];simpa using g
theorem Eb{a:M}{l c:Nat}{N aP bI:Int}{m n:Nat}(b:N=(m:Int))(d:aP=(n:Int))(e:bI=(n:Int))(f:m≤n)(h:n≤c){aF:M→Nat→Nat→Prop}(g:aF (iY a n m 1) (n - m) (n - m)):iD 1 a l c (some (.int .i64 N)) (some (.int .i64 aP)) (some (.int .i64 bI)) aF:=by
 subst b;subst d;subst e
 show(0≤(n:Int)∧(n:Int)≤(c:Int))∧(0≤(n:Int)∧(n:Int)≤(((n:Int).toNat:Nat):Int))∧(0≤(m:Int)∧(m:Int)≤(((n:Int).toNat:Nat):Int))∧aF (iY a (n:Int).toNat (m:Int).toNat 1) ((n:Int).toNat - (m:Int).toNat) ((n:Int).toNat - (m:Int).toNat)
 refine⟨⟨by omega,by omega⟩,⟨by omega,by omega⟩,⟨by omega,by omega⟩,?_⟩
 simpa using g
theorem lQ:∀ {a6:List Nat} {aC v:Nat},aC < a6.length→val (a6.set aC v)+a6.getD aC 0*2 ^ (64*aC)=val a6+v*2 ^ (64*aC)
 | [],_,_,Z=>absurd Z (by simp)
 | bI :: a6,0,v,_=>by simp [val];omega
 | bI :: a6,aC+1,v,Z=>by
  have bU:=lQ (a6:=a6) (aC:=aC) (v:=v) (by simpa using Z)
  have R:2 ^ (64*(aC+1))=18446744073709551616*2 ^ (64*aC):=by
   rw [show 64*(aC+1)=64+64*aC by omega,Nat.pow_add]
  simp only [List.set_cons_succ,val,List.getD_cons_succ,R]
  have b:a6.getD aC 0*(18446744073709551616*2 ^ (64*aC))=18446744073709551616*(a6.getD aC 0*2 ^ (64*aC)):=Nat.mul_left_comm _ _ _
  have c:v*(18446744073709551616*2 ^ (64*aC))=18446744073709551616*(v*2 ^ (64*aC)):=Nat.mul_left_comm _ _ _
  rw [b,c]
  generalize a6.getD aC 0*2 ^ (64*aC)=a at *
  generalize v*2 ^ (64*aC)=L at *
  omega
theorem j2(aC:Nat):2 ^ (64*(aC+1))=18446744073709551616*2 ^ (64*aC):=by
 rw [show 64*(aC+1)=64+64*aC by omega,Nat.pow_add]
theorem zI{bC V a bI jI c dF p r P:Nat}(aZ:jI+bC*dF=p+c+bI)(h:a+bI*P=V+jI*P):a+(r+dF)*(bC*P)=V+(p+bC*r+c)*P:=by
 have b:(jI+bC*dF)*P=(p+c+bI)*P:=by rw [aZ]
 have d:(jI+bC*dF)*P=jI*P+bC*dF*P:=Nat.add_mul _ _ _
 have e:(p+c+bI)*P=p*P+c*P+bI*P:=by rw [Nat.add_mul,Nat.add_mul]
 have f:(r+dF)*(bC*P)=bC*r*P+bC*dF*P:=by rw [Nat.add_mul,Nat.mul_left_comm r,Nat.mul_left_comm dF,Nat.mul_assoc,Nat.mul_assoc]
 have g:(p+bC*r+c)*P=p*P+bC*r*P+c*P:=by rw [Nat.add_mul,Nat.add_mul]
 rw [f,g];rw [d,e] at b
 omega
theorem Ec{bC V a bI jI aN fO cU r P T:Nat}(aZ:jI+cU+aN=bI+bC*fO)(g:a+bI*P=V+jI*P)(Z:V=T+(cU+bC*r+aN)*P):a=T+(r+fO)*(bC*P):=by
 have b:(jI+cU+aN)*P=(bI+bC*fO)*P:=by rw [aZ]
 have c:(jI+cU+aN)*P=jI*P+cU*P+aN*P:=by rw [Nat.add_mul,Nat.add_mul]
 have d:(bI+bC*fO)*P=bI*P+bC*fO*P:=Nat.add_mul _ _ _
 have e:(r+fO)*(bC*P)=bC*r*P+bC*fO*P:=by rw [Nat.add_mul,Nat.mul_left_comm r,Nat.mul_left_comm fO,Nat.mul_assoc,Nat.mul_assoc]
 have f:(cU+bC*r+aN)*P=cU*P+bC*r*P+aN*P:=by rw [Nat.add_mul,Nat.add_mul]
 rw [e];rw [c,d] at b;rw [f] at Z
 omega
theorem lE(aA:List Nat)(O:Nat):val (aA.drop O)=aA.getD O 0+18446744073709551616*val (aA.drop (O+1)):=by
 by_cases Z:O < aA.length
 ·rw [iK Z];rfl
 ·rw [List.drop_of_length_le (by omega),List.drop_of_length_le (by omega)]
  simp [val,List.getD,show aA.length≤O by omega]
theorem Bq{a6:List Nat}{T P O:Nat}(a:P=2 ^ (64*O))(Z:P≤T)(b:T < 2 ^ (64*a6.length)):O < a6.length:=by
 subst a
 refine Nat.lt_of_not_le fun c=>?_
 have:2 ^ (64*a6.length)≤2 ^ (64*O):=Nat.pow_le_pow_right (by decide) (by omega)
 omega
theorem s5(m:Nat):val (List.replicate m 0)=0:=by
 induction m with
 | zero=>rfl
 | succ m bU=>rw [List.replicate_succ];simp [val,bU]
end Go.Gv
namespace Go.Gv.D
def val:List Nat→Nat
 | []=>0
 | N :: aA=>N+4294967296*val aA
def aK(n:Nat):List Nat:=if Z:n=0 then [] else n % 4294967296 :: aK (n / 4294967296)
 termination_by n
 decreasing_by omega
def Words(aA:List Nat):Prop:=∀ N ∈ aA,N < 4294967296
theorem Words.cons{N:Nat}{aA:List Nat}(Z:Words (N :: aA)):N < 4294967296∧Words aA:=⟨Z N (by simp),fun aP a=>Z aP (by simp [a])⟩
theorem eP:aK 0=[]:=by unfold aK;simp
theorem kE{n:Nat}(Z:n ≠ 0):aK n=n % 4294967296 :: aK (n / 4294967296):=by
 rw [aK];simp [Z]
theorem pM(n:Nat):Words (aK n):=by
 induction n using Nat.strongRecOn with
 | ind n bU=>
  by_cases Z:n=0
  ·subst Z;rw [eP];intro N a;cases a
  ·rw [kE Z];intro N a
   rcases List.mem_cons.mp a with R | R
   ·omega
   ·exact bU _ (by omega) N R
theorem e1(n:Nat):val (aK n)=n:=by
 induction n using Nat.strongRecOn with
 | ind n bU=>
  by_cases Z:n=0
  ·subst Z;rw [eP];rfl
  ·rw [kE Z];show n % _+_*val (aK _)=n
   rw [bU _ (by omega)];omega
theorem pN{aA:List Nat}:dS aA=[]↔val aA=0:=by
 induction aA with
 | nil=>simp [dS,val]
 | cons N aA bU=>
  simp only [dS,val]
  split
  ·next Z=>simp only [true_iff];have:=bU.mp Z.2;omega
  ·next Z=>
   simp only [reduceCtorEq,false_iff]
   intro R
   exact Z ⟨by omega,bU.mpr (by omega)⟩
theorem lR{aA:List Nat}(a:Words aA):aK (val aA)=dS aA:=by
 induction aA with
 | nil=>simp [val,dS,eP]
 | cons N aA bU=>
  have b:=a.cons
  simp only [dS,val]
  split
  ·next Z=>rw [Z.1,pN.mp Z.2];exact eP
  ·next Z=>
   have c:N+4294967296*val aA ≠ 0:=fun R=>Z ⟨by omega,pN.mpr (by omega)⟩
   rw [kE c]
   have d:(N+4294967296*val aA) % 4294967296=N:=by omega
   have e:(N+4294967296*val aA) / 4294967296=val aA:=by omega
   rw [d,e,bU b.2]
theorem rI(aA:List Nat):val (dS aA)=val aA:=by
 induction aA with
 | nil=>rfl
 | cons N aA bU=>
  simp only [dS]
  split
  ·next Z=>simp only [val];rw [Z.1,pN.mp Z.2]
  ·simp only [val];rw [bU]
theorem qF(n:Nat):dS (aK n)=aK n:=by rw [← lR (pM n),e1]
theorem nV{n m:Nat}(Z:n≤m):(aK n).length≤(aK m).length:=by
 induction m using Nat.strongRecOn generalizing n with
 | ind m bU=>
  by_cases a:n=0
  ·subst a;rw [eP];simp
  ·rw [kE a,kE (n:=m) (by omega)]
   simp only [List.length_cons]
   exact Nat.succ_le_succ (bU (m / 4294967296) (by omega) (Nat.div_le_div_right Z))
theorem zJ(aU:List Nat):val aU=aU.headD 0+4294967296*val aU.tail:=by cases aU <;> simp [val]
theorem s6:∀ {aA aU:List Nat} {aC:Nat},Words aA→Words aU→aA.length=aU.length→aC < aA.length→aA.drop (aC+1)=aU.drop (aC+1)→aA.getD aC 0 < aU.getD aC 0→val aA < val aU
 | [],_,_,_,_,_,a,_,_=>absurd a (by simp)
 | N :: aA,[],_,_,_,b,_,_,_=>absurd b (by simp)
 | N :: aA,aP :: aU,0,c,d,b,a,e,Z=>by
  have R:aA=aU:=by simpa using e
  subst R
  simp only [List.getD_cons_zero] at Z
  simp only [val];omega
 | N :: aA,aP :: aU,aC+1,c,d,b,a,e,Z=>by
  have:=s6 (aA:=aA) (aU:=aU) (aC:=aC) c.cons.2 d.cons.2 (by simpa using b) (by simpa using a) (by simpa using e) (by simpa using Z)
  have aZ:=c.cons.1
  have f:=d.cons.1
  simp only [val];omega
theorem rJ:∀ {aA aU:List Nat},Words aA→dS aU=aU→aA.length < aU.length→val aA < val aU
 | _,[],_,_,Z=>absurd Z (by simp)
 | [],aP :: aU,_,a,_=>by
  have:val (aP :: aU) ≠ 0:=fun R=>by rw [pN.mpr R] at a;cases a
  simp only [val] at this ⊢;omega
 | N :: aA,aP :: aU,b,a,Z=>by
  have:=rJ (aA:=aA) (aU:=aU) b.cons.2 (zK a) (by simpa using Z)
  have aZ:=b.cons.1
  simp only [val];omega
theorem hX(aA aU:List Nat):val (aA ++ aU)=val aA+2 ^ (32*aA.length)*val aU:=by
 induction aA with
 | nil=>simp [val]
 | cons N aA bU=>
  simp only [List.cons_append,val,bU,List.length_cons]
  have R:2 ^ (32*(aA.length+1))=4294967296*2 ^ (32*aA.length):=by
   rw [show 32*(aA.length+1)=32+32*aA.length by omega,Nat.pow_add]
  rw [R,Nat.mul_add,Nat.mul_assoc];omega
theorem h7{aA:List Nat}(a:Words aA):val aA < 2 ^ (32*aA.length):=by
 induction aA with
 | nil=>simp [val]
 | cons N aA bU=>
  have R:2 ^ (32*(aA.length+1))=4294967296*2 ^ (32*aA.length):=by
   rw [show 32*(aA.length+1)=32+32*aA.length by omega,Nat.pow_add]
  rw [List.length_cons,R];simp only [val]
  have aZ:=a.cons.1
  have b:=bU a.cons.2
  omega
theorem w6{aA:List Nat}(a:Words aA){n:Nat}(b:aA.length=n+1)(aX:aA.getD n 0 ≠ 0):eB (val aA)=32*n+eB (aA.getD n 0):=by
 have R:aA=aA.take n ++ [aA.getD n 0]:=by rw [← lS (by omega),← b,List.take_length]
 have bW:val aA=val (aA.take n)+2 ^ (32*n)*aA.getD n 0:=by
  conv=>lhs;rw [R]
  rw [hX];simp [val,show min n aA.length=n by omega]
 have c:val (aA.take n) < 2 ^ (32*n):=by
  have:=h7 (aA:=aA.take n) (fun N d=>a N (List.mem_of_mem_take d))
  rwa [List.length_take,show min n aA.length=n by omega] at this
 have e:val aA / 2 ^ (32*n)=aA.getD n 0:=by
  rw [bW,Nat.add_mul_div_left _ _ (Nat.pow_pos (by decide)),Nat.div_eq_of_lt c,Nat.zero_add]
 have:=s7 (val aA) (32*n)
 rw [e] at this
 have:=qG aX
 omega
theorem gR{n S:Nat}:(aK n).length≤S↔n < 2 ^ (32*S):=by
 constructor
 ·intro Z
  have:=h7 (pM n)
  rw [e1] at this
  exact Nat.lt_of_lt_of_le this (Nat.pow_le_pow_right (by decide) (by omega))
 ·intro Z
  induction S generalizing n with
  | zero=>
   have:n=0:=by simpa using Z
   subst this;rw [eP];simp
  | succ S bU=>
   by_cases aX:n=0
   ·subst aX;rw [eP];simp
   ·rw [kE aX,List.length_cons]
    have R:2 ^ (32*(S+1))=2 ^ (32*S)*4294967296:=by
     rw [show 32*(S+1)=32*S+32 by omega,Nat.pow_add]
    rw [R] at Z
    have:=bU (n:=n / 4294967296) (Nat.div_lt_of_lt_mul (by rw [Nat.mul_comm];exact Z))
    omega
theorem zL{a2 bK S:Nat}(a:(aK a2).length≤S)(b:(aK bK).length≤S):(aK (a2+bK)).length≤S+1:=by
 refine gR.mpr ?_
 have aZ:=gR.mp a
 have c:=gR.mp b
 have R:2 ^ (32*(S+1))=2 ^ (32*S)*4294967296:=by
  rw [show 32*(S+1)=32*S+32 by omega,Nat.pow_add]
 rw [R];generalize 2 ^ (32*S)=p at *;omega
theorem zM{v:Nat}(S:Nat):eB v≤32*S↔(aK v).length≤S:=by
 rw [gR,h8]
theorem k2{aA:List Nat}(a:Words aA)(m:Nat):val (aA.drop m)=val aA / 2 ^ (32*m):=by
 by_cases b:m≤aA.length
 ·have R:val aA=val (aA.take m)+2 ^ (32*m)*val (aA.drop m):=by
   conv=>lhs;rw [← List.take_append_drop m aA]
   rw [hX,List.length_take,Nat.min_eq_left b]
  have c:=h7 (aA:=aA.take m) (fun N d=>a N (List.mem_of_mem_take d))
  rw [List.length_take,Nat.min_eq_left b] at c
  rw [R,Nat.add_mul_div_left _ _ (Nat.pow_pos (by decide)),Nat.div_eq_of_lt c,Nat.zero_add]
 ·rw [List.drop_of_length_le (by omega)]
  have:=h7 a
  have e:2 ^ (32*aA.length)≤2 ^ (32*m):=Nat.pow_le_pow_right (by decide) (by omega)
  rw [Nat.div_eq_of_lt (by omega)];rfl
theorem mD{S:Nat}(a:S < 32):2 ^ S*2 ^ (32 - S)=4294967296:=by
 rw [← Nat.pow_add,show S+(32 - S)=32 by omega]
theorem Br{aA:List Nat}(b:Words aA){m S:Nat}(c:m < aA.length)(d:S < 32):val (aA.take m ++ [aA.getD m 0 % 2 ^ S])=val aA % 2 ^ (32*m+S):=by
 have R:val aA=val (aA.take m)+2 ^ (32*m)*val (aA.drop m):=by
  conv=>lhs;rw [← List.take_append_drop m aA]
  rw [hX,List.length_take,Nat.min_eq_left (by omega)]
 have a:=h7 (aA:=aA.take m) (fun N e=>b N (List.mem_of_mem_take e))
 rw [List.length_take,Nat.min_eq_left (by omega)] at a
 rw [hX,List.length_take,Nat.min_eq_left (by omega),Nat.pow_add,Nat.mod_mul,R,Nat.add_mul_mod_self_left,Nat.mod_eq_of_lt a,Nat.add_mul_div_left _ _ (Nat.pow_pos (by decide)),Nat.div_eq_of_lt a,Nat.zero_add,iK c]
 simp only [val,Nat.mul_zero,Nat.add_zero]
 congr 2
 rw [← mD d,Nat.mul_assoc,Nat.add_mul_mod_self_left]
theorem lQ:∀ {a6:List Nat} {aC v:Nat},aC < a6.length→val (a6.set aC v)+a6.getD aC 0*2 ^ (32*aC)=val a6+v*2 ^ (32*aC)
 | [],_,_,Z=>absurd Z (by simp)
 | bI :: a6,0,v,_=>by simp [val];omega
 | bI :: a6,aC+1,v,Z=>by
  have bU:=lQ (a6:=a6) (aC:=aC) (v:=v) (by simpa using Z)
  have R:2 ^ (32*(aC+1))=4294967296*2 ^ (32*aC):=by
   rw [show 32*(aC+1)=32+32*aC by omega,Nat.pow_add]
  simp only [List.set_cons_succ,val,List.getD_cons_succ,R]
  have b:a6.getD aC 0*(4294967296*2 ^ (32*aC))=4294967296*(a6.getD aC 0*2 ^ (32*aC)):=Nat.mul_left_comm _ _ _
  have c:v*(4294967296*2 ^ (32*aC))=4294967296*(v*2 ^ (32*aC)):=Nat.mul_left_comm _ _ _
  rw [b,c]
  generalize a6.getD aC 0*2 ^ (32*aC)=a at *
  generalize v*2 ^ (32*aC)=L at *
  omega
theorem j2(aC:Nat):2 ^ (32*(aC+1))=4294967296*2 ^ (32*aC):=by
 rw [show 32*(aC+1)=32+32*aC by omega,Nat.pow_add]
theorem lE(aA:List Nat)(O:Nat):val (aA.drop O)=aA.getD O 0+4294967296*val (aA.drop (O+1)):=by
 by_cases Z:O < aA.length
 ·rw [iK Z];rfl
 ·rw [List.drop_of_length_le (by omega),List.drop_of_length_le (by omega)]
  simp [val,List.getD,show aA.length≤O by omega]
theorem Bq{a6:List Nat}{T P O:Nat}(a:P=2 ^ (32*O))(Z:P≤T)(b:T < 2 ^ (32*a6.length)):O < a6.length:=by
 subst a
 refine Nat.lt_of_not_le fun c=>?_
 have:2 ^ (32*a6.length)≤2 ^ (32*O):=Nat.pow_le_pow_right (by decide) (by omega)
 omega
theorem s5(m:Nat):val (List.replicate m 0)=0:=by
 induction m with
 | zero=>rfl
 | succ m bU=>rw [List.replicate_succ];simp [val,bU]
end Go.Gv.D
namespace Go.Gv
structure j3(cX:Type) where
 enc:cX→Value
 ok:cX→Prop
 fL:Nat
 plain:∀ N,m2 (enc N)=true
def dP:j3 Nat:=⟨fun N=>.int .u64 (N:Int),fun N=>N < 18446744073709551616,35184372088828,fun _=>rfl⟩
def b6:j3 Nat:=⟨fun N=>.int .u32 (N:Int),fun N=>N < 4294967296,70368744177656,fun _=>rfl⟩
def Ed:j3 Nat:=⟨fun N=>.int .u8 (N:Int),fun N=>N < 256,281474976710656,fun _=>rfl⟩
instance (N:Nat):Decidable (dP.ok N):=inferInstanceAs (Decidable (N < 18446744073709551616))
instance (N:Nat):Decidable (b6.ok N):=inferInstanceAs (Decidable (N < 4294967296))
instance (N:Nat):Decidable (Ed.ok N):=inferInstanceAs (Decidable (N < 256))
theorem Ee:dP.ok 0:=(by decide:0 < 18446744073709551616)
theorem pO:b6.ok 0:=(by decide:0 < 4294967296)
abbrev jP:=Option Addr × Nat × Nat
def oL:j3 jP:=⟨fun aH=>.slice aH.1 aH.2.1 aH.2.2,fun _=>True,11728124029610,fun _=>rfl⟩
variable {cX:Type} {E:j3 cX}
structure cH(E:j3 cX)(Z:U)(a:M)(c:Nat)(aA:List cX):Prop where
 len:aA.length≤E.fL
 cap:aA.length≤c
 ok:∀ N ∈ aA,E.ok N
 at_:∀ O N,aA[O]?=some N→∃ p,a=some p∧gP Z (p.add O)=some (E.enc N)
theorem cH.aR{Z K:U}{a:M}{c:Nat}{aA:List cX}(r:cH E Z a c aA)(S:bA Z K):cH E K a c aA:=
 ⟨r.len,r.cap,r.ok,fun O N a4=>let ⟨p,R,g⟩:=r.at_ O N a4;⟨p,R,S.cell g⟩⟩
theorem cH.nil(Z:U)(a:M)(c:Nat):cH E Z a c []:=⟨by simp,by simp,by simp,fun O N a4=>by simp at a4⟩
theorem cH.take{Z:U}{a:M}{c:Nat}{aA:List cX}(r:cH E Z a c aA)(n:Nat):cH E Z a c (aA.take n):=by
 refine⟨?_,?_,fun N b=>r.ok N (List.mem_of_mem_take b),fun O N a4=>?_⟩
 ·have:=r.len;rw [List.length_take];omega
 ·have:=r.cap;rw [List.length_take];omega
 ·rw [List.getElem?_take] at a4
  split at a4
  ·exact r.at_ O N a4
  ·cases a4
theorem cH.drop{Z:U}{a:M}{c m:Nat}{aA:List cX}(r:cH E Z a c aA)(n:Nat)(d:n≤aA.length)(e:aA.length≤m):cH E Z (iY a m n 1) (m - n) (aA.drop n):=by
 have aZ:=r.len;have f:=r.cap
 refine⟨?_,?_,fun N b=>r.ok N (List.mem_of_mem_drop b),fun O N a4=>?_⟩
 ·rw [List.length_drop];omega
 ·rw [List.length_drop];omega
 ·rw [List.getElem?_drop] at a4
  obtain⟨p,R,g⟩:=r.at_ (n+O) N a4
  have h:=(List.getElem?_eq_some_iff.mp a4).1
  refine⟨p.add n,?_,by rw [add_add];exact g⟩
  rw [R];unfold iY
  rw [if_neg (by omega)];simp
theorem Bs{Z:U}{a:M}{c l:Nat}{aA:List cX}(r:cH E Z a c aA){O:Int}{aC:Nat}(a4:O=(aC:Int))(d:l=aA.length){N:cX}(b:aA[aC]?=some N){aF:Value→Prop}
  (g:aF (E.enc N)):c7 a l O 1 fun aE=>fG Z aE aF:=by
 subst a4;subst d
 obtain⟨p,R,e⟩:=r.at_ aC N b
 have h:=(List.getElem?_eq_some_iff.mp b).1
 subst R
 refine⟨⟨by omega,by omega⟩,?_⟩
 show fG Z (p.add ((aC:Int).toNat*1)) _
 have f:(aC:Int).toNat*1=aC:=by omega
 rw [f]
 unfold fG;rw [e];exact g
theorem getD_some{aA:List Nat}{aC:Nat}(a:aC < aA.length):aA[aC]?=some (aA.getD aC 0):=by simp [List.getD,a]
theorem iR{Z:U}{a:M}{c l:Nat}{aA:List Nat}(r:cH b6 Z a c aA){O:Int}{aC:Nat}(a4:O=(aC:Int))(b:l=aA.length)(d:aC < aA.length){aF:Int→Prop}
  (g:aF (aA.getD aC 0:Nat)):c7 a l O 1 fun aE=>fG Z aE fun v=>aW .u32 v aF:=
 Bs r a4 b (getD_some d) g
theorem Ef{Z:U}{a:M}{c l:Nat}{aA:List Nat}(r:cH dP Z a c aA){O:Int}{aC:Nat}(a4:O=(aC:Int))(b:l=aA.length)(d:aC < aA.length){aF:Int→Prop}
  (g:aF (aA.getD aC 0:Nat)):c7 a l O 1 fun aE=>fG Z aE fun v=>aW .u64 v aF:=
 Bs r a4 b (getD_some d) g
theorem IJ{Z:U}{a:M}{c l:Nat}{aA:List jP}(r:cH oL Z a c aA){O:Int}{aC:Nat}(a4:O=(aC:Int))(b:l=aA.length){N:jP}(d:aA[aC]?=some N){aF:M→Nat→Nat→Prop}
  (g:aF N.1 N.2.1 N.2.2):c7 a l O 1 fun aE=>fG Z aE fun v=>aQ v aF:=
 Bs r a4 b d g
theorem cH.w7{Z:U}{a:M}{c:Nat}{aA:List Nat}(r:cH dP Z a c aA):cG Z a c aA:=
 ⟨r.len,r.cap,r.ok,fun O a4=>r.at_ O _ (getD_some a4)⟩
structure dZ(E:j3 cX)(Z:U)(L:Nat)(a6:List cX):Prop where
 ok:∀ N ∈ a6,E.ok N
 at_:∃ R,Z[L]?=some (.cells (a6.map E.enc).toArray R (0,0))
theorem dZ.lt{Z:U}{L:Nat}{a6:List cX}(aN:dZ E Z L a6):L < Z.size:=by
 obtain⟨R,g⟩:=aN.at_;exact(Array.getElem?_eq_some_iff.mp g).1
theorem dZ.cell{Z:U}{L:Nat}{a6:List cX}(aN:dZ E Z L a6){O:Nat}{N:cX}(a4:a6[O]?=some N):gP Z ⟨L,O,none⟩=some (E.enc N):=by
 obtain⟨R,g⟩:=aN.at_
 unfold gP
 simp only [g,Option.isSome_none,Bool.false_eq_true,if_false]
 simp [a4]
theorem dZ.frozen{Z:U}{L:Nat}{a6:List cX}(aN:dZ E Z L a6)(O:Nat):mB Z ⟨L,O,none⟩=false:=by
 obtain⟨R,g⟩:=aN.at_
 unfold mB
 simp [g]
theorem dZ.Bt{Z:U}{L off n c:Nat}{a6:List cX}(aN:dZ E Z L a6)(b:n≤E.fL)(d:off+n≤a6.length)(e:n≤c):cH E Z (some ⟨L,off,none⟩) c ((a6.drop off).take n):=by
 refine⟨by rw [List.length_take];omega,by rw [List.length_take];omega,fun N a=>aN.ok N (List.mem_of_mem_drop (List.mem_of_mem_take a)),fun O N a4=>⟨_,rfl,?_⟩⟩
 rw [List.getElem?_take] at a4
 split at a4
 ·rw [List.getElem?_drop] at a4
  have R:(⟨L,off,none⟩:Addr).add O=⟨L,off+O,none⟩:=by
   rw [← cB L off,add_add,cB]
  rw [R];exact aN.cell a4
 ·cases a4
theorem dZ.rd{Z:U}{L c:Nat}{aA rest:List cX}(aN:dZ E Z L (aA ++ rest))(a:aA.length≤E.fL)(b:aA.length≤c):cH E Z (some ⟨L,0,none⟩) c aA:=by
 have:=aN.Bt (off:=0) (n:=aA.length) (c:=c) a (by simp) b
 simpa using this
theorem dZ.qH{Z:U}{L c:Nat}{aA:List cX}(aN:dZ E Z L aA)(a:aA.length≤E.fL)(b:aA.length≤c):cH E Z (some ⟨L,0,none⟩) c aA:=
 dZ.rd (rest:=[]) (by simpa using aN) a b
theorem dZ.set{Z:U}{L:Nat}{a6:List cX}(aN:dZ E Z L a6)(O:Nat){v:cX}(bW:E.ok v):dZ E (gQ Z ⟨L,O,none⟩ (E.enc v)) L (a6.set O v):=by
 refine⟨fun N a=>?_,?_⟩
 ·rcases List.mem_or_eq_of_mem_set a with aZ | aZ
  ·exact aN.ok N aZ
  ·subst aZ;exact bW
 ·obtain⟨R,g⟩:=aN.at_
  refine⟨R,?_⟩
  unfold gQ
  rw [Array.getElem?_modify]
  simp only [if_true,g,Option.map_some]
  simp [List.map_set]
theorem dZ.aR{Z K:U}{L:Nat}{a6:List cX}(aN:dZ E Z L a6)(S:bA Z K):dZ E K L a6:=by
 obtain⟨R,g⟩:=aN.at_
 exact⟨aN.ok,R,by rw [S.pre L aN.lt];exact g⟩
theorem dZ.cL{aE:Nat}{Z K:U}{L:Nat}{a6:List cX}(aN:dZ E Z L a6)(a:L ≠ aE)(S:cD aE Z K):dZ E K L a6:=by
 obtain⟨R,g⟩:=aN.at_
 exact⟨aN.ok,R,by rw [S.pre L aN.lt a];exact g⟩
theorem cH.cL{aE:Nat}{Z K:U}{a:M}{c:Nat}{aA:List cX}(r:cH E Z a c aA)(aN:fU aE a)(S:cD aE Z K):cH E K a c aA:=
 ⟨r.len,r.cap,r.ok,fun O N a4=>by
  obtain⟨p,R,g⟩:=r.at_ O N a4
  refine⟨p,R,?_⟩
  have b:=s4 g
  rw [rF (S.pre _ b (by rw [pJ];exact aN p R))];exact g⟩
theorem Bu{Z:U}{L l off:Nat}{a6:List cX}(aN:dZ E Z L a6){O:Int}{aC:Nat}(a4:O=(aC:Int))(d:aC < l)(e:off+aC < a6.length){N:Value}{v:cX}(a:N=E.enc v)(bW:E.ok v){aF:U→Prop}
  (g:dZ E (gQ Z ⟨L,off+aC,none⟩ (E.enc v)) L (a6.set (off+aC) v)→cD L Z (gQ Z ⟨L,off+aC,none⟩ (E.enc v))→aF (gQ Z ⟨L,off+aC,none⟩ (E.enc v))):c7 (some ⟨L,off,none⟩) l O 1 fun aE=>cC Z aE N aF:=by
 subst a4;subst a
 refine⟨⟨by omega,by omega⟩,?_⟩
 show cC Z ((⟨L,off,none⟩:Addr).add ((aC:Int).toNat*1)) _ _
 have b:(aC:Int).toNat*1=aC:=by omega
 have R:(⟨L,off,none⟩:Addr).add aC=⟨L,off+aC,none⟩:=by
  rw [← cB L off,add_add,cB]
 rw [b,R]
 obtain⟨aB,c⟩:∃ aB,a6[off+aC]?=some aB:=⟨a6[off+aC],by simp⟩
 exact⟨⟨⟨_,aN.cell c⟩,aN.frozen _⟩,g (aN.set _ bW) (cD.set _ _ _ _)⟩
theorem zN{Z:U}{L l:Nat}{a6:List cX}(aN:dZ E Z L a6){O:Int}{aC:Nat}(a4:O=(aC:Int))(a:aC < l)(b:aC < a6.length){N:Value}{v:cX}(c:N=E.enc v)(bW:E.ok v){aF:U→Prop}
  (g:dZ E (gQ Z ⟨L,aC,none⟩ (E.enc v)) L (a6.set aC v)→cD L Z (gQ Z ⟨L,aC,none⟩ (E.enc v))→aF (gQ Z ⟨L,aC,none⟩ (E.enc v))):c7 (some ⟨L,0,none⟩) l O 1 fun aE=>cC Z aE N aF:=by
 have R:0+aC=aC:=Nat.zero_add aC
 refine Bu (off:=0) aN a4 a (by rw [R];exact b) c bW ?_
 rw [R];exact g
theorem pP{Z:U}{R:TypeId}{O:dQ}{n m:Int}(E:j3 cX)(bI:cX)(a L:Nat)(c:O.a6=[E.enc bI])(ok:E.ok bI)(hV:Nat)(b:O.bytes=hV)(h:1≤hV)(d:n=(a:Int))(e:m=(L:Int))(i:a≤L)(j:hV*L≤281474976710656){aF:Addr→U→Prop}
  (g:∀ K,dZ E K Z.size (List.replicate L bI)→bA Z K→aF ⟨Z.size,0,none⟩ K):iI Z R O n m aF:=by
 subst d;subst e;subst b
 refine⟨⟨by omega,by omega,by omega,?_⟩,g _ ⟨?_,R,?_⟩ ⟨by simp,fun L b=>?_⟩⟩
 ·have:((O.bytes:Int)*(L:Int))=((O.bytes*L:Nat):Int):=by simp
  rw [this];omega
 ·intro N f;rw [List.eq_of_mem_replicate f];exact ok
 ·rw [c,Bv];simp
 ·rw [Array.getElem?_push];rw [if_neg (by omega)]
theorem vC{Z:U}{R:TypeId}{c2:List Value}(E:j3 cX)(aA:List cX)(a:c2=aA.map E.enc)(b:∀ N ∈ aA,E.ok N){aF:Addr→U→Prop}
  (g:∀ K,dZ E K Z.size aA→bA Z K→aF ⟨Z.size,0,none⟩ K):dN Z R c2 aF:=by
 subst a
 refine g _ ⟨b,R,?_⟩ ⟨by simp,fun L c=>?_⟩
 ·simp
 ·rw [Array.getElem?_push];rw [if_neg (by omega)]
theorem Eg{Z:U}{p:Addr}:∀ {bV:List cX} {O:Nat},(∀ aC N,bV[aC]?=some N→gP Z (p.add (O+aC))=some (E.enc N))→j1 Z p O (bV.map E.enc)
 | [],_,_=>trivial
 | v :: bV,O,g=>by
  refine⟨by have:=g 0 v (by simp);simpa using this,Eg fun aC N a=>?_⟩
  have:=g (aC+1) N (by simpa using a)
  rw [show O+1+aC=O+(aC+1) by omega];exact this
theorem Bw{Z:U}{p:Addr}:∀ {n O:Nat},(∀ aC,aC < n→(∃ v,gP Z (p.add (O+aC))=some v)∧mB Z (p.add (O+aC))=false)→pA Z p O n
 | 0,_,_=>trivial
 | n+1,O,g=>by
  refine⟨by have:=g 0 (by omega);simpa using this,Bw fun aC a=>?_⟩
  have:=g (aC+1) (by omega)
  rw [show O+1+aC=O+(aC+1) by omega];exact this
theorem Bx{L:Nat}:∀ {bV:List cX} {Z:U} {a6:List cX} {off O:Nat},dZ E Z L a6→(∀ N ∈ bV,E.ok N)→off+O+bV.length≤a6.length→
  dZ E (j0 Z ⟨L,off,none⟩ O (bV.map E.enc)) L (a6.take (off+O) ++ (bV ++ a6.drop (off+O+bV.length)))∧cD L Z (j0 Z ⟨L,off,none⟩ O (bV.map E.enc))
 | [],Z,a6,off,O,aN,_,a=>by
  refine⟨?_,cD.refl _ _⟩
  simp only [List.map_nil,j0,List.length_nil,Nat.add_zero,List.nil_append,List.take_append_drop];exact aN
 | v :: bV,Z,a6,off,O,aN,bW,a=>by
  have R:(⟨L,off,none⟩:Addr).add O=⟨L,off+O,none⟩:=by
   rw [← cB L off,add_add,cB]
  simp only [List.length_cons] at a
  have b:=aN.set (off+O) (bW v (by simp))
  obtain⟨c,d⟩:=Bx (bV:=bV) (off:=off) (O:=O+1) b (fun N e=>bW N (by simp [e])) (by rw [List.length_set];omega)
  simp only [List.map_cons,j0,R]
  refine⟨?_,(cD.set _ _ _ _).trans d⟩
  have f:(a6.set (off+O) v).take (off+(O+1)) ++ (bV ++ (a6.set (off+O) v).drop (off+(O+1)+bV.length))=a6.take (off+O) ++ ((v :: bV) ++ a6.drop (off+O+(v :: bV).length)):=by
   rw [show off+(O+1)=off+O+1 by omega]
   rw [List.drop_set_of_lt (by omega),List.take_set,List.take_add_one]
   have:(a6.take (off+O) ++ a6[off+O]?.toList).set (off+O) v=a6.take (off+O) ++ [v]:=by
    rw [List.set_append_right _ _ (by rw [List.length_take];omega)]
    have g:a6[off+O]?=some (a6[off+O]'(by omega)):=by simp
    rw [g]
    have h:off+O - (a6.take (off+O)).length=0:=by rw [List.length_take];omega
    rw [h];rfl
   rw [this]
   simp only [List.length_cons,List.cons_append,List.append_assoc,List.nil_append]
   rw [show off+O+1+bV.length=off+O+(bV.length+1) by omega]
  rw [← f];exact c
theorem cH.By{Z:U}{a:M}{c l bG:Nat}{aA:List cX}(r:cH E Z a c aA)(n:Nat)(f:n≤aA.length):wT Z 1 (.slice a l bG) n ((aA.take n).map E.enc):=by
 refine⟨by rw [List.length_map,List.length_take];omega,?_,?_⟩
 ·intro v bW
  obtain⟨N,_,R⟩:=List.mem_map.mp bW
  subst R;exact E.plain N
 ·cases a with
  | none=>
   show(aA.take n).map E.enc=[]
   cases aA with
   | nil=>simp
   | cons aP aU=>obtain⟨p,R,_⟩:=r.at_ 0 aP (by simp);cases R
  | some p=>
   refine Eg fun aC N b=>?_
   rw [Nat.zero_add]
   obtain⟨aE,d,e⟩:=(r.take n).at_ aC N b
   cases d;exact e
theorem IK{Z:U}{L l bZ bG:Nat}{a6 aU:List cX}{a:M}(aN:dZ E Z L a6)(r:cH E Z a bG aU)(h:l≤a6.length)(c:bZ=aU.length){cR:Nat}{aF:Int→U→Prop}
  (g:∀ K,dZ E K L (aU.take (min aU.length l) ++ a6.drop (min aU.length l))→cD L Z K→aF ((min aU.length l:Nat):Int) K):m3 Z 1 (some ⟨L,0,none⟩) l (.slice a bZ cR) aF:=by
 subst c
 have i:Nat.min aU.length l=min aU.length l:=rfl
 refine⟨aU.length,(aU.take (min aU.length l)).map E.enc,rfl,r.By _ (by omega),?_⟩
 have b:(aU.take (min aU.length l)).length=min aU.length l:=by rw [List.length_take];omega
 have:=Bx (bV:=aU.take (min aU.length l)) (off:=0) (O:=0) aN (fun N d=>r.ok N (List.mem_of_mem_take d)) (by rw [b];omega)
 refine⟨Bw fun aC e=>?_,?_⟩
 ·rw [List.length_map,b] at e
  rw [Nat.zero_add,cB]
  obtain⟨aB,f⟩:∃ aB,a6[aC]?=some aB:=⟨a6[aC]'(by omega),by simp⟩
  exact⟨⟨_,aN.cell f⟩,aN.frozen _⟩
 ·refine g _ ?_ this.2
  have aZ:=this.1
  rw [b] at aZ
  simpa using aZ
structure cV(E:j3 cX)(aX Z:U)(a:M)(c:Nat)(aA:List cX):Prop where
 len:aA.length≤E.fL
 cap:aA.length≤c
 here:(aA=[]∧a=none∧c=0)∨∃ L rest,a=some ⟨L,0,none⟩∧aX.size≤L∧dZ E Z L (aA ++ rest)∧c≤(aA ++ rest).length
theorem cV.nil(aX Z:U):cV E aX Z none 0 []:=⟨by simp,by simp,Or.inl ⟨rfl,rfl,rfl⟩⟩
theorem cV.rd{aX Z:U}{a:M}{c:Nat}{aA:List cX}(g:cV E aX Z a c aA):cH E Z a c aA:=by
 rcases g.here with ⟨b,d,e⟩ | ⟨L,rest,b,_,aN,_⟩
 ·subst b;exact cH.nil _ _ _
 ·subst b;exact aN.rd g.len g.cap
theorem cV.aR{aX Z K:U}{a:M}{c:Nat}{aA:List cX}(g:cV E aX Z a c aA)(S:bA Z K):cV E aX K a c aA:=
 ⟨g.len,g.cap,g.here.imp id fun ⟨L,rest,b,d,aN,e⟩=>⟨L,rest,b,d,aN.aR S,e⟩⟩
theorem cV.from{aX aZ Z:U}{a:M}{c:Nat}{aA:List cX}(g:cV E aZ Z a c aA)(S:aX.size≤aZ.size):cV E aX Z a c aA:=
 ⟨g.len,g.cap,g.here.imp id fun ⟨L,rest,b,d,aN,e⟩=>⟨L,rest,b,Nat.le_trans S d,aN,e⟩⟩
theorem dZ.kF{aX Z:U}{L c:Nat}{aA rest:List cX}(aN:dZ E Z L (aA ++ rest))(a:aX.size≤L)(b:aA.length≤E.fL)(aZ:aA.length≤c)(d:c≤(aA ++ rest).length):cV E aX Z (some ⟨L,0,none⟩) c aA:=
 ⟨b,aZ,Or.inr ⟨L,rest,rfl,a,aN,d⟩⟩
theorem dZ.mE{aX Z:U}{L c:Nat}{aA:List cX}(aN:dZ E Z L aA)(a:aX.size≤L)(b:aA.length≤E.fL)(d:c=aA.length):cV E aX Z (some ⟨L,0,none⟩) c aA:=
 dZ.kF (rest:=[]) (by simpa using aN) a b (by omega) (by simp;omega)
theorem cV.take{aX Z:U}{a:M}{c:Nat}{aA:List cX}(g:cV E aX Z a c aA)(n:Nat):cV E aX Z a c (aA.take n):=by
 have aZ:=g.len;have f:=g.cap
 refine⟨by rw [List.length_take];omega,by rw [List.length_take];omega,?_⟩
 rcases g.here with ⟨b,d,e⟩ | ⟨L,rest,b,d,aN,e⟩
 ·subst b;exact Or.inl ⟨by simp,d,e⟩
 ·refine Or.inr ⟨L,aA.drop n ++ rest,b,d,?_,?_⟩
  ·rw [← List.append_assoc,List.take_append_drop];exact aN
  ·rw [← List.append_assoc,List.take_append_drop];exact e
structure nW(a:M)(Z K:U):Prop where
 le:Z.size≤K.size
 pre:∀ L,L < Z.size→fU L a→K[L]?=Z[L]?
theorem nW.aR{a:M}{aX Z K:U}(b:bA aX Z)(S:nW a Z K)(c:∀ L,L < aX.size→fU L a):bA aX K:=
 ⟨Nat.le_trans b.le S.le,fun L d=>(S.pre L (Nat.lt_of_lt_of_le d b.le) (c L d)).trans (b.pre L d)⟩
theorem cV.zO{aX Z:U}{a:M}{c:Nat}{aA:List cX}(g:cV E aX Z a c aA):∀ L,L < aX.size→fU L a:=by
 intro L f p R
 rcases g.here with ⟨_,b,_⟩ | ⟨d,rest,e,b,_,_⟩
 ·rw [b] at R;cases R
 ·rw [e] at R;cases R;show d ≠ L;omega
theorem nW.refl(a:M)(Z:U):nW a Z Z:=⟨Nat.le_refl _,fun _ _ _=>rfl⟩
theorem Eh{aX Z:U}{R:TypeId}{O:dQ}{a bJ:M}{l c bG cR n:Nat}{aA aU:List cX}(g:cV E aX Z a c aA)(v:aX.size≤Z.size)(r:cH E Z bJ bG aU)(w:l=aA.length)(x:n=aU.length)(h:O.leaves.length=1)(bI:cX)(y:O.a6=[E.enc bI])(z:E.ok bI)
  (hV:Nat) (A:O.bytes=hV) (o:1≤hV) (p:aA.length+aU.length≤E.fL) (i:c < aA.length+aU.length→(aA.length+aU.length)*hV≤140737488355328) {aF:M→Nat→Nat→U→Prop}
  (post:∀ b dF K,cV E aX K b dF (aA ++ aU)→nW a Z K→(aA.length+aU.length≤c→dF=c∧b=a)→(b=a∨∃ L,b=some ⟨L,0,none⟩∧Z.size≤L)→aF b (aA.length+aU.length) dF K):hF Z R O a l c (.slice bJ n cR) aF:=by
 subst w;subst x;subst A
 have J:=g.cap
 refine⟨aU.length,aU.map E.enc,rfl,?_,?_,?_⟩
 ·rw [h];have:=r.By (l:=aU.length) (bG:=cR) aU.length (Nat.le_refl _);rw [List.take_length] at this;exact this
 ·intro d
  rcases g.here with ⟨j,k,e⟩ | ⟨L,rest,j,k,aN,e⟩
  ·subst j;subst k;subst e
   have:aU=[]:=List.length_eq_zero_iff.mp (by simpa using d)
   subst this
   exact post none 0 Z (cV.nil _ _) (nW.refl _ _) (fun _=>⟨rfl,rfl⟩) (Or.inl rfl)
  ·subst j
   rw [h,Nat.mul_one]
   show pA Z ((⟨L,0,none⟩:Addr).add aA.length) 0 (List.map E.enc aU).length∧aF (some ⟨L,0,none⟩) (aA.length+aU.length) c (j0 Z ((⟨L,0,none⟩:Addr).add aA.length) 0 (List.map E.enc aU))
   rw [cB]
   have P:aU.length≤rest.length:=by rw [List.length_append] at e;omega
   have f:=Bx (bV:=aU) (off:=aA.length) (O:=0) aN r.ok (by rw [List.length_append];omega)
   refine⟨Bw fun aC B=>?_,?_⟩
   ·rw [List.length_map] at B
    have R:(⟨L,aA.length,none⟩:Addr).add (0+aC)=⟨L,aA.length+aC,none⟩:=by
     rw [Nat.zero_add,← cB L aA.length,add_add,cB]
    rw [R]
    obtain⟨aB,C⟩:∃ aB,(aA ++ rest)[aA.length+aC]?=some aB:=⟨_,List.getElem?_eq_getElem (by rw [List.length_append];omega)⟩
    exact⟨⟨_,aN.cell C⟩,aN.frozen _⟩
   ·have D:(aA ++ rest).take (aA.length+0) ++ (aU ++ (aA ++ rest).drop (aA.length+0+aU.length))=(aA ++ aU) ++ rest.drop aU.length:=by
     rw [Nat.add_zero,List.take_left,List.drop_append,List.drop_of_length_le (by omega),List.nil_append,List.append_assoc]
     congr 3;omega
    rw [D] at f
    refine post _ _ _ ?_ ⟨f.2.le,fun q s F=>f.2.pre q s (fun R=>F _ rfl R.symm)⟩ (fun _=>⟨rfl,rfl⟩) (Or.inl rfl)
    refine⟨by rw [List.length_append];exact p,by rw [List.length_append];exact d,Or.inr ⟨L,rest.drop aU.length,rfl,k,f.1,?_⟩⟩
    rw [List.length_append] at e
    rw [List.length_append,List.length_append,List.length_drop];omega
 ·intro d
  have t:c < aA.length+aU.length:=by omega
  have i:=i t
  refine⟨growslice_fits t i,o,?_,(aA.map E.enc),?_,?_⟩
  ·have:(aA.length+aU.length)*1≤(aA.length+aU.length)*O.bytes:=Nat.mul_le_mul_left _ o
   omega
  ·rw [h];have:=g.rd.By (l:=aA.length) (bG:=c) aA.length (Nat.le_refl _);rw [List.take_length] at this;exact this
  ·intro u G
   refine post _ _ _ ?_ ⟨by simp,fun q s _=>by rw [Array.getElem?_push];rw [if_neg (by omega)]⟩ (fun H=>absurd H d) (Or.inr ⟨_,rfl,Nat.le_refl _⟩)
   have aN:dZ E (Z.push (.cells (aA.map E.enc ++ (aU.map E.enc ++ h6 O.a6 (u - (aA.length+aU.length)))).toArray R (0,0))) Z.size ((aA ++ aU) ++ List.replicate (u - (aA.length+aU.length)) bI):=by
    refine⟨fun N I=>?_,R,?_⟩
    ·rcases List.mem_append.mp I with aZ | aZ
     ·rcases List.mem_append.mp aZ with m | m
      ·exact g.rd.ok N m
      ·exact r.ok N m
     ·rw [List.eq_of_mem_replicate aZ];exact z
    ·rw [y,Bv];simp
   exact aN.kF v (by rw [List.length_append];exact p) (by rw [List.length_append];exact G) (by simp;omega)
theorem Ei{aX Z:U}{R:TypeId}{O:dQ}{a bJ:M}{l c bG cR n:Nat}{aA aU:List cX}(g:cV E aX Z a c aA)(b:aX.size≤Z.size)(r:cH E Z bJ bG aU)(d:l=aA.length)(e:n=aU.length)(f:O.leaves.length=1)(bI:cX)(h:O.a6=[E.enc bI])(i:E.ok bI)
  (hV:Nat) (j:O.bytes=hV) (k:1≤hV) (m:aA.length+aU.length≤E.fL) (o:c < aA.length+aU.length→(aA.length+aU.length)*hV≤140737488355328) {aF:M→Nat→Nat→U→Prop}
  (post:∀ p dF K,cV E aX K p dF (aA ++ aU)→nW a Z K→(aA.length+aU.length≤c→dF=c∧p=a)→aF p (aA.length+aU.length) dF K):hF Z R O a l c (.slice bJ n cR) aF:=
 Eh g b r d e f bI h i hV j k m o fun p dF K b cS d _=>post p dF K b cS d
theorem Ej{aX Z:U}{R:TypeId}{O:dQ}{a bJ:M}{l c bG cR n:Nat}{aA aU:List cX}(g:cV E aX Z a c aA)(b:aX.size≤Z.size)(r:cH E Z bJ bG aU)(d:l=aA.length)(e:n=aU.length)(f:O.leaves.length=1)(bI:cX)(h:O.a6=[E.enc bI])(i:E.ok bI)
  (hV:Nat) (j:O.bytes=hV) (k:1≤hV) (m:aA.length+aU.length≤E.fL) (o:c < aA.length+aU.length→(aA.length+aU.length)*hV≤140737488355328) {aF:M→Nat→Nat→U→Prop}
  (post:∀ p dF K,cV E aX K p dF (aA ++ aU)→nW a Z K→(aA.length+aU.length≤c→dF=c)→aF p (aA.length+aU.length) dF K):hF Z R O a l c (.slice bJ n cR) aF:=
 Ei g b r d e f bI h i hV j k m o fun p dF K b cS d=>post p dF K b cS fun b=>(d b).1
theorem Ek{aX Z:U}{R:TypeId}{O:dQ}{a:M}{l c n m:Nat}{c2:List Value}{aA:List cX}(E:j3 cX)(g:cV E aX Z a c aA)(e:bA aX Z)(aU:List cX)(h:c2=aU.map E.enc)(i:∀ aP ∈ aU,E.ok aP)(j:l=aA.length)(k:n=aU.length)(o:O.leaves.length=1)(bI:cX)(p:O.a6=[E.enc bI])(q:E.ok bI)
  (hV:Nat) (s:O.bytes=hV) (t:1≤hV) (u:aA.length+aU.length≤E.fL) (v:c < aA.length+aU.length→(aA.length+aU.length)*hV≤140737488355328) {aF:M→Nat→Nat→U→Prop}
  (post:∀ b dF K,cV E aX K b dF (aA ++ aU)→bA aX K→(aA.length+aU.length≤c→dF=c)→aF b (aA.length+aU.length) dF K):dN Z R c2 fun aE f=>hF f R O a l c (.slice (some aE) n m) aF:=by
 refine vC E aU h i fun f w d=>?_
 have r:=w.qH (c:=aU.length) (by omega) (Nat.le_refl _)
 refine Ej (g.aR d) (Nat.le_trans e.le d.le) r j k o bI p q hV s t u v fun b dF K x y z=>post b dF K x ?_ z
 exact y.aR (e.trans d) g.zO
abbrev iS(hC:Type):=U→U→Value→hC→Prop
def hY{hC:Type}(c6:iS hC)(aX:U)(aF:Value→U→Prop)(r:hC):Prop:=∀ v K,bA aX K→c6 aX K v r→aF v K
def zP:iS Bool:=fun _ _ v L=>v=.bool L
def IL{cX:Type}(E:j3 cX):iS (List cX):=fun aX Z v aA=>∃ a c,v=.slice a aA.length c∧cV E aX Z a c aA
abbrev s8:iS (List Nat):=IL dP
def s2{cX hC:Type}(c6:iS cX)(T:iS hC):iS (cX × hC):=fun aX Z v p=>∃ N aP,v=.tuple #[N,aP]∧c6 aX Z N p.1∧T aX Z aP p.2
def hN{cX hC a:Type}(c6:iS cX)(T:iS hC)(dH:iS a):iS (cX × hC × a):=fun aX Z v p=>∃ N aP bI,v=.tuple #[N,aP,bI]∧c6 aX Z N p.1∧T aX Z aP p.2.1∧dH aX Z bI p.2.2
def w8{cX hC a b:Type}(c6:iS cX)(T:iS hC)(dH:iS a)(V:iS b):iS (cX × hC × a × b):=fun aX Z v p=>∃ N aP bI aB,v=.tuple #[N,aP,bI,aB]∧c6 aX Z N p.1∧T aX Z aP p.2.1∧dH aX Z bI p.2.2.1∧V aX Z aB p.2.2.2
def jQ(a L:M):Prop:=∀ p aE,a=some p→L=some aE→p.block ≠ aE.block
def fQ{cX hC:Type}(N:cX)(f:cX→hC):hC:=f N
section
variable {hC:Type} {c6:iS hC} {aX:U} {aF:Value→U→Prop}
theorem w9{L:Bool}{a2 bK:hC}{a bC:Prop}(g:hY c6 aX aF (bif L then a2 else bK))(b:L=true→hY c6 aX aF a2→a)(c:L=false→hY c6 aX aF bK→bC):cond L a bC:=by
 cases L
 ·exact c rfl g
 ·exact b rfl g
theorem El{L:Bool}{a2 bK:hC}{a bC:Prop}(g:hY c6 aX aF (bif !L then a2 else bK))(b:L=false→hY c6 aX aF a2→a)(c:L=true→hY c6 aX aF bK→bC):cond (!L) a bC:=by
 cases L
 ·exact b rfl g
 ·exact c rfl g
theorem xA{p:Prop}[Decidable p]{a2 bK:hC}{a bC:Prop}(g:hY c6 aX aF (bif decide p then a2 else bK))(b:p→hY c6 aX aF a2→a)(c:¬p→hY c6 aX aF bK→bC):cond (decide p) a bC:=by
 by_cases Z:p
 ·simp only [Z,decide_true,cond_true] at g ⊢;exact b Z g
 ·simp only [Z,decide_false,cond_false] at g ⊢;exact c Z g
theorem Bz{N aP:Int}{a2 bK:hC}{a bC:Prop}(g:hY c6 aX aF (bif N == aP then a2 else bK))(b:N=aP→hY c6 aX aF a2→a)(c:N ≠ aP→hY c6 aX aF bK→bC):cond (N == aP) a bC:=by
 by_cases Z:N=aP
 ·simp only [Z,beq_self_eq_true,cond_true] at g ⊢;exact b Z g
 ·simp only [beq_eq_false_iff_ne.mpr Z,cond_false] at g ⊢;exact c Z g
end
def In(S:IntKind)(N:Int):Prop:=S.min≤N∧N≤S.max
theorem qI{N:Int}:In .i64 N↔(-9223372036854775808≤N∧N < 9223372036854775808):=by
 unfold In;simp only [IntKind.min,IntKind.max,IntKind.bits,IntKind.signed,if_true]
 omega
theorem xB{N:Int}:In .u64 N↔(0≤N∧N < 18446744073709551616):=by
 unfold In;simp only [IntKind.min,IntKind.max,IntKind.bits,IntKind.signed,Bool.false_eq_true,if_false]
 omega
theorem cV.eJ{aX Z:U}{a:M}{c:Nat}{aA:List Nat}(g:cV dP aX Z a c aA):cG Z a c aA:=g.rd.w7
theorem Own.BA{Z:U}{L:Nat}{aA:List Nat}(aN:Own Z L aA):dZ dP Z L aA:=⟨aN.words,aN.at_⟩
theorem Own.kF{aX Z:U}{L c:Nat}{aA rest:List Nat}(aN:Own Z L (aA ++ rest))(a:aX.size≤L)(aZ:aA.length≤c)(b:c≤(aA ++ rest).length):cV dP aX Z (some ⟨L,0,none⟩) c aA:=
 aN.BA.kF a (by have:=aN.len;rw [List.length_append] at this;show _≤35184372088828;omega) aZ b
theorem Own.mE{aX Z:U}{L c:Nat}{aA:List Nat}(aN:Own Z L aA)(a:aX.size≤L)(b:c=aA.length):cV dP aX Z (some ⟨L,0,none⟩) c aA:=
 Own.kF (rest:=[]) (by simpa using aN) a (by omega) (by simp;omega)
def split(aA:List Nat):List Nat:=aA.flatMap fun aB=>[aB % 4294967296,aB / 4294967296]
theorem IM(a2 S:Nat):(D.aK a2).length≤2*S↔(aK a2).length≤S:=by
 rw [D.gR,gR,show 32*(2*S)=64*S by omega]
theorem s9(a2:Nat):(D.aK a2).length≤16384↔(aK a2).length≤8192:=IM a2 8192
theorem BB{a2 S:Nat}:(D.aK a2).length≤S↔a2 < 2 ^ (32*S):=D.gR
def join:List Nat→List Nat
 | []=>[]
 | [a]=>[a]
 | a :: L :: l=>(a+L*4294967296) :: join l
theorem Em:∀ (l:List Nat),val (join l)=D.val l
 | []=>rfl
 | [a]=>by simp [join,val,D.val]
 | a :: L :: l=>by
  simp only [join,val,D.val]
  rw [Em l];omega
theorem En:∀ {l:List Nat},D.Words l→Words (join l)
 | [],_=>by intro N b;cases b
 | [a],Z=>by intro N b;have:=Z a (by simp);simp [join] at b;omega
 | a :: L :: l,Z=>by
  intro N b
  have aZ:=Z a (by simp);have d:=Z L (by simp)
  rcases List.mem_cons.mp b with R | R
  ·subst R;omega
  ·exact En (fun aP c=>Z aP (by simp [c])) N R
theorem Eo:∀ {l:List Nat},dS l=l→dS (join l)=join l
 | [],_=>rfl
 | [a],Z=>by
  simp only [join]
  exact Z
 | a :: L :: l,Z=>by
  have aZ:=zK Z
  have b:=zK aZ
  have bU:=Eo b
  simp only [join,dS,bU]
  rw [if_neg]
  rintro⟨g,d⟩
  have e:l=[]:=by
   cases l with
   | nil=>rfl
   | cons c l=>cases l <;> simp [join] at d
  subst e
  have f:L=0:=by omega
  subst f
  simp [dS] at aZ
theorem IN(a2:Nat):join (D.aK a2)=aK a2:=by
 have aZ:=Em (D.aK a2)
 rw [D.e1] at aZ
 have a:=lR (En (D.pM a2))
 rw [Eo (D.qF a2),aZ] at a
 exact a.symm
theorem BC:∀ (l:List Nat),(join l).length=(l.length+1) / 2
 | []=>rfl
 | [a]=>by simp [join]
 | a :: L :: l=>by simp only [join,List.length_cons,BC l];omega
theorem Ep:∀ {l:List Nat} {a L:Nat},l.length % 2=0→join (l ++ [a,L])=join l ++ [a+L*4294967296]
 | [],_,_,_=>rfl
 | [_],_,_,Z=>by simp at Z
 | N :: aP :: l,a,L,Z=>by
  simp only [List.cons_append,join]
  rw [Ep (by simp at Z;omega)]
theorem Er:∀ {l:List Nat} {a:Nat},l.length % 2=0→join (l ++ [a])=join l ++ [a]
 | [],_,_=>rfl
 | [_],_,Z=>by simp at Z
 | N :: aP :: l,a,Z=>by
  simp only [List.cons_append,join]
  rw [Er (by simp at Z;omega)]
theorem D.Es{a6:List Nat}{O t dF aH a b c:Nat}(d:a6.length=O)(e:b=aH+4294967296*c)(Z:aH+a=t+4294967296*dF):D.val (a6 ++ [t])+(c+dF)*2 ^ (32*(O+1))=D.val a6+(b+a)*2 ^ (32*O):=by
 rw [D.hX,d,D.j2]
 have R:b+a=t+4294967296*(c+dF):=by omega
 rw [R]
 generalize 2 ^ (32*O)=P
 simp only [D.val,Nat.mul_zero,Nat.add_zero]
 rw [Nat.add_mul t,Nat.mul_left_comm,Nat.mul_comm P t,Nat.mul_assoc 4294967296]
 omega
def m6(S:IntKind):iS Int:=fun _ _ v n=>v=.int S n∧In S n
def gO:iS Nat:=fun aX Z v a2=>∃ a c,v=.slice a (D.aK a2).length c∧cV b6 aX Z a c (D.aK a2)
def gU:iS (Bool × Nat):=fun aX Z v p=>∃ a c,v=.agg #[.bool p.1,.slice a (D.aK p.2).length c]∧cV b6 aX Z a c (D.aK p.2)
theorem m7{bC:Nat}(a:0 < bC){aA:List Nat}(b:∀ N ∈ aA,N < bC)(O:Nat):aA.getD O 0 < bC:=by
 by_cases a4:O < aA.length
 ·have R:aA.getD O 0=aA[O]:=by simp [List.getD,a4]
  rw [R];exact b _ (List.getElem_mem a4)
 ·have R:aA.getD O 0=0:=by simp [List.getD,Nat.le_of_not_lt a4]
  rw [R];exact a
theorem cH.k3{Z:U}{a:M}{c:Nat}{aA:List Nat}(r:cH b6 Z a c aA)(aC:Nat):aA.getD aC 0 < 4294967296:=m7 (by decide) r.ok aC
theorem cH.m8{Z:U}{a:M}{c:Nat}{aA:List Nat}(r:cH b6 Z a c aA):aA.length≤70368744177656:=r.len
instance (S:IntKind) (N:Int):Decidable (In S N):=inferInstanceAs (Decidable (_∧_))
abbrev e2:iS (List Nat × Int):=s2 s8 (m6 .i64)
abbrev vD:iS (List Nat):=s8
section
variable {aX Z:U} {v:Value} {p:List Nat × Int} {aA:List Nat}
theorem e2.h9{aF:M→Nat→Nat→Int→Prop}(a:e2 aX Z v p)(g:∀ a c,cV dP aX Z a c p.1→In .i64 p.2→aF a p.1.length c p.2):
  cT v fun aP=>cQ aP fun b eH=>aQ b fun a l c=>cQ eH fun d e=>aW .i64 d fun N=>b5 e (aF a l c N):=by
 obtain⟨N,aP,R,⟨a,c,f,r⟩,h,O⟩:=a
 subst R;subst f;subst h;exact g a c r O
theorem e2.elim{aF:M→Nat→Nat→Int→Prop}(a:e2 aX Z v p)(g:∀ a c,cG Z a c p.1→aF a p.1.length c p.2):
  cT v fun aP=>cQ aP fun b eH=>aQ b fun a l c=>cQ eH fun b d=>aW .i64 b fun N=>b5 d (aF a l c N):=
 a.h9 fun a c r _=>g a c r.eJ
theorem e2.back{a:M}{c:Nat}(r:cV dP aX Z a c p.1)(O:In .i64 p.2):e2 aX Z (.tuple #[.slice a p.1.length c,.int .i64 p.2]) p:=
 ⟨_,_,rfl,⟨a,c,rfl,r⟩,rfl,O⟩
theorem e2.mk{a:M}{c l:Nat}{N:Int}(b:l=p.1.length)(d:N=p.2)(r:cV dP aX Z a c p.1)(O:In .i64 p.2):e2 aX Z (.tuple #[.slice a l c,.int .i64 N]) p:=by
 subst b;subst d;exact e2.back r O
theorem e2.none{N:Int}(O:In .i64 N:=by decide):e2 aX Z (.tuple #[.slice Option.none 0 0,.int .i64 N]) ([],N):=⟨_,_,rfl,⟨Option.none,0,rfl,cV.nil _ _⟩,rfl,O⟩
theorem vD.h9{aF:M→Nat→Nat→Prop}(a:vD aX Z v aA)(g:∀ a c,cV dP aX Z a c aA→aF a aA.length c):aQ v aF:=by
 obtain⟨a,c,R,r⟩:=a
 subst R;exact g a c r
end
theorem fF.kF{aX Z:U}{L:Nat}{aA:List Nat}(aN:fF Z L aA)(a:aX.size≤L):cV dP aX Z (some ⟨L,0,none⟩) aA.length aA:=by
 obtain⟨rest,aN⟩:=aN
 exact aN.kF a (Nat.le_refl _) (by simp)
theorem cV.trim{aX Z:U}{a:M}{c:Nat}{aA:List Nat}{E:j3 Nat}(g:cV E aX Z a c aA):cV E aX Z a c (dS aA):=by
 have R:aA.take (dS aA).length=dS aA:=by
  clear g
  induction aA with
  | nil=>rfl
  | cons N aA bU=>
   simp only [dS]
   split
   ·rfl
   ·simp [bU]
 have:=g.take (dS aA).length
 rw [R] at this;exact this
theorem gO.elim{aX Z:U}{v:Value}{a2:Nat}{aF:M→Nat→Nat→Prop}(aH:gO aX Z v a2)(g:∀ a c,cV b6 aX Z a c (D.aK a2)→aF a (D.aK a2).length c):aQ v aF:=by
 obtain⟨a,c,R,r⟩:=aH
 subst R;exact g a c r
structure eC(Z:U)(L:Nat)(bV:List Value):Prop where
 at_:∃ R,Z[L]?=some (.cells bV.toArray R (0,0))
theorem eC.lt{Z:U}{L:Nat}{bV:List Value}(aN:eC Z L bV):L < Z.size:=by
 obtain⟨R,g⟩:=aN.at_;exact(Array.getElem?_eq_some_iff.mp g).1
theorem eC.aR{Z K:U}{L:Nat}{bV:List Value}(aN:eC Z L bV)(S:bA Z K):eC K L bV:=by
 obtain⟨R,g⟩:=aN.at_;exact⟨R,by rw [S.pre L aN.lt];exact g⟩
theorem eC.cL{aE:Nat}{Z K:U}{L:Nat}{bV:List Value}(aN:eC Z L bV)(a:L ≠ aE)(S:cD aE Z K):eC K L bV:=by
 obtain⟨R,g⟩:=aN.at_;exact⟨R,by rw [S.pre L aN.lt a];exact g⟩
theorem eZ{Z:U}{R:TypeId}{c2:List Value}{aF:Addr→U→Prop}(g:∀ K,eC K Z.size c2→bA Z K→aF ⟨Z.size,0,none⟩ K):dN Z R c2 aF:=
 g _ ⟨R,by simp⟩ ⟨by simp,fun L a=>by rw [Array.getElem?_push];rw [if_neg (by omega)]⟩
theorem mF{Z:U}{L:Nat}{bV:List Value}(aN:eC Z L bV){S:Nat}{v:Value}(a:bV[S]?=some v){aF:Value→Prop}(g:aF v):fG Z ((⟨L,0,none⟩:Addr).add S) aF:=by
 obtain⟨R,at_⟩:=aN.at_
 unfold fG
 have:gP Z ((⟨L,0,none⟩:Addr).add S)=some v:=by
  rw [cB];unfold gP
  simp only [at_,Option.isSome_none,Bool.false_eq_true,if_false]
  simpa using a
 rw [this];exact g
theorem oM{Z:U}{L:Nat}{bV:List Value}(aN:eC Z L bV){v:Value}(a:bV[0]?=some v){aF:Value→Prop}(g:aF v):fG Z (⟨L,0,none⟩:Addr) aF:=by
 have:=mF (S:=0) aN a g
 rw [cB] at this;exact this
theorem j4{Z:U}{L:Nat}{bV:List Value}(aN:eC Z L bV){S:Nat}{v:Value}(a:S < bV.length){aF:U→Prop}(g:∀ K,eC K L (bV.set S v)→cD L Z K→aF K):cC Z ((⟨L,0,none⟩:Addr).add S) v aF:=by
 obtain⟨R,at_⟩:=aN.at_
 rw [cB]
 refine⟨⟨⟨bV[S],?_⟩,?_⟩,g _ ⟨R,?_⟩ (cD.set _ _ _ _)⟩
 ·unfold gP
  simp only [at_,Option.isSome_none,Bool.false_eq_true,if_false]
  simp [a]
 ·unfold mB;simp [at_]
 ·unfold gQ
  rw [Array.getElem?_modify]
  simp only [if_true,at_,Option.map_some]
  simp
theorem BD{Z:U}{L:Nat}{bV:List Value}(aN:eC Z L bV){v:Value}(a:0 < bV.length){aF:U→Prop}(g:∀ K,eC K L (bV.set 0 v)→cD L Z K→aF K):cC Z (⟨L,0,none⟩:Addr) v aF:=by
 have:=j4 (S:=0) aN a g
 rw [cB] at this;exact this
theorem eC.zQ{Z:U}{L:Nat}{bV:List Value}(aN:eC Z L bV)(S:Nat):((⟨L,0,none⟩:Addr).add S).block < Z.size:=by
 rw [pJ];exact aN.lt
theorem bA.fV{a L:U}{n:Nat}(S:bA a L)(b:n≤a.size):eT n a L:=fun O a4=>S.pre O (Nat.lt_of_lt_of_le a4 b)
theorem cV.cL{cX:Type}{E:j3 cX}{aE:Nat}{aZ Z K:U}{a:M}{c:Nat}{aA:List cX}(g:cV E aZ Z a c aA)(b:aE < aZ.size)(S:cD aE Z K):cV E aZ K a c aA:=
 ⟨g.len,g.cap,g.here.imp id fun ⟨L,rest,b,d,aN,e⟩=>⟨L,rest,b,d,aN.cL (by omega) S,e⟩⟩
theorem BE{Z:U}{aE:Addr}{v:Value}(R:gP Z aE=some v){aF:Value→Prop}(g:aF v):fG Z aE aF:=by
 unfold fG;rw [R];exact g
theorem IP{cX:Type}{c6:jH cX}{fI m:Nat}{Z:U}{a:M}{c n:Nat}{l:List cX}(r:sZ c6 fI m Z a c l){O:Int}{aC:Nat}(a4:O=(aC:Int))(d:n=l.length){N:cX}(b:l[aC]?=some N){aF:Addr→Prop}
  (g:∀ aE bV,bV.length=fI→j1 Z aE 0 bV→c6 Z bV N→aF aE):c7 a n O fI aF:=by
 subst a4;subst d
 have i:=(List.getElem?_eq_some_iff.mp b).1
 obtain⟨p,bV,R,aZ,e,f⟩:=r.at_ aC N b
 subst R
 refine⟨⟨by omega,by omega⟩,?_⟩
 show aF (p.add ((aC:Int).toNat*fI))
 have h:(aC:Int).toNat=aC:=by omega
 rw [h];exact g _ bV aZ e f
theorem Et{S:IntKind}{n:Int}(Z:(Lit.int S n).wf=true):In S n:=by
 simp only [Lit.wf,Bool.and_eq_true,decide_eq_true_eq] at Z;exact Z
def gD(bY a4:Nat)(Z:U)(aH:jP)(aA:List Nat):Prop:=
 aH.2.1=aA.length∧aA.length≤aH.2.2∧aA.length≤35184372088828∧((aA=[]∧aH.1=none∧aH.2.2=0)∨∃ L rest,aH.1=some ⟨L,0,none⟩∧bY≤L∧L < a4∧dZ dP Z L (aA ++ rest)∧aH.2.2≤(aA ++ rest).length)
theorem gD.nil(bY a4:Nat)(Z:U):gD bY a4 Z (none,0,0) []:=⟨rfl,by simp,by simp,Or.inl ⟨rfl,rfl,rfl⟩⟩
theorem gD.pQ{aX Z:U}{a:M}{c l:Nat}{aA:List Nat}(g:cV dP aX Z a c aA)(b:l=aA.length){bY a4:Nat}(aZ:bY≤aX.size)(d:Z.size≤a4):gD bY a4 Z (a,l,c) aA:=by
 subst b
 refine⟨rfl,g.cap,g.len,g.here.imp id ?_⟩
 rintro⟨L,rest,e,f,aN,h⟩
 exact⟨L,rest,e,Nat.le_trans aZ f,Nat.lt_of_lt_of_le aN.lt d,aN,h⟩
theorem gD.rd{bY a4:Nat}{Z:U}{aH:jP}{aA:List Nat}(aN:gD bY a4 Z aH aA):cG Z aH.1 aH.2.2 aA:=by
 obtain⟨aZ,b,c,d⟩:=aN
 rcases d with ⟨a,e,f⟩ | ⟨L,rest,a,_,_,aN,_⟩
 ·subst a;exact cG.nil _ _ _
 ·rw [a];exact(aN.rd c b).w7
theorem gD.aR{bY a4:Nat}{Z K:U}{aH:jP}{aA:List Nat}(aN:gD bY a4 Z aH aA)(S:bA Z K):gD bY a4 K aH aA:=
 ⟨aN.1,aN.2.1,aN.2.2.1,aN.2.2.2.imp id fun ⟨L,rest,a,b,c,aB,d⟩=>⟨L,rest,a,b,c,aB.aR S,d⟩⟩
theorem gD.wide{bY a4 a b:Nat}{Z:U}{aH:jP}{aA:List Nat}(aN:gD bY a4 Z aH aA)(aZ:a≤bY)(c:a4≤b):gD a b Z aH aA:=
 ⟨aN.1,aN.2.1,aN.2.2.1,aN.2.2.2.imp id fun ⟨L,rest,a,b,d,aB,e⟩=>⟨L,rest,a,Nat.le_trans aZ b,Nat.lt_of_lt_of_le d c,aB,e⟩⟩
theorem gD.block{bY a4:Nat}{Z:U}{aH:jP}{aA:List Nat}(aN:gD bY a4 Z aH aA):∀ p,aH.1=some p→bY≤p.block∧p.block < a4:=by
 intro p a
 rcases aN.2.2.2 with ⟨_,R,_⟩ | ⟨L,rest,b,c,d,_,_⟩
 ·rw [R] at a;cases a
 ·rw [b] at a;cases a;exact⟨c,d⟩
structure zR(bY a4:Nat)(Z:U)(bM:List jP)(Eu:List (List Nat)):Prop where
 len:bM.length=Eu.length
 at_:∀ (O:Nat) aH aA,bM[O]?=some aH→Eu[O]?=some aA→gD bY a4 Z aH aA
 two:∀ (O aC:Nat) (aH t:jP) (p aE:Addr),bM[O]?=some aH→bM[aC]?=some t→aH.1=some p→t.1=some aE→p.block=aE.block→O=aC
theorem zR.pair{bY a4 S:Nat}{Z:U}{aH t:jP}{aA aU:List Nat}(aZ:bY≤S)(e:S≤a4)(aN:(gD bY S Z aH aA∧gD S a4 Z t aU)∨(gD S a4 Z aH aA∧gD bY S Z t aU)):zR bY a4 Z [aH,t] [aA,aU]:=by
 have ne:∀ p aE,aH.1=some p→t.1=some aE→p.block ≠ aE.block:=fun p aE b c=>by
  rcases aN with ⟨a,L⟩ | ⟨a,L⟩
  ·have:=a.block p b;have:=L.block aE c;omega
  ·have:=a.block p b;have:=L.block aE c;omega
 have os:gD bY a4 Z aH aA:=by rcases aN with ⟨a,L⟩ | ⟨a,L⟩ <;> exact a.wide (by omega) (by omega)
 have d:gD bY a4 Z t aU:=by rcases aN with ⟨a,L⟩ | ⟨a,L⟩ <;> exact L.wide (by omega) (by omega)
 refine⟨rfl,fun O aB f b c=>?_,fun O aC a L p aE b c f1 f2 R=>?_⟩
 ·match O with
  | 0=>simp at b c;subst b;subst c;exact os
  | 1=>simp at b c;subst b;subst c;exact d
  | O+2=>simp at b
 ·match O,aC with
  | 0,0 | 1,1=>rfl
  | 0,1=>simp at b c;subst b;subst c;exact absurd R (ne _ _ f1 f2)
  | 1,0=>simp at b c;subst b;subst c;exact absurd R.symm (ne _ _ f2 f1)
  | O+2,_=>simp at b
  | _,aC+2=>simp at c
theorem gD.kF{bY a4:Nat}{aX Z:U}{aH:jP}{aA:List Nat}(aN:gD bY a4 Z aH aA)(a:aX.size≤bY):cV dP aX Z aH.1 aH.2.2 aA:=
 ⟨aN.2.2.1,aN.2.1,aN.2.2.2.imp id fun ⟨L,rest,b,c,_,aB,d⟩=>⟨L,rest,b,Nat.le_trans a c,aB,d⟩⟩
theorem e3{Z:U}{L:Nat}{bV:List Value}(aN:eC Z L bV){S:Nat}{t:IntKind}{N:Int}(a:bV[S]?=some (.int t N)){aF:Int→Prop}(g:aF N):fG Z ((⟨L,0,none⟩:Addr).add S) fun v=>aW t v aF:=mF aN a (bQ rfl g)
theorem nX{Z:U}{L:Nat}{bV:List Value}(aN:eC Z L bV){S:Nat}{a:M}{l c:Nat}(b:bV[S]?=some (.slice a l c)){aF:M→Nat→Nat→Prop}(g:aF a l c):fG Z ((⟨L,0,none⟩:Addr).add S) fun v=>aQ v aF:=mF aN b (bE rfl g)
def vE:Value→Bool
 | .int .u64 _ | .int .u32 _ | .int .u8 _=>true
 | _=>false
structure nY(Z K:U):Prop where
 le:Z.size≤K.size
 cell:∀ aE v,vE v=true→gP Z aE=some v→gP K aE=some v
 vF:∀ (L:Nat) (c2:Array Value) (R:TypeId) (f:Nat × Nat),Z[L]?=some (Obj.cells c2 R f)→(∀ v ∈ c2,vE v=true)→K[L]?=Z[L]?
theorem nY.trans{a L c:U}(N:nY a L)(aP:nY L c):nY a c:=
 ⟨Nat.le_trans N.le aP.le,fun _ _ aB R=>aP.cell _ _ aB (N.cell _ _ aB R),fun S _ _ _ b d=>by
  have aZ:=N.vF S _ _ _ b d
  rw [← aZ,aP.vF S _ _ _ (aZ.trans b) d]⟩
theorem bA.cZ{Z K:U}(S:bA Z K):nY Z K:=
 ⟨S.le,fun _ _ _ R=>S.cell R,fun L _ _ _ a _=>S.pre L (Array.getElem?_eq_some_iff.mp a).1⟩
class vG (E:j3 Nat):Prop where
 word:∀ N,vE (E.enc N)=true
instance:vG dP:=⟨fun _=>rfl⟩
instance:vG b6:=⟨fun _=>rfl⟩
instance:vG Ed:=⟨fun _=>rfl⟩
theorem cH.cZ{E:j3 Nat}[bH:vG E]{Z K:U}{a:M}{c:Nat}{aA:List Nat}(r:cH E Z a c aA)(m:nY Z K):cH E K a c aA:=
 ⟨r.len,r.cap,r.ok,fun O N a4=>let ⟨p,R,g⟩:=r.at_ O N a4;⟨p,R,m.cell _ _ (bH.word N) g⟩⟩
theorem dZ.cZ{E:j3 Nat}[bH:vG E]{Z K:U}{L:Nat}{a6:List Nat}(aN:dZ E Z L a6)(m:nY Z K):dZ E K L a6:=by
 obtain⟨R,g⟩:=aN.at_
 refine⟨aN.ok,R,?_⟩
 rw [m.vF L _ _ _ g (fun v bW=>?_)]
 ·exact g
 ·simp only [List.mem_toArray,List.mem_map] at bW
  obtain⟨N,_,R⟩:=bW
  subst R;exact bH.word N
theorem cV.cZ{E:j3 Nat}[vG E]{aX Z K:U}{a:M}{c:Nat}{aA:List Nat}(g:cV E aX Z a c aA)(m:nY Z K):cV E aX K a c aA:=
 ⟨g.len,g.cap,g.here.imp id fun ⟨L,rest,b,d,aN,e⟩=>⟨L,rest,b,d,aN.cZ m,e⟩⟩
theorem IQ{Z:U}{L:Nat}{bV:List Value}(aN:eC Z L bV){S:Nat}{v:Value}(a:(bV[S]?.map vE)=some false){aF:U→Prop}(g:∀ K,eC K L (bV.set S v)→cD L Z K→nY Z K→aF K):cC Z ((⟨L,0,none⟩:Addr).add S) v aF:=by
 have d:S < bV.length:=by
  rcases Nat.lt_or_ge S bV.length with aZ | aZ
  ·exact aZ
  ·rw [List.getElem?_eq_none aZ] at a;cases a
 rw [List.getElem?_eq_getElem d] at a
 have a:vE bV[S]=false:=by simpa using a
 obtain⟨R,at_⟩:=aN.at_
 rw [cB]
 have c:cD L Z (gQ Z ⟨L,S,none⟩ v):=cD.set _ _ _ _
 have h:(gQ Z ⟨L,S,none⟩ v)[L]?=some (.cells (bV.set S v).toArray R (0,0)):=by
  unfold gQ
  rw [Array.getElem?_modify]
  simp only [if_true,at_,Option.map_some]
  simp
 refine⟨⟨⟨bV[S],?_⟩,?_⟩,g _ ⟨R,h⟩ c ⟨c.le,?_,?_⟩⟩
 ·unfold gP
  simp only [at_,Option.isSome_none,Bool.false_eq_true,if_false]
  simp [d]
 ·unfold mB;simp [at_]
 ·intro aE cU aB eq
  by_cases b:aE.block=L
  ·have l:=eq
   unfold gP at eq ⊢
   rw [b] at eq ⊢
   rw [at_] at eq;rw [h]
   simp only at eq ⊢
   split at eq
   ·cases eq
   ·rename_i bM
    rw [if_neg bM]
    simp only [List.getElem?_toArray] at eq ⊢
    by_cases i:aE.off=S
    ·rw [i,List.getElem?_eq_getElem d] at eq
     cases eq;rw [a] at aB;cases aB
    ·rw [List.getElem?_set_ne (fun R=>i R.symm)];exact eq
  ·rw [rF (c.pre _ (s4 eq) b)];exact eq
 ·intro j c2 m f e k
  by_cases b:j=L
  ·exfalso
   rw [b,at_] at e
   cases e
   have:=k bV[S] (by simp)
   rw [a] at this;cases this
  ·exact c.pre _ (Array.getElem?_eq_some_iff.mp e).1 b
theorem dD{Z:U}{L S:Nat}{aE:Addr}{bV:List Value}{v:Value}(aN:eC Z L bV)(R:aE=⟨L,S,none⟩)(a:bV[S]?=some v){aF:Value→Prop}(g:aF v):fG Z aE aF:=by
 subst R
 have:=mF (S:=S) aN a g
 rw [cB] at this;exact this
theorem eV{Z:U}{L S:Nat}{aE:Addr}{bV:List Value}{v:Value}(aN:eC Z L bV)(R:aE=⟨L,S,none⟩)(a:(bV[S]?.map vE)=some false){aF:U→Prop}(g:∀ K,eC K L (bV.set S v)→cD L Z K→nY Z K→aF K):cC Z aE v aF:=by
 subst R
 have:=IQ (S:=S) (v:=v) aN a g
 rw [cB] at this;exact this
theorem iF{aE:Addr}{L S n:Nat}(R:aE=⟨L,S,none⟩)(Z:L < n):aE.block < n:=by subst R;exact Z
theorem nY.lt{Z K:U}{L:Nat}(m:nY Z K)(l:L < Z.size):L < K.size:=Nat.lt_of_lt_of_le l m.le
theorem gJ{cX hC:Type}{c6:iS hC}{aX:U}{Y:Value→U→Prop}{N p:cX}{f:cX→hC}(R:p=N)(g:hY c6 aX Y (fQ N f)):hY c6 aX Y (f p):=by subst R;exact g
end Go.Gv
