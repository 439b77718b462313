import Derived.Carry
import Derived.ChangeSlices
import Derived.WalkKit
import Derived.ProofKit
import Derived.OpenShut
import Derived.ShutString
import Derived.ChangeOld
import Derived.Below
import Derived.SizedLaws
import Derived.ChangeArms
import Derived.Laws.Append
import Derived.Test.YtjijdlkpmngolaaGreatKM
set_option linter.unusedVariables false
namespace Go.Gv
open Go.ChangeShapes Go.WideShapes Go.ChangeAt Go.RowKit
theorem Jx{aE cK:World}(aG:e2 aE cK)(R:bK aE.heap cK.heap):Below aE.heap.size aE cK:=⟨aG.os,aG.tape,aG.output,R.le,fun O a8=>R.pre O a8⟩
theorem wf_i64{n:Int}(Z:(Lit.int .i64 n).wf=true):-9223372036854775808≤n∧n < 9223372036854775808:=by
 simp only [Lit.wf,Bool.and_eq_true,decide_eq_true_eq,IntKind.min,IntKind.max,IntKind.signed,IntKind.bits,if_true] at Z
 have a:(2:Int) ^ (64 - 1)=9223372036854775808:=by decide
 rw [a] at Z;omega
open Go.ChangeShapes Go.WideShapes Go.ChangeAt Go.RowKit
abbrev Jy(dF:Type):=U→List Value→dF→Prop
structure Qu{dF:Type}(c8:Jy dF)(jC m:Nat)(Z:U)(a:S)(c:Nat)(l:List dF):Prop where
 len:l.length≤m
 cap:l.length≤c
 at_:∀ O L,l[O]?=some L→∃ p b8,a=some p∧b8.length=jC∧qD Z (p.add (O*jC)) 0 b8∧c8 Z b8 L
section
variable {H:Type} {enc:TypeId × Value→H} {P:Program} {bR:World}
end
theorem cE{p:Prop}[Decidable p]{a bA:Prop}(b:p→a)(c:¬p→bA):cond (decide p) a bA:=by
 by_cases Z:p
 ·simp only [Z,decide_true,cond_true];exact b Z
 ·simp only [Z,decide_false,cond_false];exact c Z
theorem gL{L aT:Int}{a bA:Prop}(b:L=aT→a)(c:L ≠ aT→bA):cond (L == aT) a bA:=by
 by_cases Z:L=aT
 ·simp only [Z,beq_self_eq_true,cond_true];exact b Z
 ·simp only [beq_eq_false_iff_ne.mpr Z,cond_false];exact c Z
theorem j8{L aT:Int}{a bA:Prop}(b:L ≠ aT→a)(c:L=aT→bA):cond (L != aT) a bA:=by
 by_cases Z:L=aT
 ·simp only [Z,bne_self_eq_false,cond_false];exact c Z
 ·simp only [bne_iff_ne.mpr Z,cond_true];exact b Z
theorem hO{K:Bool}{a bA:Prop}(b:K=false→a)(c:K=true→bA):cond (!K) a bA:=by
 cases K
 ·exact b rfl
 ·exact c rfl
theorem cT{L:Int}(aT:Int)(N:L=aT)(a1:-9223372036854775808≤aT)(a:aT < 9223372036854775808){aH:Int→Prop}(g:aH aT):bB (IntKind.i64.wrap L) aH:=by
 subst N;refine⟨?_⟩;show aH _;rw [wrap_i64 a1 a];exact g
def o0(Z:U)(aI:Nat):Option Nat:=match Z[aI]? with | some (.cells c _ _)=>some c.size | _=>none
structure cG(aI:Nat)(Z aB:U):Prop where
 le:Z.size≤aB.size
 pre:∀ K,K < Z.size→K ≠ aI→aB[K]?=Z[K]?
 len:∀ m,o0 Z aI=some m→o0 aB aI=some m
theorem cG.refl(aI:Nat)(Z:U):cG aI Z Z:=⟨Nat.le_refl _,fun _ _ _=>rfl,fun _ N=>N⟩
theorem cG.trans{aI:Nat}{a K c:U}(L:cG aI a K)(aT:cG aI K c):cG aI a c:=
 ⟨Nat.le_trans L.le aT.le,fun O a8 b=>(aT.pre O (Nat.lt_of_lt_of_le a8 L.le) b).trans (L.pre O a8 b),fun m N=>aT.len m (L.len m N)⟩
theorem E3{Z:U}{aI m:Nat}(N:o0 Z aI=some m):aI < Z.size:=by
 rcases Nat.lt_or_ge aI Z.size with a | a
 ·exact a
 ·unfold o0 at N;rw [Array.getElem?_eq_none a] at N;cases N
theorem bK.Ci{aI:Nat}{Z aB:U}(R:bK Z aB):cG aI Z aB:=
 ⟨R.le,fun K a3 _=>R.pre K a3,fun m N=>by have:=R.pre aI (E3 N);unfold o0 at *;rw [this];exact N⟩
theorem cG.aU{aI:Nat}{a2 Z aB:U}(a:bK a2 Z)(R:cG aI Z aB)(b:a2.size≤aI):bK a2 aB:=
 ⟨Nat.le_trans a.le R.le,fun K a3=>(R.pre K (Nat.lt_of_lt_of_le a3 a.le) (by omega)).trans (a.pre K a3)⟩
theorem cG.set(aI:Nat)(Z:U)(O:Nat)(v:Value):cG aI Z (gO Z ⟨aI,O,none⟩ v):=
 ⟨by rw [Cj];exact Nat.le_refl _,fun K _ a3=>Ck a3,fun m N=>by
  unfold o0 at *
  split at N
  ·rename_i c el a b
   have:(gO Z ⟨aI,O,none⟩ v)[aI]?=some (.cells (c.setIfInBounds O v) el a):=by
    unfold gO
    rw [Array.getElem?_modify,if_pos rfl,b]
    rfl
   rw [this]
   simpa using N
  ·cases N⟩
def gA(aI:Nat)(a:S):Prop:=∀ p,a=some p→p.block ≠ aI
theorem gA.none(aI:Nat):gA aI none:=fun p N=>by cases N
theorem gA.sub{aI:Nat}{a:S}(aQ:gA aI a)(m l jC:Nat):gA aI (jT a m l jC):=by
 intro p N
 unfold jT at N
 split at N
 ·exact aQ p N
 ·cases a with
  | none=>cases N
  | some r=>
   simp only [Option.map_some,Option.some.injEq] at N
   rw [← N,oY];exact aQ r rfl
theorem cJ.cR{aI:Nat}{Z aB:U}{a:S}{c:Nat}{aC:List Nat}(r:cJ Z a c aC)(aQ:gA aI a)(R:cG aI Z aB):cJ aB a c aC:=
 ⟨r.len,r.cap,r.words,fun O a8=>by
  obtain⟨p,N,g⟩:=r.at_ O a8
  refine⟨p,N,?_⟩
  have a3:=uX g
  rw [qM (R.pre _ a3 (by rw [oY];exact aQ p N))];exact g⟩
theorem Own.cR{aI K:Nat}{Z aB:U}{aC:List Nat}(aQ:Own Z K aC)(a3:K ≠ aI)(R:cG aI Z aB):Own aB K aC:=by
 obtain⟨N,g⟩:=aQ.at_
 exact⟨aQ.len,aQ.words,N,by rw [R.pre K aQ.lt a3];exact g⟩
theorem cJ.off{Z:U}{a:S}{c:Nat}{aC:List Nat}(r:cJ Z a c aC){aI:Nat}(d:Z.size≤aI):aC=[]∨gA aI a:=by
 cases aC with
 | nil=>exact Or.inl rfl
 | cons L aC=>
  obtain⟨p,N,g⟩:=r.at_ 0 (by simp)
  have a3:=uX g
  rw [oY] at a3
  refine Or.inr fun e b=>?_
  rw [N] at b;cases b;omega
def fN(Z:U)(K:Nat)(aC:List Nat):Prop:=∃ rest,Own Z K (aC ++ rest)
theorem Own.E4{Z:U}{K:Nat}{aC:List Nat}(aQ:Own Z K aC):fN Z K aC:=⟨[],by rw [List.append_nil];exact aQ⟩
theorem fN.words{Z:U}{K:Nat}{aC:List Nat}(aQ:fN Z K aC):Words aC:=fun L a=>by
 obtain⟨r,aQ⟩:=aQ;exact aQ.words L (List.mem_append_left _ a)
theorem fN.len{Z:U}{K:Nat}{aC:List Nat}(aQ:fN Z K aC):aC.length≤35184372088828:=by
 obtain⟨r,aQ⟩:=aQ;have:=aQ.len;rw [List.length_append] at this;omega
theorem fN.lt{Z:U}{K:Nat}{aC:List Nat}(aQ:fN Z K aC):K < Z.size:=by obtain⟨r,aQ⟩:=aQ;exact aQ.lt
theorem fN.take{Z:U}{K:Nat}{aC:List Nat}(aQ:fN Z K aC)(n:Nat):fN Z K (aC.take n):=by
 obtain⟨r,aQ⟩:=aQ
 exact⟨aC.drop n ++ r,by rw [← List.append_assoc,List.take_append_drop];exact aQ⟩
theorem fN.cR{aI K:Nat}{Z aB:U}{aC:List Nat}(aQ:fN Z K aC)(a3:K ≠ aI)(R:cG aI Z aB):fN aB K aC:=by
 obtain⟨r,aQ⟩:=aQ;exact⟨r,aQ.cR a3 R⟩
theorem fN.aU{K:Nat}{Z aB:U}{aC:List Nat}(aQ:fN Z K aC)(R:bK Z aB):fN aB K aC:=by
 obtain⟨r,aQ⟩:=aQ;exact⟨r,aQ.aU R⟩
theorem fN.word{Z:U}{K:Nat}{aC:List Nat}(aQ:fN Z K aC)(O:Nat):aC.getD O 0 < 18446744073709551616:=Ay aQ.words O
theorem fN.rd{Z:U}{K c:Nat}{aC:List Nat}(aQ:fN Z K aC)(a:aC.length≤c):cJ Z (some ⟨K,0,none⟩) c aC:=by
 refine⟨aQ.len,a,aQ.words,fun O a8=>⟨_,rfl,?_⟩⟩
 obtain⟨r,aQ⟩:=aQ
 rw [cB,aQ.cell (by rw [List.length_append];omega)]
 have N:(aC ++ r).getD O 0=aC.getD O 0:=by simp [List.getD,List.getElem?_append_left a8]
 rw [N]
theorem fN.set{Z:U}{K:Nat}{aC:List Nat}(aQ:fN Z K aC){aD v:Nat}(a:aD < aC.length)(b5:v < 18446744073709551616):fN (gO Z ⟨K,aD,none⟩ (hR v)) K (aC.set aD v):=by
 obtain⟨r,aQ⟩:=aQ
 refine⟨r,?_⟩
 have:=aQ.set aD b5
 rw [List.set_append_left _ _ a] at this;exact this
theorem wZ{Z:U}{K l:Nat}{aC:List Nat}(aQ:fN Z K aC){O:Int}{aD:Nat}(a8:O=(aD:Int))(a:l=aC.length)(b:aD < aC.length){L:Int}{v:Nat}(c:L=(v:Int))(b5:v < 18446744073709551616){aH:U→Prop}
  (g:fN (gO Z ⟨K,aD,none⟩ (hR v)) K (aC.set aD v)→cG K Z (gO Z ⟨K,aD,none⟩ (hR v))→aH (gO Z ⟨K,aD,none⟩ (hR v))):c6 (some ⟨K,0,none⟩) l O 1 fun aI=>cM Z aI (.int .u64 L) aH:=by
 subst a8;subst c;subst a
 have d:=g (aQ.set b b5) (cG.set _ _ _ _)
 obtain⟨r,aQ⟩:=aQ
 refine⟨⟨by omega,by omega⟩,?_⟩
 show cM Z ((⟨K,0,none⟩:Addr).add ((aD:Int).toNat*1)) _ _
 have e:(aD:Int).toNat*1=aD:=by omega
 rw [e,cB]
 exact⟨⟨⟨_,aQ.cell (by rw [List.length_append];omega)⟩,aQ.frozen aD⟩,d⟩
theorem Cl{a:S}{l c:Nat}{L aT:Int}{n:Nat}(b:L=(n:Int))(d:aT=(n:Int))(e:n≤c){aH:S→Nat→Nat→Prop}(g:aH a n n):iR 1 a l c none (some (.int .i64 L)) (some (.int .i64 aT)) aH:=by
 subst b;subst d
 show(0≤(n:Int)∧(n:Int)≤(c:Int))∧(0≤(n:Int)∧(n:Int)≤(((n:Int).toNat:Nat):Int))∧aH (jT a (n:Int).toNat 0 1) ((n:Int).toNat - 0) ((n:Int).toNat - 0)
 refine⟨⟨by omega,by omega⟩,⟨by omega,by omega⟩,?_⟩
 have N:jT a (n:Int).toNat 0 1=a:=by
  unfold jT
  split
  ·rfl
  ·cases a <;> simp [Addr.add]
 rw [N];simpa using g
theorem E5{a:S}{l c:Nat}{L aT bS:Int}{m n:Nat}(b:L=(m:Int))(d:aT=(n:Int))(e:bS=(n:Int))(f:m≤n)(h:n≤c){aH:S→Nat→Nat→Prop}(g:aH (jT a n m 1) (n - m) (n - m)):iR 1 a l c (some (.int .i64 L)) (some (.int .i64 aT)) (some (.int .i64 bS)) aH:=by
 subst b;subst d;subst e
 show(0≤(n:Int)∧(n:Int)≤(c:Int))∧(0≤(n:Int)∧(n:Int)≤(((n:Int).toNat:Nat):Int))∧(0≤(m:Int)∧(m:Int)≤(((n:Int).toNat:Nat):Int))∧aH (jT a (n:Int).toNat (m:Int).toNat 1) ((n:Int).toNat - (m:Int).toNat) ((n:Int).toNat - (m:Int).toNat)
 refine⟨⟨by omega,by omega⟩,⟨by omega,by omega⟩,⟨by omega,by omega⟩,?_⟩
 simpa using g
theorem mT:∀ {a9:List Nat} {aD v:Nat},aD < a9.length→val (a9.set aD v)+a9.getD aD 0*2 ^ (64*aD)=val a9+v*2 ^ (64*aD)
 | [],_,_,Z=>absurd Z (by simp)
 | bS :: a9,0,v,_=>by simp [val];omega
 | bS :: a9,aD+1,v,Z=>by
  have bZ:=mT (a9:=a9) (aD:=aD) (v:=v) (by simpa using Z)
  have N:2 ^ (64*(aD+1))=18446744073709551616*2 ^ (64*aD):=by
   rw [show 64*(aD+1)=64+64*aD by omega,Nat.pow_add]
  simp only [List.set_cons_succ,val,List.getD_cons_succ,N]
  have b:a9.getD aD 0*(18446744073709551616*2 ^ (64*aD))=18446744073709551616*(a9.getD aD 0*2 ^ (64*aD)):=Nat.mul_left_comm _ _ _
  have c:v*(18446744073709551616*2 ^ (64*aD))=18446744073709551616*(v*2 ^ (64*aD)):=Nat.mul_left_comm _ _ _
  rw [b,c]
  generalize a9.getD aD 0*2 ^ (64*aD)=a at *
  generalize v*2 ^ (64*aD)=K at *
  omega
theorem kR(aD:Nat):2 ^ (64*(aD+1))=18446744073709551616*2 ^ (64*aD):=by
 rw [show 64*(aD+1)=64+64*aD by omega,Nat.pow_add]
theorem Az{bA V a bS kE c dI p r P:Nat}(a1:kE+bA*dI=p+c+bS)(h:a+bS*P=V+kE*P):a+(r+dI)*(bA*P)=V+(p+bA*r+c)*P:=by
 have b:(kE+bA*dI)*P=(p+c+bS)*P:=by rw [a1]
 have d:(kE+bA*dI)*P=kE*P+bA*dI*P:=Nat.add_mul _ _ _
 have e:(p+c+bS)*P=p*P+c*P+bS*P:=by rw [Nat.add_mul,Nat.add_mul]
 have f:(r+dI)*(bA*P)=bA*r*P+bA*dI*P:=by rw [Nat.add_mul,Nat.mul_left_comm r,Nat.mul_left_comm dI,Nat.mul_assoc,Nat.mul_assoc]
 have g:(p+bA*r+c)*P=p*P+bA*r*P+c*P:=by rw [Nat.add_mul,Nat.add_mul]
 rw [f,g];rw [d,e] at b
 omega
theorem E6{bA V a bS kE aQ fO cY r P T:Nat}(a1:kE+cY+aQ=bS+bA*fO)(g:a+bS*P=V+kE*P)(Z:V=T+(cY+bA*r+aQ)*P):a=T+(r+fO)*(bA*P):=by
 have b:(kE+cY+aQ)*P=(bS+bA*fO)*P:=by rw [a1]
 have c:(kE+cY+aQ)*P=kE*P+cY*P+aQ*P:=by rw [Nat.add_mul,Nat.add_mul]
 have d:(bS+bA*fO)*P=bS*P+bA*fO*P:=Nat.add_mul _ _ _
 have e:(r+fO)*(bA*P)=bA*r*P+bA*fO*P:=by rw [Nat.add_mul,Nat.mul_left_comm r,Nat.mul_left_comm fO,Nat.mul_assoc,Nat.mul_assoc]
 have f:(cY+bA*r+aQ)*P=cY*P+bA*r*P+aQ*P:=by rw [Nat.add_mul,Nat.add_mul]
 rw [e];rw [c,d] at b;rw [f] at Z
 omega
theorem mD(aC:List Nat)(O:Nat):val (aC.drop O)=aC.getD O 0+18446744073709551616*val (aC.drop (O+1)):=by
 by_cases Z:O < aC.length
 ·rw [jD Z];rfl
 ·rw [List.drop_of_length_le (by omega),List.drop_of_length_le (by omega)]
  simp [val,List.getD,show aC.length≤O by omega]
theorem Cm{a9:List Nat}{T P O:Nat}(a:P=2 ^ (64*O))(Z:P≤T)(b:T < 2 ^ (64*a9.length)):O < a9.length:=by
 subst a
 refine Nat.lt_of_not_le fun c=>?_
 have:2 ^ (64*a9.length)≤2 ^ (64*O):=Nat.pow_le_pow_right (by decide) (by omega)
 omega
theorem uY(m:Nat):val (List.replicate m 0)=0:=by
 induction m with
 | zero=>rfl
 | succ m bZ=>rw [List.replicate_succ];simp [val,bZ]
end Go.Gv
namespace Go.Gv.D
def val:List Nat→Nat
 | []=>0
 | L :: aC=>L+4294967296*val aC
def aN(n:Nat):List Nat:=if Z:n=0 then [] else n % 4294967296 :: aN (n / 4294967296)
 termination_by n
 decreasing_by omega
def Words(aC:List Nat):Prop:=∀ L ∈ aC,L < 4294967296
theorem Words.cons{L:Nat}{aC:List Nat}(Z:Words (L :: aC)):L < 4294967296∧Words aC:=⟨Z L (by simp),fun aT a=>Z aT (by simp [a])⟩
theorem e0:aN 0=[]:=by unfold aN;simp
theorem k2{n:Nat}(Z:n ≠ 0):aN n=n % 4294967296 :: aN (n / 4294967296):=by
 rw [aN];simp [Z]
theorem qP(n:Nat):Words (aN n):=by
 induction n using Nat.strongRecOn with
 | ind n bZ=>
  by_cases Z:n=0
  ·subst Z;rw [e0];intro L a;cases a
  ·rw [k2 Z];intro L a
   rcases List.mem_cons.mp a with N | N
   ·omega
   ·exact bZ _ (by omega) L N
theorem e9(n:Nat):val (aN n)=n:=by
 induction n using Nat.strongRecOn with
 | ind n bZ=>
  by_cases Z:n=0
  ·subst Z;rw [e0];rfl
  ·rw [k2 Z];show n % _+_*val (aN _)=n
   rw [bZ _ (by omega)];omega
theorem qQ{aC:List Nat}:eA aC=[]↔val aC=0:=by
 induction aC with
 | nil=>simp [eA,val]
 | cons L aC bZ=>
  simp only [eA,val]
  split
  ·next Z=>simp only [true_iff];have:=bZ.mp Z.2;omega
  ·next Z=>
   simp only [reduceCtorEq,false_iff]
   intro N
   exact Z ⟨by omega,bZ.mpr (by omega)⟩
theorem mU{aC:List Nat}(a:Words aC):aN (val aC)=eA aC:=by
 induction aC with
 | nil=>simp [val,eA,e0]
 | cons L aC bZ=>
  have b:=a.cons
  simp only [eA,val]
  split
  ·next Z=>rw [Z.1,qQ.mp Z.2];exact e0
  ·next Z=>
   have c:L+4294967296*val aC ≠ 0:=fun N=>Z ⟨by omega,qQ.mpr (by omega)⟩
   rw [k2 c]
   have d:(L+4294967296*val aC) % 4294967296=L:=by omega
   have e:(L+4294967296*val aC) / 4294967296=val aC:=by omega
   rw [d,e,bZ b.2]
theorem sN(aC:List Nat):val (eA aC)=val aC:=by
 induction aC with
 | nil=>rfl
 | cons L aC bZ=>
  simp only [eA]
  split
  ·next Z=>simp only [val];rw [Z.1,qQ.mp Z.2]
  ·simp only [val];rw [bZ]
theorem rH(n:Nat):eA (aN n)=aN n:=by rw [← mU (qP n),e9]
theorem o1{n m:Nat}(Z:n≤m):(aN n).length≤(aN m).length:=by
 induction m using Nat.strongRecOn generalizing n with
 | ind m bZ=>
  by_cases a:n=0
  ·subst a;rw [e0];simp
  ·rw [k2 a,k2 (n:=m) (by omega)]
   simp only [List.length_cons]
   exact Nat.succ_le_succ (bZ (m / 4294967296) (by omega) (Nat.div_le_div_right Z))
theorem AA(aX:List Nat):val aX=aX.headD 0+4294967296*val aX.tail:=by cases aX <;> simp [val]
theorem uZ:∀ {aC aX:List Nat} {aD:Nat},Words aC→Words aX→aC.length=aX.length→aD < aC.length→aC.drop (aD+1)=aX.drop (aD+1)→aC.getD aD 0 < aX.getD aD 0→val aC < val aX
 | [],_,_,_,_,_,a,_,_=>absurd a (by simp)
 | L :: aC,[],_,_,_,b,_,_,_=>absurd b (by simp)
 | L :: aC,aT :: aX,0,c,d,b,a,aW,Z=>by
  have N:aC=aX:=by simpa using aW
  subst N
  simp only [List.getD_cons_zero] at Z
  simp only [val];omega
 | L :: aC,aT :: aX,aD+1,c,d,b,a,aW,Z=>by
  have:=uZ (aC:=aC) (aX:=aX) (aD:=aD) c.cons.2 d.cons.2 (by simpa using b) (by simpa using a) (by simpa using aW) (by simpa using Z)
  have a1:=c.cons.1
  have e:=d.cons.1
  simp only [val];omega
theorem sO:∀ {aC aX:List Nat},Words aC→eA aX=aX→aC.length < aX.length→val aC < val aX
 | _,[],_,_,Z=>absurd Z (by simp)
 | [],aT :: aX,_,a,_=>by
  have:val (aT :: aX) ≠ 0:=fun N=>by rw [qQ.mpr N] at a;cases a
  simp only [val] at this ⊢;omega
 | L :: aC,aT :: aX,b,a,Z=>by
  have:=sO (aC:=aC) (aX:=aX) b.cons.2 (AB a) (by simpa using Z)
  have a1:=b.cons.1
  simp only [val];omega
theorem h5(aC aX:List Nat):val (aC ++ aX)=val aC+2 ^ (32*aC.length)*val aX:=by
 induction aC with
 | nil=>simp [val]
 | cons L aC bZ=>
  simp only [List.cons_append,val,bZ,List.length_cons]
  have N:2 ^ (32*(aC.length+1))=4294967296*2 ^ (32*aC.length):=by
   rw [show 32*(aC.length+1)=32+32*aC.length by omega,Nat.pow_add]
  rw [N,Nat.mul_add,Nat.mul_assoc];omega
theorem iK{aC:List Nat}(a:Words aC):val aC < 2 ^ (32*aC.length):=by
 induction aC with
 | nil=>simp [val]
 | cons L aC bZ=>
  have N:2 ^ (32*(aC.length+1))=4294967296*2 ^ (32*aC.length):=by
   rw [show 32*(aC.length+1)=32+32*aC.length by omega,Nat.pow_add]
  rw [List.length_cons,N];simp only [val]
  have a1:=a.cons.1
  have b:=bZ a.cons.2
  omega
theorem yN{aC:List Nat}(a:Words aC){n:Nat}(b:aC.length=n+1)(a2:aC.getD n 0 ≠ 0):eJ (val aC)=32*n+eJ (aC.getD n 0):=by
 have N:aC=aC.take n ++ [aC.getD n 0]:=by rw [← mV (by omega),← b,List.take_length]
 have b5:val aC=val (aC.take n)+2 ^ (32*n)*aC.getD n 0:=by
  conv=>lhs;rw [N]
  rw [h5];simp [val,show min n aC.length=n by omega]
 have dC:val (aC.take n) < 2 ^ (32*n):=by
  have:=iK (aC:=aC.take n) (fun L c=>a L (List.mem_of_mem_take c))
  rwa [List.length_take,show min n aC.length=n by omega] at this
 have aW:val aC / 2 ^ (32*n)=aC.getD n 0:=by
  rw [b5,Nat.add_mul_div_left _ _ (Nat.pow_pos (by decide)),Nat.div_eq_of_lt dC,Nat.zero_add]
 have:=u0 (val aC) (32*n)
 rw [aW] at this
 have:=rI a2
 omega
theorem gZ{n R:Nat}:(aN n).length≤R↔n < 2 ^ (32*R):=by
 constructor
 ·intro Z
  have:=iK (qP n)
  rw [e9] at this
  exact Nat.lt_of_lt_of_le this (Nat.pow_le_pow_right (by decide) (by omega))
 ·intro Z
  induction R generalizing n with
  | zero=>
   have:n=0:=by simpa using Z
   subst this;rw [e0];simp
  | succ R bZ=>
   by_cases a2:n=0
   ·subst a2;rw [e0];simp
   ·rw [k2 a2,List.length_cons]
    have N:2 ^ (32*(R+1))=2 ^ (32*R)*4294967296:=by
     rw [show 32*(R+1)=32*R+32 by omega,Nat.pow_add]
    rw [N] at Z
    have:=bZ (n:=n / 4294967296) (Nat.div_lt_of_lt_mul (by rw [Nat.mul_comm];exact Z))
    omega
theorem AD{a7 bQ R:Nat}(a:(aN a7).length≤R)(b:(aN bQ).length≤R):(aN (a7+bQ)).length≤R+1:=by
 refine gZ.mpr ?_
 have a1:=gZ.mp a
 have c:=gZ.mp b
 have N:2 ^ (32*(R+1))=2 ^ (32*R)*4294967296:=by
  rw [show 32*(R+1)=32*R+32 by omega,Nat.pow_add]
 rw [N];generalize 2 ^ (32*R)=p at *;omega
theorem AE{v:Nat}(R:Nat):eJ v≤32*R↔(aN v).length≤R:=by
 rw [gZ,iL]
theorem lW{aC:List Nat}(a:Words aC)(m:Nat):val (aC.drop m)=val aC / 2 ^ (32*m):=by
 by_cases b:m≤aC.length
 ·have N:val aC=val (aC.take m)+2 ^ (32*m)*val (aC.drop m):=by
   conv=>lhs;rw [← List.take_append_drop m aC]
   rw [h5,List.length_take,Nat.min_eq_left b]
  have dC:=iK (aC:=aC.take m) (fun L c=>a L (List.mem_of_mem_take c))
  rw [List.length_take,Nat.min_eq_left b] at dC
  rw [N,Nat.add_mul_div_left _ _ (Nat.pow_pos (by decide)),Nat.div_eq_of_lt dC,Nat.zero_add]
 ·rw [List.drop_of_length_le (by omega)]
  have:=iK a
  have d:2 ^ (32*aC.length)≤2 ^ (32*m):=Nat.pow_le_pow_right (by decide) (by omega)
  rw [Nat.div_eq_of_lt (by omega)];rfl
theorem nF{R:Nat}(a:R < 32):2 ^ R*2 ^ (32 - R)=4294967296:=by
 rw [← Nat.pow_add,show R+(32 - R)=32 by omega]
theorem Cn{aC:List Nat}(a:Words aC){m R:Nat}(b:m < aC.length)(c:R < 32):val (aC.take m ++ [aC.getD m 0 % 2 ^ R])=val aC % 2 ^ (32*m+R):=by
 have N:val aC=val (aC.take m)+2 ^ (32*m)*val (aC.drop m):=by
  conv=>lhs;rw [← List.take_append_drop m aC]
  rw [h5,List.length_take,Nat.min_eq_left (by omega)]
 have dC:=iK (aC:=aC.take m) (fun L d=>a L (List.mem_of_mem_take d))
 rw [List.length_take,Nat.min_eq_left (by omega)] at dC
 rw [h5,List.length_take,Nat.min_eq_left (by omega),Nat.pow_add,Nat.mod_mul,N,Nat.add_mul_mod_self_left,Nat.mod_eq_of_lt dC,Nat.add_mul_div_left _ _ (Nat.pow_pos (by decide)),Nat.div_eq_of_lt dC,Nat.zero_add,jD b]
 simp only [val,Nat.mul_zero,Nat.add_zero]
 congr 2
 rw [← nF c,Nat.mul_assoc,Nat.add_mul_mod_self_left]
theorem mT:∀ {a9:List Nat} {aD v:Nat},aD < a9.length→val (a9.set aD v)+a9.getD aD 0*2 ^ (32*aD)=val a9+v*2 ^ (32*aD)
 | [],_,_,Z=>absurd Z (by simp)
 | bS :: a9,0,v,_=>by simp [val];omega
 | bS :: a9,aD+1,v,Z=>by
  have bZ:=mT (a9:=a9) (aD:=aD) (v:=v) (by simpa using Z)
  have N:2 ^ (32*(aD+1))=4294967296*2 ^ (32*aD):=by
   rw [show 32*(aD+1)=32+32*aD by omega,Nat.pow_add]
  simp only [List.set_cons_succ,val,List.getD_cons_succ,N]
  have b:a9.getD aD 0*(4294967296*2 ^ (32*aD))=4294967296*(a9.getD aD 0*2 ^ (32*aD)):=Nat.mul_left_comm _ _ _
  have c:v*(4294967296*2 ^ (32*aD))=4294967296*(v*2 ^ (32*aD)):=Nat.mul_left_comm _ _ _
  rw [b,c]
  generalize a9.getD aD 0*2 ^ (32*aD)=a at *
  generalize v*2 ^ (32*aD)=K at *
  omega
theorem kR(aD:Nat):2 ^ (32*(aD+1))=4294967296*2 ^ (32*aD):=by
 rw [show 32*(aD+1)=32+32*aD by omega,Nat.pow_add]
theorem mD(aC:List Nat)(O:Nat):val (aC.drop O)=aC.getD O 0+4294967296*val (aC.drop (O+1)):=by
 by_cases Z:O < aC.length
 ·rw [jD Z];rfl
 ·rw [List.drop_of_length_le (by omega),List.drop_of_length_le (by omega)]
  simp [val,List.getD,show aC.length≤O by omega]
theorem Cm{a9:List Nat}{T P O:Nat}(a:P=2 ^ (32*O))(Z:P≤T)(b:T < 2 ^ (32*a9.length)):O < a9.length:=by
 subst a
 refine Nat.lt_of_not_le fun c=>?_
 have:2 ^ (32*a9.length)≤2 ^ (32*O):=Nat.pow_le_pow_right (by decide) (by omega)
 omega
theorem uY(m:Nat):val (List.replicate m 0)=0:=by
 induction m with
 | zero=>rfl
 | succ m bZ=>rw [List.replicate_succ];simp [val,bZ]
end Go.Gv.D
namespace Go.Gv
structure kS(dF:Type) where
 enc:dF→Value
 ok:dF→Prop
 fW:Nat
 plain:∀ L,n4 (enc L)=true
def dL:kS Nat:=⟨fun L=>.int .u64 (L:Int),fun L=>L < 18446744073709551616,35184372088828,fun _=>rfl⟩
def cA:kS Nat:=⟨fun L=>.int .u32 (L:Int),fun L=>L < 4294967296,70368744177656,fun _=>rfl⟩
def E7:kS Nat:=⟨fun L=>.int .u8 (L:Int),fun L=>L < 256,281474976710656,fun _=>rfl⟩
instance (L:Nat):Decidable (dL.ok L):=inferInstanceAs (Decidable (L < 18446744073709551616))
instance (L:Nat):Decidable (cA.ok L):=inferInstanceAs (Decidable (L < 4294967296))
instance (L:Nat):Decidable (E7.ok L):=inferInstanceAs (Decidable (L < 256))
theorem Co:dL.ok 0:=(by decide:0 < 18446744073709551616)
theorem qR:cA.ok 0:=(by decide:0 < 4294967296)
abbrev fA:=Option Addr × Nat × Nat
def lX:kS fA:=⟨fun aG=>.slice aG.1 aG.2.1 aG.2.2,fun _=>True,11728124029610,fun _=>rfl⟩
variable {dF:Type} {E:kS dF}
structure cL(E:kS dF)(Z:U)(a:S)(c:Nat)(aC:List dF):Prop where
 len:aC.length≤E.fW
 cap:aC.length≤c
 ok:∀ L ∈ aC,E.ok L
 at_:∀ O L,aC[O]?=some L→∃ p,a=some p∧hB Z (p.add O)=some (E.enc L)
theorem cL.aU{Z aB:U}{a:S}{c:Nat}{aC:List dF}(r:cL E Z a c aC)(R:bK Z aB):cL E aB a c aC:=
 ⟨r.len,r.cap,r.ok,fun O L a8=>let ⟨p,N,g⟩:=r.at_ O L a8;⟨p,N,R.cell g⟩⟩
theorem cL.nil(Z:U)(a:S)(c:Nat):cL E Z a c []:=⟨by simp,by simp,by simp,fun O L a8=>by simp at a8⟩
theorem cL.take{Z:U}{a:S}{c:Nat}{aC:List dF}(r:cL E Z a c aC)(n:Nat):cL E Z a c (aC.take n):=by
 refine⟨?_,?_,fun L b=>r.ok L (List.mem_of_mem_take b),fun O L a8=>?_⟩
 ·have:=r.len;rw [List.length_take];omega
 ·have:=r.cap;rw [List.length_take];omega
 ·rw [List.getElem?_take] at a8
  split at a8
  ·exact r.at_ O L a8
  ·cases a8
theorem cL.drop{Z:U}{a:S}{c m:Nat}{aC:List dF}(r:cL E Z a c aC)(n:Nat)(d:n≤aC.length)(e:aC.length≤m):cL E Z (jT a m n 1) (m - n) (aC.drop n):=by
 have a1:=r.len;have f:=r.cap
 refine⟨?_,?_,fun L b=>r.ok L (List.mem_of_mem_drop b),fun O L a8=>?_⟩
 ·rw [List.length_drop];omega
 ·rw [List.length_drop];omega
 ·rw [List.getElem?_drop] at a8
  obtain⟨p,N,g⟩:=r.at_ (n+O) L a8
  have dC:=(List.getElem?_eq_some_iff.mp a8).1
  refine⟨p.add n,?_,by rw [add_add];exact g⟩
  rw [N];unfold jT
  rw [if_neg (by omega)];simp
theorem Cp{Z:U}{a:S}{c l:Nat}{aC:List dF}(r:cL E Z a c aC){O:Int}{aD:Nat}(a8:O=(aD:Int))(d:l=aC.length){L:dF}(b:aC[aD]?=some L){aH:Value→Prop}
  (g:aH (E.enc L)):c6 a l O 1 fun aI=>fZ Z aI aH:=by
 subst a8;subst d
 obtain⟨p,N,e⟩:=r.at_ aD L b
 have h:=(List.getElem?_eq_some_iff.mp b).1
 subst N
 refine⟨⟨by omega,by omega⟩,?_⟩
 show fZ Z (p.add ((aD:Int).toNat*1)) _
 have f:(aD:Int).toNat*1=aD:=by omega
 rw [f]
 unfold fZ;rw [e];exact g
theorem getD_some{aC:List Nat}{aD:Nat}(a:aD < aC.length):aC[aD]?=some (aC.getD aD 0):=by simp [List.getD,a]
theorem jJ{Z:U}{a:S}{c l:Nat}{aC:List Nat}(r:cL cA Z a c aC){O:Int}{aD:Nat}(a8:O=(aD:Int))(b:l=aC.length)(d:aD < aC.length){aH:Int→Prop}
  (g:aH (aC.getD aD 0:Nat)):c6 a l O 1 fun aI=>fZ Z aI fun v=>a0 .u32 v aH:=
 Cp r a8 b (getD_some d) g
theorem AF{Z:U}{a:S}{c l:Nat}{aC:List Nat}(r:cL dL Z a c aC){O:Int}{aD:Nat}(a8:O=(aD:Int))(b:l=aC.length)(d:aD < aC.length){aH:Int→Prop}
  (g:aH (aC.getD aD 0:Nat)):c6 a l O 1 fun aI=>fZ Z aI fun v=>a0 .u64 v aH:=
 Cp r a8 b (getD_some d) g
theorem nG{Z:U}{a:S}{c l:Nat}{aC:List fA}(r:cL lX Z a c aC){O:Int}{aD:Nat}(a8:O=(aD:Int))(b:l=aC.length){L:fA}(d:aC[aD]?=some L){aH:S→Nat→Nat→Prop}
  (g:aH L.1 L.2.1 L.2.2):c6 a l O 1 fun aI=>fZ Z aI fun v=>aR v aH:=
 Cp r a8 b d g
theorem cL.yO{Z:U}{a:S}{c:Nat}{aC:List Nat}(r:cL dL Z a c aC):cJ Z a c aC:=
 ⟨r.len,r.cap,r.ok,fun O a8=>r.at_ O _ (getD_some a8)⟩
structure dZ(E:kS dF)(Z:U)(K:Nat)(a9:List dF):Prop where
 ok:∀ L ∈ a9,E.ok L
 at_:∃ N,Z[K]?=some (.cells (a9.map E.enc).toArray N (0,0))
theorem dZ.lt{Z:U}{K:Nat}{a9:List dF}(aQ:dZ E Z K a9):K < Z.size:=by
 obtain⟨N,g⟩:=aQ.at_;exact(Array.getElem?_eq_some_iff.mp g).1
theorem dZ.cell{Z:U}{K:Nat}{a9:List dF}(aQ:dZ E Z K a9){O:Nat}{L:dF}(a8:a9[O]?=some L):hB Z ⟨K,O,none⟩=some (E.enc L):=by
 obtain⟨N,g⟩:=aQ.at_
 unfold hB
 simp only [g,Option.isSome_none,Bool.false_eq_true,if_false]
 simp [a8]
theorem dZ.frozen{Z:U}{K:Nat}{a9:List dF}(aQ:dZ E Z K a9)(O:Nat):mS Z ⟨K,O,none⟩=false:=by
 obtain⟨N,g⟩:=aQ.at_
 unfold mS
 simp [g]
theorem dZ.Cq{Z:U}{K off n c:Nat}{a9:List dF}(aQ:dZ E Z K a9)(b:n≤E.fW)(d:off+n≤a9.length)(e:n≤c):cL E Z (some ⟨K,off,none⟩) c ((a9.drop off).take n):=by
 refine⟨by rw [List.length_take];omega,by rw [List.length_take];omega,fun L a=>aQ.ok L (List.mem_of_mem_drop (List.mem_of_mem_take a)),fun O L a8=>⟨_,rfl,?_⟩⟩
 rw [List.getElem?_take] at a8
 split at a8
 ·rw [List.getElem?_drop] at a8
  have N:(⟨K,off,none⟩:Addr).add O=⟨K,off+O,none⟩:=by
   rw [← cB K off,add_add,cB]
  rw [N];exact aQ.cell a8
 ·cases a8
theorem dZ.rd{Z:U}{K c:Nat}{aC rest:List dF}(aQ:dZ E Z K (aC ++ rest))(a:aC.length≤E.fW)(b:aC.length≤c):cL E Z (some ⟨K,0,none⟩) c aC:=by
 have:=aQ.Cq (off:=0) (n:=aC.length) (c:=c) a (by simp) b
 simpa using this
theorem dZ.n7{Z:U}{K c:Nat}{aC:List dF}(aQ:dZ E Z K aC)(a:aC.length≤E.fW)(b:aC.length≤c):cL E Z (some ⟨K,0,none⟩) c aC:=
 dZ.rd (rest:=[]) (by simpa using aQ) a b
theorem dZ.set{Z:U}{K:Nat}{a9:List dF}(aQ:dZ E Z K a9)(O:Nat){v:dF}(b5:E.ok v):dZ E (gO Z ⟨K,O,none⟩ (E.enc v)) K (a9.set O v):=by
 refine⟨fun L a=>?_,?_⟩
 ·rcases List.mem_or_eq_of_mem_set a with a1 | a1
  ·exact aQ.ok L a1
  ·subst a1;exact b5
 ·obtain⟨N,g⟩:=aQ.at_
  refine⟨N,?_⟩
  unfold gO
  rw [Array.getElem?_modify]
  simp only [if_true,g,Option.map_some]
  simp [List.map_set]
theorem dZ.aU{Z aB:U}{K:Nat}{a9:List dF}(aQ:dZ E Z K a9)(R:bK Z aB):dZ E aB K a9:=by
 obtain⟨N,g⟩:=aQ.at_
 exact⟨aQ.ok,N,by rw [R.pre K aQ.lt];exact g⟩
theorem dZ.cR{aI:Nat}{Z aB:U}{K:Nat}{a9:List dF}(aQ:dZ E Z K a9)(a3:K ≠ aI)(R:cG aI Z aB):dZ E aB K a9:=by
 obtain⟨N,g⟩:=aQ.at_
 exact⟨aQ.ok,N,by rw [R.pre K aQ.lt a3];exact g⟩
theorem cL.cR{aI:Nat}{Z aB:U}{a:S}{c:Nat}{aC:List dF}(r:cL E Z a c aC)(aQ:gA aI a)(R:cG aI Z aB):cL E aB a c aC:=
 ⟨r.len,r.cap,r.ok,fun O L a8=>by
  obtain⟨p,N,g⟩:=r.at_ O L a8
  refine⟨p,N,?_⟩
  have a3:=uX g
  rw [qM (R.pre _ a3 (by rw [oY];exact aQ p N))];exact g⟩
theorem Cr{Z:U}{K l off:Nat}{a9:List dF}(aQ:dZ E Z K a9){O:Int}{aD:Nat}(a8:O=(aD:Int))(d:aD < l)(e:off+aD < a9.length){L:Value}{v:dF}(a:L=E.enc v)(b5:E.ok v){aH:U→Prop}
  (g:dZ E (gO Z ⟨K,off+aD,none⟩ (E.enc v)) K (a9.set (off+aD) v)→cG K Z (gO Z ⟨K,off+aD,none⟩ (E.enc v))→aH (gO Z ⟨K,off+aD,none⟩ (E.enc v))):c6 (some ⟨K,off,none⟩) l O 1 fun aI=>cM Z aI L aH:=by
 subst a8;subst a
 refine⟨⟨by omega,by omega⟩,?_⟩
 show cM Z ((⟨K,off,none⟩:Addr).add ((aD:Int).toNat*1)) _ _
 have b:(aD:Int).toNat*1=aD:=by omega
 have N:(⟨K,off,none⟩:Addr).add aD=⟨K,off+aD,none⟩:=by
  rw [← cB K off,add_add,cB]
 rw [b,N]
 obtain⟨aE,c⟩:∃ aE,a9[off+aD]?=some aE:=⟨a9[off+aD],by simp⟩
 exact⟨⟨⟨_,aQ.cell c⟩,aQ.frozen _⟩,g (aQ.set _ b5) (cG.set _ _ _ _)⟩
theorem AG{Z:U}{K l:Nat}{a9:List dF}(aQ:dZ E Z K a9){O:Int}{aD:Nat}(a8:O=(aD:Int))(a:aD < l)(b:aD < a9.length){L:Value}{v:dF}(c:L=E.enc v)(b5:E.ok v){aH:U→Prop}
  (g:dZ E (gO Z ⟨K,aD,none⟩ (E.enc v)) K (a9.set aD v)→cG K Z (gO Z ⟨K,aD,none⟩ (E.enc v))→aH (gO Z ⟨K,aD,none⟩ (E.enc v))):c6 (some ⟨K,0,none⟩) l O 1 fun aI=>cM Z aI L aH:=by
 have N:0+aD=aD:=Nat.zero_add aD
 refine Cr (off:=0) aQ a8 a (by rw [N];exact b) c b5 ?_
 rw [N];exact g
theorem qS{Z:U}{N:TypeId}{O:dW}{n m:Int}(E:kS dF)(bS:dF)(a K:Nat)(c:O.a9=[E.enc bS])(ok:E.ok bS)(b:Nat)(a3:O.bytes=b)(h:1≤b)(d:n=(a:Int))(e:m=(K:Int))(i:a≤K)(j:b*K≤281474976710656){aH:Addr→U→Prop}
  (g:∀ aB,dZ E aB Z.size (List.replicate K bS)→bK Z aB→aH ⟨Z.size,0,none⟩ aB):iS Z N O n m aH:=by
 subst d;subst e;subst a3
 refine⟨⟨by omega,by omega,by omega,?_⟩,g _ ⟨?_,N,?_⟩ ⟨by simp,fun K a3=>?_⟩⟩
 ·have:((O.bytes:Int)*(K:Int))=((O.bytes*K:Nat):Int):=by simp
  rw [this];omega
 ·intro L f;rw [List.eq_of_mem_replicate f];exact ok
 ·rw [c,AH];simp
 ·rw [Array.getElem?_push];rw [if_neg (by omega)]
theorem rJ{Z:U}{N:TypeId}{dR:List Value}(E:kS dF)(aC:List dF)(a:dR=aC.map E.enc)(b:∀ L ∈ aC,E.ok L){aH:Addr→U→Prop}
  (g:∀ aB,dZ E aB Z.size aC→bK Z aB→aH ⟨Z.size,0,none⟩ aB):dX Z N dR aH:=by
 subst a
 refine g _ ⟨b,N,?_⟩ ⟨by simp,fun K a3=>?_⟩
 ·simp
 ·rw [Array.getElem?_push];rw [if_neg (by omega)]
theorem E8{Z:U}{p:Addr}:∀ {b8:List dF} {O:Nat},(∀ aD L,b8[aD]?=some L→hB Z (p.add (O+aD))=some (E.enc L))→qD Z p O (b8.map E.enc)
 | [],_,_=>trivial
 | v :: b8,O,g=>by
  refine⟨by have:=g 0 v (by simp);simpa using this,E8 fun aD L a=>?_⟩
  have:=g (aD+1) L (by simpa using a)
  rw [show O+1+aD=O+(aD+1) by omega];exact this
theorem AI{Z:U}{p:Addr}:∀ {n O:Nat},(∀ aD,aD < n→(∃ v,hB Z (p.add (O+aD))=some v)∧mS Z (p.add (O+aD))=false)→pO Z p O n
 | 0,_,_=>trivial
 | n+1,O,g=>by
  refine⟨by have:=g 0 (by omega);simpa using this,AI fun aD a=>?_⟩
  have:=g (aD+1) (by omega)
  rw [show O+1+aD=O+(aD+1) by omega];exact this
theorem Cs{K:Nat}:∀ {b8:List dF} {Z:U} {a9:List dF} {off O:Nat},dZ E Z K a9→(∀ L ∈ b8,E.ok L)→off+O+b8.length≤a9.length→
  dZ E (jB Z ⟨K,off,none⟩ O (b8.map E.enc)) K (a9.take (off+O) ++ (b8 ++ a9.drop (off+O+b8.length)))∧cG K Z (jB Z ⟨K,off,none⟩ O (b8.map E.enc))
 | [],Z,a9,off,O,aQ,_,a=>by
  refine⟨?_,cG.refl _ _⟩
  simp only [List.map_nil,jB,List.length_nil,Nat.add_zero,List.nil_append,List.take_append_drop];exact aQ
 | v :: b8,Z,a9,off,O,aQ,b5,a=>by
  have N:(⟨K,off,none⟩:Addr).add O=⟨K,off+O,none⟩:=by
   rw [← cB K off,add_add,cB]
  simp only [List.length_cons] at a
  have b:=aQ.set (off+O) (b5 v (by simp))
  obtain⟨c,d⟩:=Cs (b8:=b8) (off:=off) (O:=O+1) b (fun L e=>b5 L (by simp [e])) (by rw [List.length_set];omega)
  simp only [List.map_cons,jB,N]
  refine⟨?_,(cG.set _ _ _ _).trans d⟩
  have f:(a9.set (off+O) v).take (off+(O+1)) ++ (b8 ++ (a9.set (off+O) v).drop (off+(O+1)+b8.length))=a9.take (off+O) ++ ((v :: b8) ++ a9.drop (off+O+(v :: b8).length)):=by
   rw [show off+(O+1)=off+O+1 by omega]
   rw [List.drop_set_of_lt (by omega),List.take_set,List.take_add_one]
   have:(a9.take (off+O) ++ a9[off+O]?.toList).set (off+O) v=a9.take (off+O) ++ [v]:=by
    rw [List.set_append_right _ _ (by rw [List.length_take];omega)]
    have g:a9[off+O]?=some (a9[off+O]'(by omega)):=by simp
    rw [g]
    have h:off+O - (a9.take (off+O)).length=0:=by rw [List.length_take];omega
    rw [h];rfl
   rw [this]
   simp only [List.length_cons,List.cons_append,List.append_assoc,List.nil_append]
   rw [show off+O+1+b8.length=off+O+(b8.length+1) by omega]
  rw [← f];exact c
theorem cL.yP{Z:U}{a:S}{c l bN:Nat}{aC:List dF}(r:cL E Z a c aC)(n:Nat)(f:n≤aC.length):yB Z 1 (.slice a l bN) n ((aC.take n).map E.enc):=by
 refine⟨by rw [List.length_map,List.length_take];omega,?_,?_⟩
 ·intro v b5
  obtain⟨L,_,N⟩:=List.mem_map.mp b5
  subst N;exact E.plain L
 ·cases a with
  | none=>
   show(aC.take n).map E.enc=[]
   cases aC with
   | nil=>simp
   | cons aT aX=>obtain⟨p,N,_⟩:=r.at_ 0 aT (by simp);cases N
  | some p=>
   refine E8 fun aD L b=>?_
   rw [Nat.zero_add]
   obtain⟨aI,d,e⟩:=(r.take n).at_ aD L b
   cases d;exact e
theorem Jz{Z:U}{K l b3 bN:Nat}{a9 aX:List dF}{a:S}(aQ:dZ E Z K a9)(r:cL E Z a bN aX)(h:l≤a9.length)(c:b3=aX.length){cZ:Nat}{aH:Int→U→Prop}
  (g:∀ aB,dZ E aB K (aX.take (min aX.length l) ++ a9.drop (min aX.length l))→cG K Z aB→aH ((min aX.length l:Nat):Int) aB):n5 Z 1 (some ⟨K,0,none⟩) l (.slice a b3 cZ) aH:=by
 subst c
 have i:Nat.min aX.length l=min aX.length l:=rfl
 refine⟨aX.length,(aX.take (min aX.length l)).map E.enc,rfl,r.yP _ (by omega),?_⟩
 have b:(aX.take (min aX.length l)).length=min aX.length l:=by rw [List.length_take];omega
 have:=Cs (b8:=aX.take (min aX.length l)) (off:=0) (O:=0) aQ (fun L d=>r.ok L (List.mem_of_mem_take d)) (by rw [b];omega)
 refine⟨AI fun aD e=>?_,?_⟩
 ·rw [List.length_map,b] at e
  rw [Nat.zero_add,cB]
  obtain⟨aE,f⟩:∃ aE,a9[aD]?=some aE:=⟨a9[aD]'(by omega),by simp⟩
  exact⟨⟨_,aQ.cell f⟩,aQ.frozen _⟩
 ·refine g _ ?_ this.2
  have a1:=this.1
  rw [b] at a1
  simpa using a1
structure cX(E:kS dF)(a2 Z:U)(a:S)(c:Nat)(aC:List dF):Prop where
 len:aC.length≤E.fW
 cap:aC.length≤c
 here:(aC=[]∧a=none∧c=0)∨∃ K rest,a=some ⟨K,0,none⟩∧a2.size≤K∧dZ E Z K (aC ++ rest)∧c≤(aC ++ rest).length
theorem cX.nil(a2 Z:U):cX E a2 Z none 0 []:=⟨by simp,by simp,Or.inl ⟨rfl,rfl,rfl⟩⟩
theorem cX.rd{a2 Z:U}{a:S}{c:Nat}{aC:List dF}(g:cX E a2 Z a c aC):cL E Z a c aC:=by
 rcases g.here with ⟨b,d,e⟩ | ⟨K,rest,b,_,aQ,_⟩
 ·subst b;exact cL.nil _ _ _
 ·subst b;exact aQ.rd g.len g.cap
theorem cX.aU{a2 Z aB:U}{a:S}{c:Nat}{aC:List dF}(g:cX E a2 Z a c aC)(R:bK Z aB):cX E a2 aB a c aC:=
 ⟨g.len,g.cap,g.here.imp id fun ⟨K,rest,b,d,aQ,e⟩=>⟨K,rest,b,d,aQ.aU R,e⟩⟩
theorem cX.from{a2 a1 Z:U}{a:S}{c:Nat}{aC:List dF}(g:cX E a1 Z a c aC)(R:a2.size≤a1.size):cX E a2 Z a c aC:=
 ⟨g.len,g.cap,g.here.imp id fun ⟨K,rest,b,d,aQ,e⟩=>⟨K,rest,b,Nat.le_trans R d,aQ,e⟩⟩
theorem dZ.iF{a2 Z:U}{K c:Nat}{aC rest:List dF}(aQ:dZ E Z K (aC ++ rest))(a3:a2.size≤K)(a:aC.length≤E.fW)(a1:aC.length≤c)(b:c≤(aC ++ rest).length):cX E a2 Z (some ⟨K,0,none⟩) c aC:=
 ⟨a,a1,Or.inr ⟨K,rest,rfl,a3,aQ,b⟩⟩
theorem dZ.nH{a2 Z:U}{K c:Nat}{aC:List dF}(aQ:dZ E Z K aC)(a3:a2.size≤K)(a:aC.length≤E.fW)(b:c=aC.length):cX E a2 Z (some ⟨K,0,none⟩) c aC:=
 dZ.iF (rest:=[]) (by simpa using aQ) a3 a (by omega) (by simp;omega)
theorem cX.take{a2 Z:U}{a:S}{c:Nat}{aC:List dF}(g:cX E a2 Z a c aC)(n:Nat):cX E a2 Z a c (aC.take n):=by
 have a1:=g.len;have f:=g.cap
 refine⟨by rw [List.length_take];omega,by rw [List.length_take];omega,?_⟩
 rcases g.here with ⟨b,d,e⟩ | ⟨K,rest,b,d,aQ,e⟩
 ·subst b;exact Or.inl ⟨by simp,d,e⟩
 ·refine Or.inr ⟨K,aC.drop n ++ rest,b,d,?_,?_⟩
  ·rw [← List.append_assoc,List.take_append_drop];exact aQ
  ·rw [← List.append_assoc,List.take_append_drop];exact e
structure nI(a:S)(Z aB:U):Prop where
 le:Z.size≤aB.size
 pre:∀ K,K < Z.size→gA K a→aB[K]?=Z[K]?
theorem nI.aU{a:S}{a2 Z aB:U}(b:bK a2 Z)(R:nI a Z aB)(c:∀ K,K < a2.size→gA K a):bK a2 aB:=
 ⟨Nat.le_trans b.le R.le,fun K a3=>(R.pre K (Nat.lt_of_lt_of_le a3 b.le) (c K a3)).trans (b.pre K a3)⟩
theorem cX.yQ{a2 Z:U}{a:S}{c:Nat}{aC:List dF}(g:cX E a2 Z a c aC):∀ K,K < a2.size→gA K a:=by
 intro K a3 p N
 rcases g.here with ⟨_,b,_⟩ | ⟨d,rest,e,b,_,_⟩
 ·rw [b] at N;cases N
 ·rw [e] at N;cases N;show d ≠ K;omega
theorem dZ.Ct{a:S}{Z aB:U}{K:Nat}{a9:List dF}(aQ:dZ E Z K a9)(R:nI a Z aB)(b:gA K a):dZ E aB K a9:=by
 obtain⟨N,g⟩:=aQ.at_
 exact⟨aQ.ok,N,by rw [R.pre K aQ.lt b];exact g⟩
theorem nI.refl(a:S)(Z:U):nI a Z Z:=⟨Nat.le_refl _,fun _ _ _=>rfl⟩
theorem Cu{a2 Z:U}{N:TypeId}{O:dW}{a bO:S}{l c bN cZ n:Nat}{aC aX:List dF}(g:cX E a2 Z a c aC)(v:a2.size≤Z.size)(r:cL E Z bO bN aX)(w:l=aC.length)(x:n=aX.length)(h:O.leaves.length=1)(bS:dF)(y:O.a9=[E.enc bS])(z:E.ok bS)
  (i:Nat) (a3:O.bytes=i) (p:1≤i) (q:aC.length+aX.length≤E.fW) (j:c < aC.length+aX.length→(aC.length+aX.length)*i≤140737488355328) {aH:S→Nat→Nat→U→Prop}
  (post:∀ b dI aB,cX E a2 aB b dI (aC ++ aX)→nI a Z aB→(aC.length+aX.length≤c→dI=c∧b=a)→(b=a∨∃ K,b=some ⟨K,0,none⟩∧Z.size≤K)→aH b (aC.length+aX.length) dI aB):g3 Z N O a l c (.slice bO n cZ) aH:=by
 subst w;subst x;subst a3
 have I:=g.cap
 refine⟨aX.length,aX.map E.enc,rfl,?_,?_,?_⟩
 ·rw [h];have:=r.yP (l:=aX.length) (bN:=cZ) aX.length (Nat.le_refl _);rw [List.take_length] at this;exact this
 ·intro d
  rcases g.here with ⟨k,m,e⟩ | ⟨K,rest,k,m,aQ,e⟩
  ·subst k;subst m;subst e
   have:aX=[]:=List.length_eq_zero_iff.mp (by simpa using d)
   subst this
   exact post none 0 Z (cX.nil _ _) (nI.refl _ _) (fun _=>⟨rfl,rfl⟩) (Or.inl rfl)
  ·subst k
   rw [h,Nat.mul_one]
   show pO Z ((⟨K,0,none⟩:Addr).add aC.length) 0 (List.map E.enc aX).length∧aH (some ⟨K,0,none⟩) (aC.length+aX.length) c (jB Z ((⟨K,0,none⟩:Addr).add aC.length) 0 (List.map E.enc aX))
   rw [cB]
   have J:aX.length≤rest.length:=by rw [List.length_append] at e;omega
   have f:=Cs (b8:=aX) (off:=aC.length) (O:=0) aQ r.ok (by rw [List.length_append];omega)
   refine⟨AI fun aD A=>?_,?_⟩
   ·rw [List.length_map] at A
    have N:(⟨K,aC.length,none⟩:Addr).add (0+aD)=⟨K,aC.length+aD,none⟩:=by
     rw [Nat.zero_add,← cB K aC.length,add_add,cB]
    rw [N]
    obtain⟨aE,B⟩:∃ aE,(aC ++ rest)[aC.length+aD]?=some aE:=⟨_,List.getElem?_eq_getElem (by rw [List.length_append];omega)⟩
    exact⟨⟨_,aQ.cell B⟩,aQ.frozen _⟩
   ·have C:(aC ++ rest).take (aC.length+0) ++ (aX ++ (aC ++ rest).drop (aC.length+0+aX.length))=(aC ++ aX) ++ rest.drop aX.length:=by
     rw [Nat.add_zero,List.take_left,List.drop_append,List.drop_of_length_le (by omega),List.nil_append,List.append_assoc]
     congr 3;omega
    rw [C] at f
    refine post _ _ _ ?_ ⟨f.2.le,fun s t D=>f.2.pre s t (fun N=>D _ rfl N.symm)⟩ (fun _=>⟨rfl,rfl⟩) (Or.inl rfl)
    refine⟨by rw [List.length_append];exact q,by rw [List.length_append];exact d,Or.inr ⟨K,rest.drop aX.length,rfl,m,f.1,?_⟩⟩
    rw [List.length_append] at e
    rw [List.length_append,List.length_append,List.length_drop];omega
 ·intro d
  have dC:c < aC.length+aX.length:=by omega
  have j:=j dC
  refine⟨growslice_fits dC j,p,?_,(aC.map E.enc),?_,?_⟩
  ·have:(aC.length+aX.length)*1≤(aC.length+aX.length)*O.bytes:=Nat.mul_le_mul_left _ p
   omega
  ·rw [h];have:=g.rd.yP (l:=aC.length) (bN:=c) aC.length (Nat.le_refl _);rw [List.take_length] at this;exact this
  ·intro u F
   refine post _ _ _ ?_ ⟨by simp,fun s t _=>by rw [Array.getElem?_push];rw [if_neg (by omega)]⟩ (fun G=>absurd G d) (Or.inr ⟨_,rfl,Nat.le_refl _⟩)
   have aQ:dZ E (Z.push (.cells (aC.map E.enc ++ (aX.map E.enc ++ iD O.a9 (u - (aC.length+aX.length)))).toArray N (0,0))) Z.size ((aC ++ aX) ++ List.replicate (u - (aC.length+aX.length)) bS):=by
    refine⟨fun L H=>?_,N,?_⟩
    ·rcases List.mem_append.mp H with a1 | a1
     ·rcases List.mem_append.mp a1 with o | o
      ·exact g.rd.ok L o
      ·exact r.ok L o
     ·rw [List.eq_of_mem_replicate a1];exact z
    ·rw [y,AH];simp
   exact aQ.iF v (by rw [List.length_append];exact q) (by rw [List.length_append];exact F) (by simp;omega)
theorem E9{a2 Z:U}{N:TypeId}{O:dW}{a bO:S}{l c bN cZ n:Nat}{aC aX:List dF}(g:cX E a2 Z a c aC)(b:a2.size≤Z.size)(r:cL E Z bO bN aX)(d:l=aC.length)(e:n=aX.length)(f:O.leaves.length=1)(bS:dF)(h:O.a9=[E.enc bS])(i:E.ok bS)
  (j:Nat) (a3:O.bytes=j) (k:1≤j) (m:aC.length+aX.length≤E.fW) (o:c < aC.length+aX.length→(aC.length+aX.length)*j≤140737488355328) {aH:S→Nat→Nat→U→Prop}
  (post:∀ p dI aB,cX E a2 aB p dI (aC ++ aX)→nI a Z aB→(aC.length+aX.length≤c→dI=c∧p=a)→aH p (aC.length+aX.length) dI aB):g3 Z N O a l c (.slice bO n cZ) aH:=
 Cu g b r d e f bS h i j a3 k m o fun p dI aB b c1 d _=>post p dI aB b c1 d
theorem Fa{a2 Z:U}{N:TypeId}{O:dW}{a bO:S}{l c bN cZ n:Nat}{aC aX:List dF}(g:cX E a2 Z a c aC)(b:a2.size≤Z.size)(r:cL E Z bO bN aX)(d:l=aC.length)(e:n=aX.length)(f:O.leaves.length=1)(bS:dF)(h:O.a9=[E.enc bS])(i:E.ok bS)
  (j:Nat) (a3:O.bytes=j) (k:1≤j) (m:aC.length+aX.length≤E.fW) (o:c < aC.length+aX.length→(aC.length+aX.length)*j≤140737488355328) {aH:S→Nat→Nat→U→Prop}
  (post:∀ p dI aB,cX E a2 aB p dI (aC ++ aX)→nI a Z aB→(aC.length+aX.length≤c→dI=c)→aH p (aC.length+aX.length) dI aB):g3 Z N O a l c (.slice bO n cZ) aH:=
 E9 g b r d e f bS h i j a3 k m o fun p dI aB b c1 d=>post p dI aB b c1 fun b=>(d b).1
theorem Fb{a2 Z:U}{N:TypeId}{O:dW}{a:S}{l c n m:Nat}{dR:List Value}{aC:List dF}(E:kS dF)(g:cX E a2 Z a c aC)(f:bK a2 Z)(aX:List dF)(i:dR=aX.map E.enc)(j:∀ aT ∈ aX,E.ok aT)(k:l=aC.length)(o:n=aX.length)(p:O.leaves.length=1)(bS:dF)(q:O.a9=[E.enc bS])(s:E.ok bS)
  (b:Nat) (a3:O.bytes=b) (t:1≤b) (u:aC.length+aX.length≤E.fW) (v:c < aC.length+aX.length→(aC.length+aX.length)*b≤140737488355328) {aH:S→Nat→Nat→U→Prop}
  (post:∀ d dI aB,cX E a2 aB d dI (aC ++ aX)→bK a2 aB→(aC.length+aX.length≤c→dI=c)→aH d (aC.length+aX.length) dI aB):dX Z N dR fun aI h=>g3 h N O a l c (.slice (some aI) n m) aH:=by
 refine rJ E aX i j fun h w e=>?_
 have r:=w.n7 (c:=aX.length) (by omega) (Nat.le_refl _)
 refine Fa (g.aU e) (Nat.le_trans f.le e.le) r k o p bS q s b a3 t u v fun d dI aB x y z=>post d dI aB x ?_ z
 exact y.aU (f.trans e) g.yQ
abbrev jK(jL:Type):=U→U→Value→jL→Prop
def h6{jL:Type}(c8:jK jL)(a2:U)(aH:Value→U→Prop)(r:jL):Prop:=∀ v aB,bK a2 aB→c8 a2 aB v r→aH v aB
def AJ:jK Bool:=fun _ _ v K=>v=.bool K
def JA{dF:Type}(E:kS dF):jK (List dF):=fun a2 Z v aC=>∃ a c,v=.slice a aC.length c∧cX E a2 Z a c aC
abbrev u1:jK (List Nat):=JA dL
def s2{dF jL:Type}(c8:jK dF)(T:jK jL):jK (dF × jL):=fun a2 Z v p=>∃ L aT,v=.tuple #[L,aT]∧c8 a2 Z L p.1∧T a2 Z aT p.2
def iU{dF jL a:Type}(c8:jK dF)(T:jK jL)(dO:jK a):jK (dF × jL × a):=fun a2 Z v p=>∃ L aT bS,v=.tuple #[L,aT,bS]∧c8 a2 Z L p.1∧T a2 Z aT p.2.1∧dO a2 Z bS p.2.2
def yR{dF jL a b:Type}(c8:jK dF)(T:jK jL)(dO:jK a)(V:jK b):jK (dF × jL × a × b):=fun a2 Z v p=>∃ L aT bS aE,v=.tuple #[L,aT,bS,aE]∧c8 a2 Z L p.1∧T a2 Z aT p.2.1∧dO a2 Z bS p.2.2.1∧V a2 Z aE p.2.2.2
def kF(a K:S):Prop:=∀ p aI,a=some p→K=some aI→p.block ≠ aI.block
def gB{dF jL:Type}(L:dF)(f:dF→jL):jL:=f L
section
variable {jL:Type} {c8:jK jL} {a2:U} {aH:Value→U→Prop}
theorem yS{K:Bool}{a7 bQ:jL}{a bA:Prop}(g:h6 c8 a2 aH (bif K then a7 else bQ))(b:K=true→h6 c8 a2 aH a7→a)(c:K=false→h6 c8 a2 aH bQ→bA):cond K a bA:=by
 cases K
 ·exact c rfl g
 ·exact b rfl g
theorem Fc{K:Bool}{a7 bQ:jL}{a bA:Prop}(g:h6 c8 a2 aH (bif !K then a7 else bQ))(b:K=false→h6 c8 a2 aH a7→a)(c:K=true→h6 c8 a2 aH bQ→bA):cond (!K) a bA:=by
 cases K
 ·exact b rfl g
 ·exact c rfl g
theorem yT{p:Prop}[Decidable p]{a7 bQ:jL}{a bA:Prop}(g:h6 c8 a2 aH (bif decide p then a7 else bQ))(b:p→h6 c8 a2 aH a7→a)(c:¬p→h6 c8 a2 aH bQ→bA):cond (decide p) a bA:=by
 by_cases Z:p
 ·simp only [Z,decide_true,cond_true] at g ⊢;exact b Z g
 ·simp only [Z,decide_false,cond_false] at g ⊢;exact c Z g
theorem Cv{L aT:Int}{a7 bQ:jL}{a bA:Prop}(g:h6 c8 a2 aH (bif L == aT then a7 else bQ))(b:L=aT→h6 c8 a2 aH a7→a)(c:L ≠ aT→h6 c8 a2 aH bQ→bA):cond (L == aT) a bA:=by
 by_cases Z:L=aT
 ·simp only [Z,beq_self_eq_true,cond_true] at g ⊢;exact b Z g
 ·simp only [beq_eq_false_iff_ne.mpr Z,cond_false] at g ⊢;exact c Z g
end
def In(R:IntKind)(L:Int):Prop:=R.min≤L∧L≤R.max
theorem Fe(R:IntKind)(L:Int):In R (R.wrap L):=by
 unfold In
 cases R <;> simp only [IntKind.wrap,IntKind.min,IntKind.max,IntKind.bits,IntKind.signed,Bool.true_and,Bool.false_and,Bool.false_eq_true,if_false,if_true,decide_eq_true_eq,ge_iff_le] <;> (try split) <;> omega
theorem sP{L:Int}:In .i64 L↔(-9223372036854775808≤L∧L < 9223372036854775808):=by
 unfold In;simp only [IntKind.min,IntKind.max,IntKind.bits,IntKind.signed,if_true]
 omega
theorem u2{L:Int}:In .u64 L↔(0≤L∧L < 18446744073709551616):=by
 unfold In;simp only [IntKind.min,IntKind.max,IntKind.bits,IntKind.signed,Bool.false_eq_true,if_false]
 omega
theorem cX.eS{a2 Z:U}{a:S}{c:Nat}{aC:List Nat}(g:cX dL a2 Z a c aC):cJ Z a c aC:=g.rd.yO
theorem Own.AK{Z:U}{K:Nat}{aC:List Nat}(aQ:Own Z K aC):dZ dL Z K aC:=⟨aQ.words,aQ.at_⟩
theorem Own.iF{a2 Z:U}{K c:Nat}{aC rest:List Nat}(aQ:Own Z K (aC ++ rest))(a3:a2.size≤K)(a1:aC.length≤c)(a:c≤(aC ++ rest).length):cX dL a2 Z (some ⟨K,0,none⟩) c aC:=
 aQ.AK.iF a3 (by have:=aQ.len;rw [List.length_append] at this;show _≤35184372088828;omega) a1 a
theorem Own.nH{a2 Z:U}{K c:Nat}{aC:List Nat}(aQ:Own Z K aC)(a3:a2.size≤K)(a:c=aC.length):cX dL a2 Z (some ⟨K,0,none⟩) c aC:=
 Own.iF (rest:=[]) (by simpa using aQ) a3 (by omega) (by simp;omega)
def split(aC:List Nat):List Nat:=aC.flatMap fun aE=>[aE % 4294967296,aE / 4294967296]
theorem JB(a7 R:Nat):(D.aN a7).length≤2*R↔(aN a7).length≤R:=by
 rw [D.gZ,gZ,show 32*(2*R)=64*R by omega]
theorem u3(a7:Nat):(D.aN a7).length≤16384↔(aN a7).length≤8192:=JB a7 8192
theorem Cw{a7 R:Nat}:(D.aN a7).length≤R↔a7 < 2 ^ (32*R):=D.gZ
def join:List Nat→List Nat
 | []=>[]
 | [a]=>[a]
 | a :: K :: l=>(a+K*4294967296) :: join l
theorem Ff:∀ (l:List Nat),val (join l)=D.val l
 | []=>rfl
 | [a]=>by simp [join,val,D.val]
 | a :: K :: l=>by
  simp only [join,val,D.val]
  rw [Ff l];omega
theorem Fg:∀ {l:List Nat},D.Words l→Words (join l)
 | [],_=>by intro L b;cases b
 | [a],Z=>by intro L b;have:=Z a (by simp);simp [join] at b;omega
 | a :: K :: l,Z=>by
  intro L b
  have a1:=Z a (by simp);have d:=Z K (by simp)
  rcases List.mem_cons.mp b with N | N
  ·subst N;omega
  ·exact Fg (fun aT c=>Z aT (by simp [c])) L N
theorem Fh:∀ {l:List Nat},eA l=l→eA (join l)=join l
 | [],_=>rfl
 | [a],Z=>by
  simp only [join]
  exact Z
 | a :: K :: l,Z=>by
  have a1:=AB Z
  have b:=AB a1
  have bZ:=Fh b
  simp only [join,eA,bZ]
  rw [if_neg]
  rintro⟨f,d⟩
  have e:l=[]:=by
   cases l with
   | nil=>rfl
   | cons c l=>cases l <;> simp [join] at d
  subst e
  have a3:K=0:=by omega
  subst a3
  simp [eA] at a1
theorem JC(a7:Nat):join (D.aN a7)=aN a7:=by
 have a1:=Ff (D.aN a7)
 rw [D.e9] at a1
 have a:=mU (Fg (D.qP a7))
 rw [Fh (D.rH a7),a1] at a
 exact a.symm
theorem Cx:∀ (l:List Nat),(join l).length=(l.length+1) / 2
 | []=>rfl
 | [a]=>by simp [join]
 | a :: K :: l=>by simp only [join,List.length_cons,Cx l];omega
theorem Fi:∀ {l:List Nat} {a K:Nat},l.length % 2=0→join (l ++ [a,K])=join l ++ [a+K*4294967296]
 | [],_,_,_=>rfl
 | [_],_,_,Z=>by simp at Z
 | L :: aT :: l,a,K,Z=>by
  simp only [List.cons_append,join]
  rw [Fi (by simp at Z;omega)]
theorem Fj:∀ {l:List Nat} {a:Nat},l.length % 2=0→join (l ++ [a])=join l ++ [a]
 | [],_,_=>rfl
 | [_],_,Z=>by simp at Z
 | L :: aT :: l,a,Z=>by
  simp only [List.cons_append,join]
  rw [Fj (by simp at Z;omega)]
theorem D.Fk{a9:List Nat}{O t dI aG a b c:Nat}(d:a9.length=O)(e:b=aG+4294967296*c)(Z:aG+a=t+4294967296*dI):D.val (a9 ++ [t])+(c+dI)*2 ^ (32*(O+1))=D.val a9+(b+a)*2 ^ (32*O):=by
 rw [D.h5,d,D.kR]
 have N:b+a=t+4294967296*(c+dI):=by omega
 rw [N]
 generalize 2 ^ (32*O)=P
 simp only [D.val,Nat.mul_zero,Nat.add_zero]
 rw [Nat.add_mul t,Nat.mul_left_comm,Nat.mul_comm P t,Nat.mul_assoc 4294967296]
 omega
def n8(R:IntKind):jK Int:=fun _ _ v n=>v=.int R n∧In R n
def gX:jK Nat:=fun a2 Z v a7=>∃ a c,v=.slice a (D.aN a7).length c∧cX cA a2 Z a c (D.aN a7)
def g5:jK (Bool × Nat):=fun a2 Z v p=>∃ a c,v=.agg #[.bool p.1,.slice a (D.aN p.2).length c]∧cX cA a2 Z a c (D.aN p.2)
theorem n9{bA:Nat}(c0:0 < bA){aC:List Nat}(a:∀ L ∈ aC,L < bA)(O:Nat):aC.getD O 0 < bA:=by
 by_cases a8:O < aC.length
 ·have N:aC.getD O 0=aC[O]:=by simp [List.getD,a8]
  rw [N];exact a _ (List.getElem_mem a8)
 ·have N:aC.getD O 0=0:=by simp [List.getD,Nat.le_of_not_lt a8]
  rw [N];exact c0
theorem cL.lY{Z:U}{a:S}{c:Nat}{aC:List Nat}(r:cL cA Z a c aC)(aD:Nat):aC.getD aD 0 < 4294967296:=n9 (by decide) r.ok aD
theorem cL.oA{Z:U}{a:S}{c:Nat}{aC:List Nat}(r:cL cA Z a c aC):aC.length≤70368744177656:=r.len
instance (R:IntKind) (L:Int):Decidable (In R L):=inferInstanceAs (Decidable (_∧_))
abbrev fB:jK (List Nat × Int):=s2 u1 (n8 .i64)
abbrev w0:jK (List Nat):=u1
section
variable {a2 Z:U} {v:Value} {p:List Nat × Int} {aC:List Nat}
theorem fB.iM{aH:S→Nat→Nat→Int→Prop}(a:fB a2 Z v p)(g:∀ a c,cX dL a2 Z a c p.1→In .i64 p.2→aH a p.1.length c p.2):
  cW v fun aT=>cV aT fun b eK=>aR b fun a l c=>cV eK fun d e=>a0 .i64 d fun L=>b9 e (aH a l c L):=by
 obtain⟨L,aT,N,⟨a,c,f,r⟩,h,O⟩:=a
 subst N;subst f;subst h;exact g a c r O
theorem fB.elim{aH:S→Nat→Nat→Int→Prop}(a:fB a2 Z v p)(g:∀ a c,cJ Z a c p.1→aH a p.1.length c p.2):
  cW v fun aT=>cV aT fun b eK=>aR b fun a l c=>cV eK fun b d=>a0 .i64 b fun L=>b9 d (aH a l c L):=
 a.iM fun a c r _=>g a c r.eS
theorem fB.back{a:S}{c:Nat}(r:cX dL a2 Z a c p.1)(O:In .i64 p.2):fB a2 Z (.tuple #[.slice a p.1.length c,.int .i64 p.2]) p:=
 ⟨_,_,rfl,⟨a,c,rfl,r⟩,rfl,O⟩
theorem fB.mk{a:S}{c l:Nat}{L:Int}(b:l=p.1.length)(d:L=p.2)(r:cX dL a2 Z a c p.1)(O:In .i64 p.2):fB a2 Z (.tuple #[.slice a l c,.int .i64 L]) p:=by
 subst b;subst d;exact fB.back r O
theorem fB.none{L:Int}(O:In .i64 L:=by decide):fB a2 Z (.tuple #[.slice Option.none 0 0,.int .i64 L]) ([],L):=⟨_,_,rfl,⟨Option.none,0,rfl,cX.nil _ _⟩,rfl,O⟩
theorem w0.iM{aH:S→Nat→Nat→Prop}(a:w0 a2 Z v aC)(g:∀ a c,cX dL a2 Z a c aC→aH a aC.length c):aR v aH:=by
 obtain⟨a,c,N,r⟩:=a
 subst N;exact g a c r
end
theorem fN.iF{a2 Z:U}{K:Nat}{aC:List Nat}(aQ:fN Z K aC)(a3:a2.size≤K):cX dL a2 Z (some ⟨K,0,none⟩) aC.length aC:=by
 obtain⟨rest,aQ⟩:=aQ
 exact aQ.iF a3 (Nat.le_refl _) (by simp)
theorem cX.trim{a2 Z:U}{a:S}{c:Nat}{aC:List Nat}{E:kS Nat}(g:cX E a2 Z a c aC):cX E a2 Z a c (eA aC):=by
 have N:aC.take (eA aC).length=eA aC:=by
  clear g
  induction aC with
  | nil=>rfl
  | cons L aC bZ=>
   simp only [eA]
   split
   ·rfl
   ·simp [bZ]
 have:=g.take (eA aC).length
 rw [N] at this;exact this
theorem gX.elim{a2 Z:U}{v:Value}{a7:Nat}{aH:S→Nat→Nat→Prop}(aG:gX a2 Z v a7)(g:∀ a c,cX cA a2 Z a c (D.aN a7)→aH a (D.aN a7).length c):aR v aH:=by
 obtain⟨a,c,N,r⟩:=aG
 subst N;exact g a c r
structure eM(Z:U)(K:Nat)(b8:List Value):Prop where
 at_:∃ N,Z[K]?=some (.cells b8.toArray N (0,0))
theorem eM.lt{Z:U}{K:Nat}{b8:List Value}(aQ:eM Z K b8):K < Z.size:=by
 obtain⟨N,g⟩:=aQ.at_;exact(Array.getElem?_eq_some_iff.mp g).1
theorem eM.aU{Z aB:U}{K:Nat}{b8:List Value}(aQ:eM Z K b8)(R:bK Z aB):eM aB K b8:=by
 obtain⟨N,g⟩:=aQ.at_;exact⟨N,by rw [R.pre K aQ.lt];exact g⟩
theorem eM.cR{aI:Nat}{Z aB:U}{K:Nat}{b8:List Value}(aQ:eM Z K b8)(a3:K ≠ aI)(R:cG aI Z aB):eM aB K b8:=by
 obtain⟨N,g⟩:=aQ.at_;exact⟨N,by rw [R.pre K aQ.lt a3];exact g⟩
theorem fJ{Z:U}{N:TypeId}{dR:List Value}{aH:Addr→U→Prop}(g:∀ aB,eM aB Z.size dR→bK Z aB→aH ⟨Z.size,0,none⟩ aB):dX Z N dR aH:=
 g _ ⟨N,by simp⟩ ⟨by simp,fun K a3=>by rw [Array.getElem?_push];rw [if_neg (by omega)]⟩
theorem nJ{Z:U}{K:Nat}{b8:List Value}(aQ:eM Z K b8){R:Nat}{v:Value}(a:b8[R]?=some v){aH:Value→Prop}(g:aH v):fZ Z ((⟨K,0,none⟩:Addr).add R) aH:=by
 obtain⟨N,at_⟩:=aQ.at_
 unfold fZ
 have:hB Z ((⟨K,0,none⟩:Addr).add R)=some v:=by
  rw [cB];unfold hB
  simp only [at_,Option.isSome_none,Bool.false_eq_true,if_false]
  simpa using a
 rw [this];exact g
theorem pR{Z:U}{K:Nat}{b8:List Value}(aQ:eM Z K b8){v:Value}(a:b8[0]?=some v){aH:Value→Prop}(g:aH v):fZ Z (⟨K,0,none⟩:Addr) aH:=by
 have:=nJ (R:=0) aQ a g
 rw [cB] at this;exact this
theorem j5{Z:U}{K:Nat}{b8:List Value}(aQ:eM Z K b8){R:Nat}{v:Value}(a:R < b8.length){aH:U→Prop}(g:∀ aB,eM aB K (b8.set R v)→cG K Z aB→aH aB):cM Z ((⟨K,0,none⟩:Addr).add R) v aH:=by
 obtain⟨N,at_⟩:=aQ.at_
 rw [cB]
 refine⟨⟨⟨b8[R],?_⟩,?_⟩,g _ ⟨N,?_⟩ (cG.set _ _ _ _)⟩
 ·unfold hB
  simp only [at_,Option.isSome_none,Bool.false_eq_true,if_false]
  simp [a]
 ·unfold mS;simp [at_]
 ·unfold gO
  rw [Array.getElem?_modify]
  simp only [if_true,at_,Option.map_some]
  simp
theorem Cy{Z:U}{K:Nat}{b8:List Value}(aQ:eM Z K b8){v:Value}(a:0 < b8.length){aH:U→Prop}(g:∀ aB,eM aB K (b8.set 0 v)→cG K Z aB→aH aB):cM Z (⟨K,0,none⟩:Addr) v aH:=by
 have:=j5 (R:=0) aQ a g
 rw [cB] at this;exact this
theorem eM.JD{Z:U}{K:Nat}{b8:List Value}(aQ:eM Z K b8)(R:Nat):((⟨K,0,none⟩:Addr).add R).block < Z.size:=by
 rw [oY];exact aQ.lt
theorem bK.gI{a K:U}{n:Nat}(R:bK a K)(b:n≤a.size):e4 n a K:=fun O a8=>R.pre O (Nat.lt_of_lt_of_le a8 b)
theorem cX.cR{dF:Type}{E:kS dF}{aI:Nat}{a1 Z aB:U}{a:S}{c:Nat}{aC:List dF}(g:cX E a1 Z a c aC)(b:aI < a1.size)(R:cG aI Z aB):cX E a1 aB a c aC:=
 ⟨g.len,g.cap,g.here.imp id fun ⟨K,rest,b,d,aQ,e⟩=>⟨K,rest,b,d,aQ.cR (by omega) R,e⟩⟩
def gC(bW a8:Nat)(Z:U)(aG:fA)(aC:List Nat):Prop:=
 aG.2.1=aC.length∧aC.length≤aG.2.2∧aC.length≤35184372088828∧((aC=[]∧aG.1=none∧aG.2.2=0)∨∃ K rest,aG.1=some ⟨K,0,none⟩∧bW≤K∧K < a8∧dZ dL Z K (aC ++ rest)∧aG.2.2≤(aC ++ rest).length)
theorem gC.nil(bW a8:Nat)(Z:U):gC bW a8 Z (none,0,0) []:=⟨rfl,by simp,by simp,Or.inl ⟨rfl,rfl,rfl⟩⟩
theorem gC.o2{a2 Z:U}{a:S}{c l:Nat}{aC:List Nat}(g:cX dL a2 Z a c aC)(b:l=aC.length){bW a8:Nat}(a1:bW≤a2.size)(d:Z.size≤a8):gC bW a8 Z (a,l,c) aC:=by
 subst b
 refine⟨rfl,g.cap,g.len,g.here.imp id ?_⟩
 rintro⟨K,rest,e,f,aQ,h⟩
 exact⟨K,rest,e,Nat.le_trans a1 f,Nat.lt_of_lt_of_le aQ.lt d,aQ,h⟩
theorem gC.rd{bW a8:Nat}{Z:U}{aG:fA}{aC:List Nat}(aQ:gC bW a8 Z aG aC):cJ Z aG.1 aG.2.2 aC:=by
 obtain⟨a1,b,c,d⟩:=aQ
 rcases d with ⟨a,e,f⟩ | ⟨K,rest,a,_,_,aQ,_⟩
 ·subst a;exact cJ.nil _ _ _
 ·rw [a];exact(aQ.rd c b).yO
theorem gC.aU{bW a8:Nat}{Z aB:U}{aG:fA}{aC:List Nat}(aQ:gC bW a8 Z aG aC)(R:bK Z aB):gC bW a8 aB aG aC:=
 ⟨aQ.1,aQ.2.1,aQ.2.2.1,aQ.2.2.2.imp id fun ⟨K,rest,a,b,c,aE,d⟩=>⟨K,rest,a,b,c,aE.aU R,d⟩⟩
theorem gC.wide{bW a8 a b:Nat}{Z:U}{aG:fA}{aC:List Nat}(aQ:gC bW a8 Z aG aC)(a1:a≤bW)(c:a8≤b):gC a b Z aG aC:=
 ⟨aQ.1,aQ.2.1,aQ.2.2.1,aQ.2.2.2.imp id fun ⟨K,rest,a,b,d,aE,e⟩=>⟨K,rest,a,Nat.le_trans a1 b,Nat.lt_of_lt_of_le d c,aE,e⟩⟩
theorem gC.block{bW a8:Nat}{Z:U}{aG:fA}{aC:List Nat}(aQ:gC bW a8 Z aG aC):∀ p,aG.1=some p→bW≤p.block∧p.block < a8:=by
 intro p a
 rcases aQ.2.2.2 with ⟨_,N,_⟩ | ⟨K,rest,b,c,d,_,_⟩
 ·rw [N] at a;cases a
 ·rw [b] at a;cases a;exact⟨c,d⟩
structure h7(bW a8:Nat)(Z:U)(bH:List fA)(kT:List (List Nat)):Prop where
 len:bH.length=kT.length
 at_:∀ (O:Nat) aG aC,bH[O]?=some aG→kT[O]?=some aC→gC bW a8 Z aG aC
 two:∀ (O aD:Nat) (aG t:fA) (p aI:Addr),bH[O]?=some aG→bH[aD]?=some t→aG.1=some p→t.1=some aI→p.block=aI.block→O=aD
theorem h7.aU{bW a8:Nat}{Z aB:U}{bH:List fA}{kT:List (List Nat)}(f:h7 bW a8 Z bH kT)(R:bK Z aB):h7 bW a8 aB bH kT:=⟨f.len,fun O aG aC a b=>(f.at_ O aG aC a b).aU R,f.two⟩
theorem h7.block{bW a8:Nat}{Z:U}{bH:List fA}{kT:List (List Nat)}(f:h7 bW a8 Z bH kT):∀ aG ∈ bH,∀ p,aG.1=some p→bW≤p.block∧p.block < a8:=by
 intro aG b p c
 obtain⟨O,a⟩:=List.getElem?_of_mem b
 have d:=(List.getElem?_eq_some_iff.mp a).1
 have e:kT[O]?=some (kT[O]'(by rw [← f.len];exact d)):=List.getElem?_eq_getElem _
 exact(f.at_ O aG _ a e).block p c
theorem h7.wide{bW a8 a b:Nat}{Z:U}{bH:List fA}{kT:List (List Nat)}(f:h7 bW a8 Z bH kT)(a1:a≤bW)(c:a8≤b):h7 a b Z bH kT:=⟨f.len,fun O aG aC a b=>(f.at_ O aG aC a b).wide a1 c,f.two⟩
theorem h7.one{bW a8:Nat}{Z:U}{aG:fA}{aC:List Nat}(aQ:gC bW a8 Z aG aC):h7 bW a8 Z [aG] [aC]:=by
 refine⟨rfl,fun O t aX a b=>?_,fun O aD d t p aI a b _ _ _=>?_⟩
 ·cases O with
  | zero=>simp at a b;subst a;subst b;exact aQ
  | succ O=>simp at a
 ·have a1:=(List.getElem?_eq_some_iff.mp a).1
  have c:=(List.getElem?_eq_some_iff.mp b).1
  simp at a1 c;omega
theorem h7.pair{bW a8 R:Nat}{Z:U}{aG t:fA}{aC aX:List Nat}(a1:bW≤R)(e:R≤a8)(aQ:(gC bW R Z aG aC∧gC R a8 Z t aX)∨(gC R a8 Z aG aC∧gC bW R Z t aX)):h7 bW a8 Z [aG,t] [aC,aX]:=by
 have ne:∀ p aI,aG.1=some p→t.1=some aI→p.block ≠ aI.block:=fun p aI b c=>by
  rcases aQ with ⟨a,K⟩ | ⟨a,K⟩
  ·have:=a.block p b;have:=K.block aI c;omega
  ·have:=a.block p b;have:=K.block aI c;omega
 have os:gC bW a8 Z aG aC:=by rcases aQ with ⟨a,K⟩ | ⟨a,K⟩ <;> exact a.wide (by omega) (by omega)
 have d:gC bW a8 Z t aX:=by rcases aQ with ⟨a,K⟩ | ⟨a,K⟩ <;> exact K.wide (by omega) (by omega)
 refine⟨rfl,fun O aE f b c=>?_,fun O aD a K p aI b c f1 f2 N=>?_⟩
 ·match O with
  | 0=>simp at b c;subst b;subst c;exact os
  | 1=>simp at b c;subst b;subst c;exact d
  | O+2=>simp at b
 ·match O,aD with
  | 0,0 | 1,1=>rfl
  | 0,1=>simp at b c;subst b;subst c;exact absurd N (ne _ _ f1 f2)
  | 1,0=>simp at b c;subst b;subst c;exact absurd N.symm (ne _ _ f2 f1)
  | O+2,_=>simp at b
  | _,aD+2=>simp at c
theorem gC.iF{bW a8:Nat}{a2 Z:U}{aG:fA}{aC:List Nat}(aQ:gC bW a8 Z aG aC)(a:a2.size≤bW):cX dL a2 Z aG.1 aG.2.2 aC:=
 ⟨aQ.2.2.1,aQ.2.1,aQ.2.2.2.imp id fun ⟨K,rest,b,c,_,aE,d⟩=>⟨K,rest,b,Nat.le_trans a c,aE,d⟩⟩
theorem h7.fst{bW a8:Nat}{Z:U}{aG t:fA}{aC aX:List Nat}(f:h7 bW a8 Z [aG,t] [aC,aX]):cJ Z aG.1 aG.2.2 aC:=(f.at_ 0 aG aC rfl rfl).rd
theorem h7.snd{bW a8:Nat}{Z:U}{aG t:fA}{aC aX:List Nat}(f:h7 bW a8 Z [aG,t] [aC,aX]):cJ Z t.1 t.2.2 aX:=(f.at_ 1 t aX rfl rfl).rd
theorem qT{Z:U}{K:Nat}{b8:List Value}(aQ:eM Z K b8){R:Nat}{t:IntKind}{L:Int}(a:b8[R]?=some (.int t L)){aH:Int→Prop}(g:aH L):fZ Z ((⟨K,0,none⟩:Addr).add R) fun v=>a0 t v aH:=nJ aQ a (b0 rfl g)
theorem mE{Z:U}{K:Nat}{b8:List Value}(aQ:eM Z K b8){R:Nat}{a:S}{l c:Nat}(b:b8[R]?=some (.slice a l c)){aH:S→Nat→Nat→Prop}(g:aH a l c):fZ Z ((⟨K,0,none⟩:Addr).add R) fun v=>aR v aH:=nJ aQ b (bL rfl g)
theorem u4{Z:U}{K:Nat}{b8:List Value}(aQ:eM Z K b8)(h:b8.length=4){a b c d:Value}{aH:U→Prop}(g:∀ aB,eM aB K [a,b,c,d]→cG K Z aB→aH aB):
  cM Z ((⟨K,0,none⟩:Addr).add 0) a fun a1=>cM a1 ((⟨K,0,none⟩:Addr).add 1) b fun e=>cM e ((⟨K,0,none⟩:Addr).add 2) c fun f=>cM f ((⟨K,0,none⟩:Addr).add 3) d aH:=by
 match b8,h with
 | [M,aM,bO,c9],_=>
  refine j5 aQ (Nat.le_of_ble_eq_true rfl) fun a1 i cC=>?_
  refine j5 i (Nat.le_of_ble_eq_true rfl) fun e j k=>?_
  refine j5 j (Nat.le_of_ble_eq_true rfl) fun f l m=>?_
  refine j5 l (Nat.le_of_ble_eq_true rfl) fun n o p=>?_
  exact g n o (cC.trans (k.trans (m.trans p)))
theorem Cz{Z:U}{K:Nat}{b8:List Value}(aQ:eM Z K b8)(j:b8.length=5){a b c d e:Value}{aH:U→Prop}(g:∀ aB,eM aB K [a,b,c,d,e]→cG K Z aB→aH aB):
  cM Z ((⟨K,0,none⟩:Addr).add 0) a fun a1=>cM a1 ((⟨K,0,none⟩:Addr).add 1) b fun f=>cM f ((⟨K,0,none⟩:Addr).add 2) c fun h=>cM h ((⟨K,0,none⟩:Addr).add 3) d fun i=>cM i ((⟨K,0,none⟩:Addr).add 4) e aH:=by
 match b8,j with
 | [M,aM,bO,c9,eI],_=>
  refine j5 aQ (Nat.le_of_ble_eq_true rfl) fun a1 k cC=>?_
  refine j5 k (Nat.le_of_ble_eq_true rfl) fun f l m=>?_
  refine j5 l (Nat.le_of_ble_eq_true rfl) fun h n o=>?_
  refine j5 n (Nat.le_of_ble_eq_true rfl) fun i p q=>?_
  refine j5 p (Nat.le_of_ble_eq_true rfl) fun r s t=>?_
  exact g r s (cC.trans (m.trans (o.trans (q.trans t))))
def w1:Value→Bool
 | .int .u64 _ | .int .u32 _ | .int .u8 _=>true
 | _=>false
structure o3(Z aB:U):Prop where
 le:Z.size≤aB.size
 cell:∀ aI v,w1 v=true→hB Z aI=some v→hB aB aI=some v
 w2:∀ (K:Nat) (dR:Array Value) (N:TypeId) (f:Nat × Nat),Z[K]?=some (Obj.cells dR N f)→(∀ v ∈ dR,w1 v=true)→aB[K]?=Z[K]?
theorem o3.trans{a K c:U}(L:o3 a K)(aT:o3 K c):o3 a c:=
 ⟨Nat.le_trans L.le aT.le,fun _ _ aE N=>aT.cell _ _ aE (L.cell _ _ aE N),fun R _ _ _ b d=>by
  have a1:=L.w2 R _ _ _ b d
  rw [← a1,aT.w2 R _ _ _ (a1.trans b) d]⟩
theorem bK.c2{Z aB:U}(R:bK Z aB):o3 Z aB:=
 ⟨R.le,fun _ _ _ N=>R.cell N,fun K _ _ _ a3 _=>R.pre K (Array.getElem?_eq_some_iff.mp a3).1⟩
class w3 (E:kS Nat):Prop where
 word:∀ L,w1 (E.enc L)=true
instance:w3 dL:=⟨fun _=>rfl⟩
instance:w3 cA:=⟨fun _=>rfl⟩
instance:w3 E7:=⟨fun _=>rfl⟩
theorem cL.c2{E:kS Nat}[bR:w3 E]{Z aB:U}{a:S}{c:Nat}{aC:List Nat}(r:cL E Z a c aC)(m:o3 Z aB):cL E aB a c aC:=
 ⟨r.len,r.cap,r.ok,fun O L a8=>let ⟨p,N,g⟩:=r.at_ O L a8;⟨p,N,m.cell _ _ (bR.word L) g⟩⟩
theorem dZ.c2{E:kS Nat}[bR:w3 E]{Z aB:U}{K:Nat}{a9:List Nat}(aQ:dZ E Z K a9)(m:o3 Z aB):dZ E aB K a9:=by
 obtain⟨N,g⟩:=aQ.at_
 refine⟨aQ.ok,N,?_⟩
 rw [m.w2 K _ _ _ g (fun v b5=>?_)]
 ·exact g
 ·simp only [List.mem_toArray,List.mem_map] at b5
  obtain⟨L,_,N⟩:=b5
  subst N;exact bR.word L
theorem cX.c2{E:kS Nat}[w3 E]{a2 Z aB:U}{a:S}{c:Nat}{aC:List Nat}(g:cX E a2 Z a c aC)(m:o3 Z aB):cX E a2 aB a c aC:=
 ⟨g.len,g.cap,g.here.imp id fun ⟨K,rest,b,d,aQ,e⟩=>⟨K,rest,b,d,aQ.c2 m,e⟩⟩
theorem JE{Z:U}{K:Nat}{b8:List Value}(aQ:eM Z K b8){R:Nat}{v:Value}(a:(b8[R]?.map w1)=some false){aH:U→Prop}(g:∀ aB,eM aB K (b8.set R v)→cG K Z aB→o3 Z aB→aH aB):cM Z ((⟨K,0,none⟩:Addr).add R) v aH:=by
 have d:R < b8.length:=by
  rcases Nat.lt_or_ge R b8.length with a1 | a1
  ·exact a1
  ·rw [List.getElem?_eq_none a1] at a;cases a
 rw [List.getElem?_eq_getElem d] at a
 have a:w1 b8[R]=false:=by simpa using a
 obtain⟨N,at_⟩:=aQ.at_
 rw [cB]
 have c:cG K Z (gO Z ⟨K,R,none⟩ v):=cG.set _ _ _ _
 have e:(gO Z ⟨K,R,none⟩ v)[K]?=some (.cells (b8.set R v).toArray N (0,0)):=by
  unfold gO
  rw [Array.getElem?_modify]
  simp only [if_true,at_,Option.map_some]
  simp
 refine⟨⟨⟨b8[R],?_⟩,?_⟩,g _ ⟨N,e⟩ c ⟨c.le,?_,?_⟩⟩
 ·unfold hB
  simp only [at_,Option.isSome_none,Bool.false_eq_true,if_false]
  simp [d]
 ·unfold mS;simp [at_]
 ·intro aI cY aE eq
  by_cases b:aI.block=K
  ·have k:=eq
   unfold hB at eq ⊢
   rw [b] at eq ⊢
   rw [at_] at eq;rw [e]
   simp only at eq ⊢
   split at eq
   ·cases eq
   ·rename_i bH
    rw [if_neg bH]
    simp only [List.getElem?_toArray] at eq ⊢
    by_cases h:aI.off=R
    ·rw [h,List.getElem?_eq_getElem d] at eq
     cases eq;rw [a] at aE;cases aE
    ·rw [List.getElem?_set_ne (fun N=>h N.symm)];exact eq
  ·rw [qM (c.pre _ (uX eq) b)];exact eq
 ·intro i dR l f a3 j
  by_cases b:i=K
  ·exfalso
   rw [b,at_] at a3
   cases a3
   have:=j b8[R] (by simp)
   rw [a] at this;cases this
  ·exact c.pre _ (Array.getElem?_eq_some_iff.mp a3).1 b
theorem dJ{Z:U}{K R:Nat}{aI:Addr}{b8:List Value}{v:Value}(aQ:eM Z K b8)(N:aI=⟨K,R,none⟩)(a:b8[R]?=some v){aH:Value→Prop}(g:aH v):fZ Z aI aH:=by
 subst N
 have:=nJ (R:=R) aQ a g
 rw [cB] at this;exact this
theorem e8{Z:U}{K R:Nat}{aI:Addr}{b8:List Value}{v:Value}(aQ:eM Z K b8)(N:aI=⟨K,R,none⟩)(a:(b8[R]?.map w1)=some false){aH:U→Prop}(g:∀ aB,eM aB K (b8.set R v)→cG K Z aB→o3 Z aB→aH aB):cM Z aI v aH:=by
 subst N
 have:=JE (R:=R) (v:=v) aQ a g
 rw [cB] at this;exact this
theorem iV{aI:Addr}{K R n:Nat}(N:aI=⟨K,R,none⟩)(Z:K < n):aI.block < n:=by subst N;exact Z
theorem o3.lt{Z aB:U}{K:Nat}(m:o3 Z aB)(l:K < Z.size):K < aB.size:=Nat.lt_of_lt_of_le l m.le
theorem gR{dF jL:Type}{c8:jK jL}{a2:U}{Y:Value→U→Prop}{L p:dF}{f:dF→jL}(N:p=L)(g:h6 c8 a2 Y (gB L f)):h6 c8 a2 Y (f p):=by subst N;exact g
end Go.Gv
