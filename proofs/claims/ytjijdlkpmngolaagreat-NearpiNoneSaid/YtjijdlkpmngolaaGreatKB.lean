import Derived.Carry
import Derived.ChangeSlices
import Derived.WalkKit
import Derived.ProofKit
import Derived.OpenShut
import Derived.ShutString
import Derived.ChangeOld
import Derived.Below
import Derived.SizedLaws
import Derived.ChangeArms
import Derived.Laws.Append
import Derived.Test.YtjijdlkpmngolaaGreatKM
namespace Go.Gv
open Go.ChangeShapes Go.WideShapes Go.ChangeAt Go.RowKit
theorem Ah{aA cA:World}(aI:eJ aA cA)(S:bC aA.heap cA.heap):Below aA.heap.size aA cA:=⟨aI.os,aI.tape,aI.output,S.le,fun R a5=>S.pre R a5⟩
theorem wf_i64{n:Int}(Z:(Lit.int .i64 n).wf=true):-9223372036854775808≤n∧n < 9223372036854775808:=by
 simp only [Lit.wf,Bool.and_eq_true,decide_eq_true_eq,IntKind.min,IntKind.max,IntKind.signed,IntKind.bits,if_true] at Z
 have a:(2:Int) ^ (64 - 1)=9223372036854775808:=by decide
 rw [a] at Z;omega
theorem wf_u64{n:Int}(Z:(Lit.int .u64 n).wf=true):0≤n∧n < 18446744073709551616:=by
 simp only [Lit.wf,Bool.and_eq_true,decide_eq_true_eq,IntKind.min,IntKind.max,IntKind.signed,IntKind.bits,Bool.false_eq_true,if_false] at Z
 have a:(2:Int) ^ 64=18446744073709551616:=by decide
 rw [a] at Z;omega
open Go.ChangeShapes Go.WideShapes Go.ChangeAt Go.RowKit
abbrev Hf(c7:Type):=U→List Value→c7→Prop
structure Np{c7:Type}(dW:Hf c7)(h4 m:Nat)(Z:U)(a:M)(c:Nat)(l:List c7):Prop where
 len:l.length≤m
 cap:l.length≤c
 at_:∀ R N,l[R]?=some N→∃ p bV,a=some p∧bV.length=h4∧n5 Z (p.add (R*h4)) 0 bV∧dW Z bV N
section
variable {H:Type} {enc:TypeId × Value→H} {P:Program} {bK:World}
end
theorem cC{p:Prop}[Decidable p]{a bA:Prop}(b:p→a)(c:¬p→bA):cond (decide p) a bA:=by
 by_cases Z:p
 ·simp only [Z,decide_true,cond_true];exact b Z
 ·simp only [Z,decide_false,cond_false];exact c Z
theorem fN{N aQ:Int}{a bA:Prop}(b:N=aQ→a)(c:N ≠ aQ→bA):cond (N == aQ) a bA:=by
 by_cases Z:N=aQ
 ·simp only [Z,beq_self_eq_true,cond_true];exact b Z
 ·simp only [beq_eq_false_iff_ne.mpr Z,cond_false];exact c Z
theorem jB{N aQ:Int}{a bA:Prop}(b:N ≠ aQ→a)(c:N=aQ→bA):cond (N != aQ) a bA:=by
 by_cases Z:N=aQ
 ·simp only [Z,bne_self_eq_false,cond_false];exact c Z
 ·simp only [bne_iff_ne.mpr Z,cond_true];exact b Z
theorem jP{K:Bool}{a bA:Prop}(b:K=false→a)(c:K=true→bA):cond (!K) a bA:=by
 cases K
 ·exact b rfl
 ·exact c rfl
theorem cN{N:Int}(aQ:Int)(O:N=aQ)(aY:-9223372036854775808≤aQ)(a:aQ < 9223372036854775808){aF:Int→Prop}(g:aF aQ):a6 (IntKind.i64.wrap N) aF:=by
 subst O;refine⟨?_⟩;show aF _;rw [wrap_i64 aY a];exact g
def rU(Z:U)(aE:Nat):Option Nat:=match Z[aE]? with | some (.cells c _ _)=>some c.size | _=>none
structure b2(aE:Nat)(Z aB:U):Prop where
 le:Z.size≤aB.size
 pre:∀ K,K < Z.size→K ≠ aE→aB[K]?=Z[K]?
 len:∀ m,rU Z aE=some m→rU aB aE=some m
theorem b2.refl(aE:Nat)(Z:U):b2 aE Z Z:=⟨Nat.le_refl _,fun _ _ _=>rfl,fun _ O=>O⟩
theorem b2.trans{aE:Nat}{a K c:U}(N:b2 aE a K)(aQ:b2 aE K c):b2 aE a c:=
 ⟨Nat.le_trans N.le aQ.le,fun R a5 b=>(aQ.pre R (Nat.lt_of_lt_of_le a5 N.le) b).trans (N.pre R a5 b),fun m O=>aQ.len m (N.len m O)⟩
theorem CU{Z:U}{aE m:Nat}(O:rU Z aE=some m):aE < Z.size:=by
 rcases Nat.lt_or_ge aE Z.size with a | a
 ·exact a
 ·unfold rU at O;rw [Array.getElem?_eq_none a] at O;cases O
theorem bC.Ai{aE:Nat}{Z aB:U}(S:bC Z aB):b2 aE Z aB:=
 ⟨S.le,fun K a _=>S.pre K a,fun m O=>by have:=S.pre aE (CU O);unfold rU at *;rw [this];exact O⟩
theorem b2.aS{aE:Nat}{aV Z aB:U}(a:bC aV Z)(S:b2 aE Z aB)(b:aV.size≤aE):bC aV aB:=
 ⟨Nat.le_trans a.le S.le,fun K b=>(S.pre K (Nat.lt_of_lt_of_le b a.le) (by omega)).trans (a.pre K b)⟩
theorem b2.set(aE:Nat)(Z:U)(R:Nat)(v:Value):b2 aE Z (gB Z ⟨aE,R,none⟩ v):=
 ⟨by rw [CV];exact Nat.le_refl _,fun K _ a=>CW a,fun m O=>by
  unfold rU at *
  split at O
  ·rename_i c el b d
   have:(gB Z ⟨aE,R,none⟩ v)[aE]?=some (.cells (c.setIfInBounds R v) el b):=by
    unfold gB
    rw [Array.getElem?_modify,if_pos rfl,d]
    rfl
   rw [this]
   simpa using O
  ·cases O⟩
def fO(aE:Nat)(a:M):Prop:=∀ p,a=some p→p.block ≠ aE
theorem fO.none(aE:Nat):fO aE none:=fun p O=>by cases O
theorem fO.sub{aE:Nat}{a:M}(aN:fO aE a)(m l h4:Nat):fO aE (iP a m l h4):=by
 intro p O
 unfold iP at O
 split at O
 ·exact aN p O
 ·cases a with
  | none=>cases O
  | some r=>
   simp only [Option.map_some,Option.some.injEq] at O
   rw [← O,p8];exact aN r rfl
theorem cD.cG{aE:Nat}{Z aB:U}{a:M}{c:Nat}{L:List Nat}(r:cD Z a c L)(aN:fO aE a)(S:b2 aE Z aB):cD aB a c L:=
 ⟨r.len,r.cap,r.words,fun R a5=>by
  obtain⟨p,O,g⟩:=r.at_ R a5
  refine⟨p,O,?_⟩
  have b:=vK g
  rw [rS (S.pre _ b (by rw [p8];exact aN p O))];exact g⟩
theorem Own.cG{aE K:Nat}{Z aB:U}{L:List Nat}(aN:Own Z K L)(a:K ≠ aE)(S:b2 aE Z aB):Own aB K L:=by
 obtain⟨O,g⟩:=aN.at_
 exact⟨aN.len,aN.words,O,by rw [S.pre K aN.lt a];exact g⟩
theorem cD.off{Z:U}{a:M}{c:Nat}{L:List Nat}(r:cD Z a c L){aE:Nat}(e:Z.size≤aE):L=[]∨fO aE a:=by
 cases L with
 | nil=>exact Or.inl rfl
 | cons N L=>
  obtain⟨p,O,g⟩:=r.at_ 0 (by simp)
  have d:=vK g
  rw [p8] at d
  refine Or.inr fun f b=>?_
  rw [O] at b;cases b;omega
def e6(Z:U)(K:Nat)(L:List Nat):Prop:=∃ rest,Own Z K (L ++ rest)
theorem Own.CX{Z:U}{K:Nat}{L:List Nat}(aN:Own Z K L):e6 Z K L:=⟨[],by rw [List.append_nil];exact aN⟩
theorem e6.words{Z:U}{K:Nat}{L:List Nat}(aN:e6 Z K L):Words L:=fun N a=>by
 obtain⟨r,aN⟩:=aN;exact aN.words N (List.mem_append_left _ a)
theorem e6.len{Z:U}{K:Nat}{L:List Nat}(aN:e6 Z K L):L.length≤35184372088828:=by
 obtain⟨r,aN⟩:=aN;have:=aN.len;rw [List.length_append] at this;omega
theorem e6.lt{Z:U}{K:Nat}{L:List Nat}(aN:e6 Z K L):K < Z.size:=by obtain⟨r,aN⟩:=aN;exact aN.lt
theorem e6.take{Z:U}{K:Nat}{L:List Nat}(aN:e6 Z K L)(n:Nat):e6 Z K (L.take n):=by
 obtain⟨r,aN⟩:=aN
 exact⟨L.drop n ++ r,by rw [← List.append_assoc,List.take_append_drop];exact aN⟩
theorem e6.cG{aE K:Nat}{Z aB:U}{L:List Nat}(aN:e6 Z K L)(a:K ≠ aE)(S:b2 aE Z aB):e6 aB K L:=by
 obtain⟨r,aN⟩:=aN;exact⟨r,aN.cG a S⟩
theorem e6.aS{K:Nat}{Z aB:U}{L:List Nat}(aN:e6 Z K L)(S:bC Z aB):e6 aB K L:=by
 obtain⟨r,aN⟩:=aN;exact⟨r,aN.aS S⟩
theorem e6.word{Z:U}{K:Nat}{L:List Nat}(aN:e6 Z K L)(R:Nat):L.getD R 0 < 18446744073709551616:=xZ aN.words R
theorem e6.rd{Z:U}{K c:Nat}{L:List Nat}(aN:e6 Z K L)(a:L.length≤c):cD Z (some ⟨K,0,none⟩) c L:=by
 refine⟨aN.len,a,aN.words,fun R a5=>⟨_,rfl,?_⟩⟩
 obtain⟨r,aN⟩:=aN
 rw [bZ,aN.cell (by rw [List.length_append];omega)]
 have O:(L ++ r).getD R 0=L.getD R 0:=by simp [List.getD,List.getElem?_append_left a5]
 rw [O]
theorem e6.set{Z:U}{K:Nat}{L:List Nat}(aN:e6 Z K L){aC v:Nat}(a:aC < L.length)(bP:v < 18446744073709551616):e6 (gB Z ⟨K,aC,none⟩ (hL v)) K (L.set aC v):=by
 obtain⟨r,aN⟩:=aN
 refine⟨r,?_⟩
 have:=aN.set aC bP
 rw [List.set_append_left _ _ a] at this;exact this
theorem tM{Z:U}{K l:Nat}{L:List Nat}(aN:e6 Z K L){R:Int}{aC:Nat}(a5:R=(aC:Int))(a:l=L.length)(b:aC < L.length){N:Int}{v:Nat}(c:N=(v:Int))(bP:v < 18446744073709551616){aF:U→Prop}
  (g:e6 (gB Z ⟨K,aC,none⟩ (hL v)) K (L.set aC v)→b2 K Z (gB Z ⟨K,aC,none⟩ (hL v))→aF (gB Z ⟨K,aC,none⟩ (hL v))):c2 (some ⟨K,0,none⟩) l R 1 fun aE=>b3 Z aE (.int .u64 N) aF:=by
 subst a5;subst c;subst a
 have d:=g (aN.set b bP) (b2.set _ _ _ _)
 obtain⟨r,aN⟩:=aN
 refine⟨⟨by omega,by omega⟩,?_⟩
 show b3 Z ((⟨K,0,none⟩:Addr).add ((aC:Int).toNat*1)) _ _
 have e:(aC:Int).toNat*1=aC:=by omega
 rw [e,bZ]
 exact⟨⟨⟨_,aN.cell (by rw [List.length_append];omega)⟩,aN.frozen aC⟩,d⟩
theorem Aj{a:M}{l c:Nat}{N aQ:Int}{n:Nat}(b:N=(n:Int))(d:aQ=(n:Int))(e:n≤c){aF:M→Nat→Nat→Prop}(g:aF a n n):hX 1 a l c none (some (.int .i64 N)) (some (.int .i64 aQ)) aF:=by
 subst b;subst d
 show(0≤(n:Int)∧(n:Int)≤(c:Int))∧(0≤(n:Int)∧(n:Int)≤(((n:Int).toNat:Nat):Int))∧aF (iP a (n:Int).toNat 0 1) ((n:Int).toNat - 0) ((n:Int).toNat - 0)
 refine⟨⟨by omega,by omega⟩,⟨by omega,by omega⟩,?_⟩
 have O:iP a (n:Int).toNat 0 1=a:=by
  unfold iP
  split
  ·rfl
  ·cases a <;> simp [Addr.add]
 rw [O];simpa using g
theorem CY{a:M}{l c:Nat}{N aQ bM:Int}{m n:Nat}(b:N=(m:Int))(d:aQ=(n:Int))(e:bM=(n:Int))(f:m≤n)(h:n≤c){aF:M→Nat→Nat→Prop}(g:aF (iP a n m 1) (n - m) (n - m)):hX 1 a l c (some (.int .i64 N)) (some (.int .i64 aQ)) (some (.int .i64 bM)) aF:=by
 subst b;subst d;subst e
 show(0≤(n:Int)∧(n:Int)≤(c:Int))∧(0≤(n:Int)∧(n:Int)≤(((n:Int).toNat:Nat):Int))∧(0≤(m:Int)∧(m:Int)≤(((n:Int).toNat:Nat):Int))∧aF (iP a (n:Int).toNat (m:Int).toNat 1) ((n:Int).toNat - (m:Int).toNat) ((n:Int).toNat - (m:Int).toNat)
 refine⟨⟨by omega,by omega⟩,⟨by omega,by omega⟩,⟨by omega,by omega⟩,?_⟩
 simpa using g
theorem k7:∀ {a3:List Nat} {aC v:Nat},aC < a3.length→val (a3.set aC v)+a3.getD aC 0*2 ^ (64*aC)=val a3+v*2 ^ (64*aC)
 | [],_,_,Z=>absurd Z (by simp)
 | bM :: a3,0,v,_=>by simp [val];omega
 | bM :: a3,aC+1,v,Z=>by
  have bO:=k7 (a3:=a3) (aC:=aC) (v:=v) (by simpa using Z)
  have O:2 ^ (64*(aC+1))=18446744073709551616*2 ^ (64*aC):=by
   rw [show 64*(aC+1)=64+64*aC by omega,Nat.pow_add]
  simp only [List.set_cons_succ,val,List.getD_cons_succ,O]
  have b:a3.getD aC 0*(18446744073709551616*2 ^ (64*aC))=18446744073709551616*(a3.getD aC 0*2 ^ (64*aC)):=Nat.mul_left_comm _ _ _
  have c:v*(18446744073709551616*2 ^ (64*aC))=18446744073709551616*(v*2 ^ (64*aC)):=Nat.mul_left_comm _ _ _
  rw [b,c]
  generalize a3.getD aC 0*2 ^ (64*aC)=a at *
  generalize v*2 ^ (64*aC)=K at *
  omega
theorem jQ(aC:Nat):2 ^ (64*(aC+1))=18446744073709551616*2 ^ (64*aC):=by
 rw [show 64*(aC+1)=64+64*aC by omega,Nat.pow_add]
theorem x0{bA V a bM jF c c8 p r P:Nat}(aY:jF+bA*c8=p+c+bM)(h:a+bM*P=V+jF*P):a+(r+c8)*(bA*P)=V+(p+bA*r+c)*P:=by
 have b:(jF+bA*c8)*P=(p+c+bM)*P:=by rw [aY]
 have d:(jF+bA*c8)*P=jF*P+bA*c8*P:=Nat.add_mul _ _ _
 have e:(p+c+bM)*P=p*P+c*P+bM*P:=by rw [Nat.add_mul,Nat.add_mul]
 have f:(r+c8)*(bA*P)=bA*r*P+bA*c8*P:=by rw [Nat.add_mul,Nat.mul_left_comm r,Nat.mul_left_comm c8,Nat.mul_assoc,Nat.mul_assoc]
 have g:(p+bA*r+c)*P=p*P+bA*r*P+c*P:=by rw [Nat.add_mul,Nat.add_mul]
 rw [f,g];rw [d,e] at b
 omega
theorem CZ{bA V a bM jF aN fH cU r P T:Nat}(aY:jF+cU+aN=bM+bA*fH)(g:a+bM*P=V+jF*P)(Z:V=T+(cU+bA*r+aN)*P):a=T+(r+fH)*(bA*P):=by
 have b:(jF+cU+aN)*P=(bM+bA*fH)*P:=by rw [aY]
 have c:(jF+cU+aN)*P=jF*P+cU*P+aN*P:=by rw [Nat.add_mul,Nat.add_mul]
 have d:(bM+bA*fH)*P=bM*P+bA*fH*P:=Nat.add_mul _ _ _
 have e:(r+fH)*(bA*P)=bA*r*P+bA*fH*P:=by rw [Nat.add_mul,Nat.mul_left_comm r,Nat.mul_left_comm fH,Nat.mul_assoc,Nat.mul_assoc]
 have f:(cU+bA*r+aN)*P=cU*P+bA*r*P+aN*P:=by rw [Nat.add_mul,Nat.add_mul]
 rw [e];rw [c,d] at b;rw [f] at Z
 omega
theorem kW(L:List Nat)(R:Nat):val (L.drop R)=L.getD R 0+18446744073709551616*val (L.drop (R+1)):=by
 by_cases Z:R < L.length
 ·rw [h6 Z];rfl
 ·rw [List.drop_of_length_le (by omega),List.drop_of_length_le (by omega)]
  simp [val,List.getD,show L.length≤R by omega]
theorem Ak{a3:List Nat}{T P R:Nat}(a:P=2 ^ (64*R))(Z:P≤T)(b:T < 2 ^ (64*a3.length)):R < a3.length:=by
 subst a
 refine Nat.lt_of_not_le fun c=>?_
 have:2 ^ (64*a3.length)≤2 ^ (64*R):=Nat.pow_le_pow_right (by decide) (by omega)
 omega
theorem rV(m:Nat):val (List.replicate m 0)=0:=by
 induction m with
 | zero=>rfl
 | succ m bO=>rw [List.replicate_succ];simp [val,bO]
end Go.Gv
namespace Go.Gv.D
def val:List Nat→Nat
 | []=>0
 | N :: L=>N+4294967296*val L
def aL(n:Nat):List Nat:=if Z:n=0 then [] else n % 4294967296 :: aL (n / 4294967296)
 termination_by n
 decreasing_by omega
def Words(L:List Nat):Prop:=∀ N ∈ L,N < 4294967296
theorem Words.cons{N:Nat}{L:List Nat}(Z:Words (N :: L)):N < 4294967296∧Words L:=⟨Z N (by simp),fun aQ a=>Z aQ (by simp [a])⟩
theorem eK:aL 0=[]:=by unfold aL;simp
theorem j8{n:Nat}(Z:n ≠ 0):aL n=n % 4294967296 :: aL (n / 4294967296):=by
 rw [aL];simp [Z]
theorem oH(n:Nat):Words (aL n):=by
 induction n using Nat.strongRecOn with
 | ind n bO=>
  by_cases Z:n=0
  ·subst Z;rw [eK];intro N a;cases a
  ·rw [j8 Z];intro N a
   rcases List.mem_cons.mp a with O | O
   ·omega
   ·exact bO _ (by omega) N O
theorem eV(n:Nat):val (aL n)=n:=by
 induction n using Nat.strongRecOn with
 | ind n bO=>
  by_cases Z:n=0
  ·subst Z;rw [eK];rfl
  ·rw [j8 Z];show n % _+_*val (aL _)=n
   rw [bO _ (by omega)];omega
theorem oI{L:List Nat}:dI L=[]↔val L=0:=by
 induction L with
 | nil=>simp [dI,val]
 | cons N L bO=>
  simp only [dI,val]
  split
  ·next Z=>simp only [true_iff];have:=bO.mp Z.2;omega
  ·next Z=>
   simp only [reduceCtorEq,false_iff]
   intro O
   exact Z ⟨by omega,bO.mpr (by omega)⟩
theorem k8{L:List Nat}(a:Words L):aL (val L)=dI L:=by
 induction L with
 | nil=>simp [val,dI,eK]
 | cons N L bO=>
  have b:=a.cons
  simp only [dI,val]
  split
  ·next Z=>rw [Z.1,oI.mp Z.2];exact eK
  ·next Z=>
   have c:N+4294967296*val L ≠ 0:=fun O=>Z ⟨by omega,oI.mpr (by omega)⟩
   rw [j8 c]
   have d:(N+4294967296*val L) % 4294967296=N:=by omega
   have e:(N+4294967296*val L) / 4294967296=val L:=by omega
   rw [d,e,bO b.2]
theorem qA(L:List Nat):val (dI L)=val L:=by
 induction L with
 | nil=>rfl
 | cons N L bO=>
  simp only [dI]
  split
  ·next Z=>simp only [val];rw [Z.1,oI.mp Z.2]
  ·simp only [val];rw [bO]
theorem o9(n:Nat):dI (aL n)=aL n:=by rw [← k8 (oH n),eV]
theorem mY{n m:Nat}(Z:n≤m):(aL n).length≤(aL m).length:=by
 induction m using Nat.strongRecOn generalizing n with
 | ind m bO=>
  by_cases a:n=0
  ·subst a;rw [eK];simp
  ·rw [j8 a,j8 (n:=m) (by omega)]
   simp only [List.length_cons]
   exact Nat.succ_le_succ (bO (m / 4294967296) (by omega) (Nat.div_le_div_right Z))
theorem x1(aP:List Nat):val aP=aP.headD 0+4294967296*val aP.tail:=by cases aP <;> simp [val]
theorem rW:∀ {L aP:List Nat} {aC:Nat},Words L→Words aP→L.length=aP.length→aC < L.length→L.drop (aC+1)=aP.drop (aC+1)→L.getD aC 0 < aP.getD aC 0→val L < val aP
 | [],_,_,_,_,_,a,_,_=>absurd a (by simp)
 | N :: L,[],_,_,_,b,_,_,_=>absurd b (by simp)
 | N :: L,aQ :: aP,0,c,d,b,a,e,Z=>by
  have O:L=aP:=by simpa using e
  subst O
  simp only [List.getD_cons_zero] at Z
  simp only [val];omega
 | N :: L,aQ :: aP,aC+1,c,d,b,a,e,Z=>by
  have:=rW (L:=L) (aP:=aP) (aC:=aC) c.cons.2 d.cons.2 (by simpa using b) (by simpa using a) (by simpa using e) (by simpa using Z)
  have aY:=c.cons.1
  have f:=d.cons.1
  simp only [val];omega
theorem qB:∀ {L aP:List Nat},Words L→dI aP=aP→L.length < aP.length→val L < val aP
 | _,[],_,_,Z=>absurd Z (by simp)
 | [],aQ :: aP,_,a,_=>by
  have:val (aQ :: aP) ≠ 0:=fun O=>by rw [oI.mpr O] at a;cases a
  simp only [val] at this ⊢;omega
 | N :: L,aQ :: aP,b,a,Z=>by
  have:=qB (L:=L) (aP:=aP) b.cons.2 (x2 a) (by simpa using Z)
  have aY:=b.cons.1
  simp only [val];omega
theorem hI(L aP:List Nat):val (L ++ aP)=val L+2 ^ (32*L.length)*val aP:=by
 induction L with
 | nil=>simp [val]
 | cons N L bO=>
  simp only [List.cons_append,val,bO,List.length_cons]
  have O:2 ^ (32*(L.length+1))=4294967296*2 ^ (32*L.length):=by
   rw [show 32*(L.length+1)=32+32*L.length by omega,Nat.pow_add]
  rw [O,Nat.mul_add,Nat.mul_assoc];omega
theorem hS{L:List Nat}(a:Words L):val L < 2 ^ (32*L.length):=by
 induction L with
 | nil=>simp [val]
 | cons N L bO=>
  have O:2 ^ (32*(L.length+1))=4294967296*2 ^ (32*L.length):=by
   rw [show 32*(L.length+1)=32+32*L.length by omega,Nat.pow_add]
  rw [List.length_cons,O];simp only [val]
  have aY:=a.cons.1
  have b:=bO a.cons.2
  omega
theorem vL{L:List Nat}(a:Words L){n:Nat}(b:L.length=n+1)(aV:L.getD n 0 ≠ 0):dV (val L)=32*n+dV (L.getD n 0):=by
 have O:L=L.take n ++ [L.getD n 0]:=by rw [← k9 (by omega),← b,List.take_length]
 have bP:val L=val (L.take n)+2 ^ (32*n)*L.getD n 0:=by
  conv=>lhs;rw [O]
  rw [hI];simp [val,show min n L.length=n by omega]
 have c:val (L.take n) < 2 ^ (32*n):=by
  have:=hS (L:=L.take n) (fun N d=>a N (List.mem_of_mem_take d))
  rwa [List.length_take,show min n L.length=n by omega] at this
 have e:val L / 2 ^ (32*n)=L.getD n 0:=by
  rw [bP,Nat.add_mul_div_left _ _ (Nat.pow_pos (by decide)),Nat.div_eq_of_lt c,Nat.zero_add]
 have:=rX (val L) (32*n)
 rw [e] at this
 have:=pA aV
 omega
theorem gE{n S:Nat}:(aL n).length≤S↔n < 2 ^ (32*S):=by
 constructor
 ·intro Z
  have:=hS (oH n)
  rw [eV] at this
  exact Nat.lt_of_lt_of_le this (Nat.pow_le_pow_right (by decide) (by omega))
 ·intro Z
  induction S generalizing n with
  | zero=>
   have:n=0:=by simpa using Z
   subst this;rw [eK];simp
  | succ S bO=>
   by_cases aV:n=0
   ·subst aV;rw [eK];simp
   ·rw [j8 aV,List.length_cons]
    have O:2 ^ (32*(S+1))=2 ^ (32*S)*4294967296:=by
     rw [show 32*(S+1)=32*S+32 by omega,Nat.pow_add]
    rw [O] at Z
    have:=bO (n:=n / 4294967296) (Nat.div_lt_of_lt_mul (by rw [Nat.mul_comm];exact Z))
    omega
theorem x3{a1 bH S:Nat}(a:(aL a1).length≤S)(b:(aL bH).length≤S):(aL (a1+bH)).length≤S+1:=by
 refine gE.mpr ?_
 have aY:=gE.mp a
 have c:=gE.mp b
 have O:2 ^ (32*(S+1))=2 ^ (32*S)*4294967296:=by
  rw [show 32*(S+1)=32*S+32 by omega,Nat.pow_add]
 rw [O];generalize 2 ^ (32*S)=p at *;omega
theorem x4{v:Nat}(S:Nat):dV v≤32*S↔(aL v).length≤S:=by
 rw [gE,h7]
theorem kJ{L:List Nat}(a:Words L)(m:Nat):val (L.drop m)=val L / 2 ^ (32*m):=by
 by_cases b:m≤L.length
 ·have O:val L=val (L.take m)+2 ^ (32*m)*val (L.drop m):=by
   conv=>lhs;rw [← List.take_append_drop m L]
   rw [hI,List.length_take,Nat.min_eq_left b]
  have c:=hS (L:=L.take m) (fun N d=>a N (List.mem_of_mem_take d))
  rw [List.length_take,Nat.min_eq_left b] at c
  rw [O,Nat.add_mul_div_left _ _ (Nat.pow_pos (by decide)),Nat.div_eq_of_lt c,Nat.zero_add]
 ·rw [List.drop_of_length_le (by omega)]
  have:=hS a
  have e:2 ^ (32*L.length)≤2 ^ (32*m):=Nat.pow_le_pow_right (by decide) (by omega)
  rw [Nat.div_eq_of_lt (by omega)];rfl
theorem lR{S:Nat}(a:S < 32):2 ^ S*2 ^ (32 - S)=4294967296:=by
 rw [← Nat.pow_add,show S+(32 - S)=32 by omega]
theorem Al{L:List Nat}(b:Words L){m S:Nat}(c:m < L.length)(d:S < 32):val (L.take m ++ [L.getD m 0 % 2 ^ S])=val L % 2 ^ (32*m+S):=by
 have O:val L=val (L.take m)+2 ^ (32*m)*val (L.drop m):=by
  conv=>lhs;rw [← List.take_append_drop m L]
  rw [hI,List.length_take,Nat.min_eq_left (by omega)]
 have a:=hS (L:=L.take m) (fun N e=>b N (List.mem_of_mem_take e))
 rw [List.length_take,Nat.min_eq_left (by omega)] at a
 rw [hI,List.length_take,Nat.min_eq_left (by omega),Nat.pow_add,Nat.mod_mul,O,Nat.add_mul_mod_self_left,Nat.mod_eq_of_lt a,Nat.add_mul_div_left _ _ (Nat.pow_pos (by decide)),Nat.div_eq_of_lt a,Nat.zero_add,h6 c]
 simp only [val,Nat.mul_zero,Nat.add_zero]
 congr 2
 rw [← lR d,Nat.mul_assoc,Nat.add_mul_mod_self_left]
theorem k7:∀ {a3:List Nat} {aC v:Nat},aC < a3.length→val (a3.set aC v)+a3.getD aC 0*2 ^ (32*aC)=val a3+v*2 ^ (32*aC)
 | [],_,_,Z=>absurd Z (by simp)
 | bM :: a3,0,v,_=>by simp [val];omega
 | bM :: a3,aC+1,v,Z=>by
  have bO:=k7 (a3:=a3) (aC:=aC) (v:=v) (by simpa using Z)
  have O:2 ^ (32*(aC+1))=4294967296*2 ^ (32*aC):=by
   rw [show 32*(aC+1)=32+32*aC by omega,Nat.pow_add]
  simp only [List.set_cons_succ,val,List.getD_cons_succ,O]
  have b:a3.getD aC 0*(4294967296*2 ^ (32*aC))=4294967296*(a3.getD aC 0*2 ^ (32*aC)):=Nat.mul_left_comm _ _ _
  have c:v*(4294967296*2 ^ (32*aC))=4294967296*(v*2 ^ (32*aC)):=Nat.mul_left_comm _ _ _
  rw [b,c]
  generalize a3.getD aC 0*2 ^ (32*aC)=a at *
  generalize v*2 ^ (32*aC)=K at *
  omega
theorem jQ(aC:Nat):2 ^ (32*(aC+1))=4294967296*2 ^ (32*aC):=by
 rw [show 32*(aC+1)=32+32*aC by omega,Nat.pow_add]
theorem kW(L:List Nat)(R:Nat):val (L.drop R)=L.getD R 0+4294967296*val (L.drop (R+1)):=by
 by_cases Z:R < L.length
 ·rw [h6 Z];rfl
 ·rw [List.drop_of_length_le (by omega),List.drop_of_length_le (by omega)]
  simp [val,List.getD,show L.length≤R by omega]
theorem Ak{a3:List Nat}{T P R:Nat}(a:P=2 ^ (32*R))(Z:P≤T)(b:T < 2 ^ (32*a3.length)):R < a3.length:=by
 subst a
 refine Nat.lt_of_not_le fun c=>?_
 have:2 ^ (32*a3.length)≤2 ^ (32*R):=Nat.pow_le_pow_right (by decide) (by omega)
 omega
theorem rV(m:Nat):val (List.replicate m 0)=0:=by
 induction m with
 | zero=>rfl
 | succ m bO=>rw [List.replicate_succ];simp [val,bO]
end Go.Gv.D
namespace Go.Gv
structure j9(c7:Type) where
 enc:c7→Value
 ok:c7→Prop
 fC:Nat
 plain:∀ N,mE (enc N)=true
def dT:j9 Nat:=⟨fun N=>.int .u64 (N:Int),fun N=>N < 18446744073709551616,35184372088828,fun _=>rfl⟩
def b7:j9 Nat:=⟨fun N=>.int .u32 (N:Int),fun N=>N < 4294967296,70368744177656,fun _=>rfl⟩
def C0:j9 Nat:=⟨fun N=>.int .u8 (N:Int),fun N=>N < 256,281474976710656,fun _=>rfl⟩
instance (N:Nat):Decidable (dT.ok N):=inferInstanceAs (Decidable (N < 18446744073709551616))
instance (N:Nat):Decidable (b7.ok N):=inferInstanceAs (Decidable (N < 4294967296))
instance (N:Nat):Decidable (C0.ok N):=inferInstanceAs (Decidable (N < 256))
theorem C1:dT.ok 0:=(by decide:0 < 18446744073709551616)
theorem oJ:b7.ok 0:=(by decide:0 < 4294967296)
abbrev oK:=Option Addr × Nat × Nat
variable {c7:Type} {E:j9 c7}
structure cL(E:j9 c7)(Z:U)(a:M)(c:Nat)(L:List c7):Prop where
 len:L.length≤E.fC
 cap:L.length≤c
 ok:∀ N ∈ L,E.ok N
 at_:∀ R N,L[R]?=some N→∃ p,a=some p∧gL Z (p.add R)=some (E.enc N)
theorem cL.aS{Z aB:U}{a:M}{c:Nat}{L:List c7}(r:cL E Z a c L)(S:bC Z aB):cL E aB a c L:=
 ⟨r.len,r.cap,r.ok,fun R N a5=>let ⟨p,O,g⟩:=r.at_ R N a5;⟨p,O,S.cell g⟩⟩
theorem cL.nil(Z:U)(a:M)(c:Nat):cL E Z a c []:=⟨by simp,by simp,by simp,fun R N a5=>by simp at a5⟩
theorem cL.take{Z:U}{a:M}{c:Nat}{L:List c7}(r:cL E Z a c L)(n:Nat):cL E Z a c (L.take n):=by
 refine⟨?_,?_,fun N b=>r.ok N (List.mem_of_mem_take b),fun R N a5=>?_⟩
 ·have:=r.len;rw [List.length_take];omega
 ·have:=r.cap;rw [List.length_take];omega
 ·rw [List.getElem?_take] at a5
  split at a5
  ·exact r.at_ R N a5
  ·cases a5
theorem cL.drop{Z:U}{a:M}{c m:Nat}{L:List c7}(r:cL E Z a c L)(n:Nat)(d:n≤L.length)(e:L.length≤m):cL E Z (iP a m n 1) (m - n) (L.drop n):=by
 have aY:=r.len;have f:=r.cap
 refine⟨?_,?_,fun N b=>r.ok N (List.mem_of_mem_drop b),fun R N a5=>?_⟩
 ·rw [List.length_drop];omega
 ·rw [List.length_drop];omega
 ·rw [List.getElem?_drop] at a5
  obtain⟨p,O,g⟩:=r.at_ (n+R) N a5
  have h:=(List.getElem?_eq_some_iff.mp a5).1
  refine⟨p.add n,?_,by rw [add_add];exact g⟩
  rw [O];unfold iP
  rw [if_neg (by omega)];simp
theorem C2{Z:U}{a:M}{c l:Nat}{L:List c7}(r:cL E Z a c L){R:Int}{aC:Nat}(a5:R=(aC:Int))(d:l=L.length){N:c7}(b:L[aC]?=some N){aF:Value→Prop}
  (g:aF (E.enc N)):c2 a l R 1 fun aE=>fB Z aE aF:=by
 subst a5;subst d
 obtain⟨p,O,e⟩:=r.at_ aC N b
 have h:=(List.getElem?_eq_some_iff.mp b).1
 subst O
 refine⟨⟨by omega,by omega⟩,?_⟩
 show fB Z (p.add ((aC:Int).toNat*1)) _
 have f:(aC:Int).toNat*1=aC:=by omega
 rw [f]
 unfold fB;rw [e];exact g
theorem getD_some{L:List Nat}{aC:Nat}(a:aC < L.length):L[aC]?=some (L.getD aC 0):=by simp [List.getD,a]
theorem iH{Z:U}{a:M}{c l:Nat}{L:List Nat}(r:cL b7 Z a c L){R:Int}{aC:Nat}(a5:R=(aC:Int))(b:l=L.length)(d:aC < L.length){aF:Int→Prop}
  (g:aF (L.getD aC 0:Nat)):c2 a l R 1 fun aE=>fB Z aE fun v=>aW .u32 v aF:=
 C2 r a5 b (getD_some d) g
theorem Hg{Z:U}{a:M}{c l:Nat}{L:List Nat}(r:cL dT Z a c L){R:Int}{aC:Nat}(a5:R=(aC:Int))(b:l=L.length)(d:aC < L.length){aF:Int→Prop}
  (g:aF (L.getD aC 0:Nat)):c2 a l R 1 fun aE=>fB Z aE fun v=>aW .u64 v aF:=
 C2 r a5 b (getD_some d) g
theorem cL.vM{Z:U}{a:M}{c:Nat}{L:List Nat}(r:cL dT Z a c L):cD Z a c L:=
 ⟨r.len,r.cap,r.ok,fun R a5=>r.at_ R _ (getD_some a5)⟩
structure dS(E:j9 c7)(Z:U)(K:Nat)(a3:List c7):Prop where
 ok:∀ N ∈ a3,E.ok N
 at_:∃ O,Z[K]?=some (.cells (a3.map E.enc).toArray O (0,0))
theorem dS.lt{Z:U}{K:Nat}{a3:List c7}(aN:dS E Z K a3):K < Z.size:=by
 obtain⟨O,g⟩:=aN.at_;exact(Array.getElem?_eq_some_iff.mp g).1
theorem dS.cell{Z:U}{K:Nat}{a3:List c7}(aN:dS E Z K a3){R:Nat}{N:c7}(a5:a3[R]?=some N):gL Z ⟨K,R,none⟩=some (E.enc N):=by
 obtain⟨O,g⟩:=aN.at_
 unfold gL
 simp only [g,Option.isSome_none,Bool.false_eq_true,if_false]
 simp [a5]
theorem dS.frozen{Z:U}{K:Nat}{a3:List c7}(aN:dS E Z K a3)(R:Nat):lP Z ⟨K,R,none⟩=false:=by
 obtain⟨O,g⟩:=aN.at_
 unfold lP
 simp [g]
theorem dS.Am{Z:U}{K off n c:Nat}{a3:List c7}(aN:dS E Z K a3)(b:n≤E.fC)(d:off+n≤a3.length)(e:n≤c):cL E Z (some ⟨K,off,none⟩) c ((a3.drop off).take n):=by
 refine⟨by rw [List.length_take];omega,by rw [List.length_take];omega,fun N a=>aN.ok N (List.mem_of_mem_drop (List.mem_of_mem_take a)),fun R N a5=>⟨_,rfl,?_⟩⟩
 rw [List.getElem?_take] at a5
 split at a5
 ·rw [List.getElem?_drop] at a5
  have O:(⟨K,off,none⟩:Addr).add R=⟨K,off+R,none⟩:=by
   rw [← bZ K off,add_add,bZ]
  rw [O];exact aN.cell a5
 ·cases a5
theorem dS.rd{Z:U}{K c:Nat}{L rest:List c7}(aN:dS E Z K (L ++ rest))(a:L.length≤E.fC)(b:L.length≤c):cL E Z (some ⟨K,0,none⟩) c L:=by
 have:=aN.Am (off:=0) (n:=L.length) (c:=c) a (by simp) b
 simpa using this
theorem dS.qC{Z:U}{K c:Nat}{L:List c7}(aN:dS E Z K L)(a:L.length≤E.fC)(b:L.length≤c):cL E Z (some ⟨K,0,none⟩) c L:=
 dS.rd (rest:=[]) (by simpa using aN) a b
theorem dS.set{Z:U}{K:Nat}{a3:List c7}(aN:dS E Z K a3)(R:Nat){v:c7}(bP:E.ok v):dS E (gB Z ⟨K,R,none⟩ (E.enc v)) K (a3.set R v):=by
 refine⟨fun N a=>?_,?_⟩
 ·rcases List.mem_or_eq_of_mem_set a with aY | aY
  ·exact aN.ok N aY
  ·subst aY;exact bP
 ·obtain⟨O,g⟩:=aN.at_
  refine⟨O,?_⟩
  unfold gB
  rw [Array.getElem?_modify]
  simp only [if_true,g,Option.map_some]
  simp [List.map_set]
theorem dS.aS{Z aB:U}{K:Nat}{a3:List c7}(aN:dS E Z K a3)(S:bC Z aB):dS E aB K a3:=by
 obtain⟨O,g⟩:=aN.at_
 exact⟨aN.ok,O,by rw [S.pre K aN.lt];exact g⟩
theorem dS.cG{aE:Nat}{Z aB:U}{K:Nat}{a3:List c7}(aN:dS E Z K a3)(a:K ≠ aE)(S:b2 aE Z aB):dS E aB K a3:=by
 obtain⟨O,g⟩:=aN.at_
 exact⟨aN.ok,O,by rw [S.pre K aN.lt a];exact g⟩
theorem cL.cG{aE:Nat}{Z aB:U}{a:M}{c:Nat}{L:List c7}(r:cL E Z a c L)(aN:fO aE a)(S:b2 aE Z aB):cL E aB a c L:=
 ⟨r.len,r.cap,r.ok,fun R N a5=>by
  obtain⟨p,O,g⟩:=r.at_ R N a5
  refine⟨p,O,?_⟩
  have b:=vK g
  rw [rS (S.pre _ b (by rw [p8];exact aN p O))];exact g⟩
theorem An{Z:U}{K l off:Nat}{a3:List c7}(aN:dS E Z K a3){R:Int}{aC:Nat}(a5:R=(aC:Int))(d:aC < l)(e:off+aC < a3.length){N:Value}{v:c7}(a:N=E.enc v)(bP:E.ok v){aF:U→Prop}
  (g:dS E (gB Z ⟨K,off+aC,none⟩ (E.enc v)) K (a3.set (off+aC) v)→b2 K Z (gB Z ⟨K,off+aC,none⟩ (E.enc v))→aF (gB Z ⟨K,off+aC,none⟩ (E.enc v))):c2 (some ⟨K,off,none⟩) l R 1 fun aE=>b3 Z aE N aF:=by
 subst a5;subst a
 refine⟨⟨by omega,by omega⟩,?_⟩
 show b3 Z ((⟨K,off,none⟩:Addr).add ((aC:Int).toNat*1)) _ _
 have b:(aC:Int).toNat*1=aC:=by omega
 have O:(⟨K,off,none⟩:Addr).add aC=⟨K,off+aC,none⟩:=by
  rw [← bZ K off,add_add,bZ]
 rw [b,O]
 obtain⟨aA,c⟩:∃ aA,a3[off+aC]?=some aA:=⟨a3[off+aC],by simp⟩
 exact⟨⟨⟨_,aN.cell c⟩,aN.frozen _⟩,g (aN.set _ bP) (b2.set _ _ _ _)⟩
theorem x5{Z:U}{K l:Nat}{a3:List c7}(aN:dS E Z K a3){R:Int}{aC:Nat}(a5:R=(aC:Int))(a:aC < l)(b:aC < a3.length){N:Value}{v:c7}(c:N=E.enc v)(bP:E.ok v){aF:U→Prop}
  (g:dS E (gB Z ⟨K,aC,none⟩ (E.enc v)) K (a3.set aC v)→b2 K Z (gB Z ⟨K,aC,none⟩ (E.enc v))→aF (gB Z ⟨K,aC,none⟩ (E.enc v))):c2 (some ⟨K,0,none⟩) l R 1 fun aE=>b3 Z aE N aF:=by
 have O:0+aC=aC:=Nat.zero_add aC
 refine An (off:=0) aN a5 a (by rw [O];exact b) c bP ?_
 rw [O];exact g
theorem oL{Z:U}{O:TypeId}{R:dL}{n m:Int}(E:j9 c7)(bM:c7)(a K:Nat)(d:R.a3=[E.enc bM])(ok:E.ok bM)(b:Nat)(c:R.bytes=b)(i:1≤b)(e:n=(a:Int))(f:m=(K:Int))(j:a≤K)(k:b*K≤281474976710656){aF:Addr→U→Prop}
  (g:∀ aB,dS E aB Z.size (List.replicate K bM)→bC Z aB→aF ⟨Z.size,0,none⟩ aB):h5 Z O R n m aF:=by
 subst e;subst f;subst c
 refine⟨⟨by omega,by omega,by omega,?_⟩,g _ ⟨?_,O,?_⟩ ⟨by simp,fun K c=>?_⟩⟩
 ·have:((R.bytes:Int)*(K:Int))=((R.bytes*K:Nat):Int):=by simp
  rw [this];omega
 ·intro N h;rw [List.eq_of_mem_replicate h];exact ok
 ·rw [d,Ao];simp
 ·rw [Array.getElem?_push];rw [if_neg (by omega)]
theorem vN{Z:U}{O:TypeId}{c9:List Value}(E:j9 c7)(L:List c7)(a:c9=L.map E.enc)(b:∀ N ∈ L,E.ok N){aF:Addr→U→Prop}
  (g:∀ aB,dS E aB Z.size L→bC Z aB→aF ⟨Z.size,0,none⟩ aB):dN Z O c9 aF:=by
 subst a
 refine g _ ⟨b,O,?_⟩ ⟨by simp,fun K c=>?_⟩
 ·simp
 ·rw [Array.getElem?_push];rw [if_neg (by omega)]
theorem C3{Z:U}{p:Addr}:∀ {bV:List c7} {R:Nat},(∀ aC N,bV[aC]?=some N→gL Z (p.add (R+aC))=some (E.enc N))→n5 Z p R (bV.map E.enc)
 | [],_,_=>trivial
 | v :: bV,R,g=>by
  refine⟨by have:=g 0 v (by simp);simpa using this,C3 fun aC N a=>?_⟩
  have:=g (aC+1) N (by simpa using a)
  rw [show R+1+aC=R+(aC+1) by omega];exact this
theorem Ap{Z:U}{p:Addr}:∀ {n R:Nat},(∀ aC,aC < n→(∃ v,gL Z (p.add (R+aC))=some v)∧lP Z (p.add (R+aC))=false)→n6 Z p R n
 | 0,_,_=>trivial
 | n+1,R,g=>by
  refine⟨by have:=g 0 (by omega);simpa using this,Ap fun aC a=>?_⟩
  have:=g (aC+1) (by omega)
  rw [show R+1+aC=R+(aC+1) by omega];exact this
theorem Aq{K:Nat}:∀ {bV:List c7} {Z:U} {a3:List c7} {off R:Nat},dS E Z K a3→(∀ N ∈ bV,E.ok N)→off+R+bV.length≤a3.length→
  dS E (jN Z ⟨K,off,none⟩ R (bV.map E.enc)) K (a3.take (off+R) ++ (bV ++ a3.drop (off+R+bV.length)))∧b2 K Z (jN Z ⟨K,off,none⟩ R (bV.map E.enc))
 | [],Z,a3,off,R,aN,_,a=>by
  refine⟨?_,b2.refl _ _⟩
  simp only [List.map_nil,jN,List.length_nil,Nat.add_zero,List.nil_append,List.take_append_drop];exact aN
 | v :: bV,Z,a3,off,R,aN,bP,a=>by
  have O:(⟨K,off,none⟩:Addr).add R=⟨K,off+R,none⟩:=by
   rw [← bZ K off,add_add,bZ]
  simp only [List.length_cons] at a
  have b:=aN.set (off+R) (bP v (by simp))
  obtain⟨c,d⟩:=Aq (bV:=bV) (off:=off) (R:=R+1) b (fun N e=>bP N (by simp [e])) (by rw [List.length_set];omega)
  simp only [List.map_cons,jN,O]
  refine⟨?_,(b2.set _ _ _ _).trans d⟩
  have f:(a3.set (off+R) v).take (off+(R+1)) ++ (bV ++ (a3.set (off+R) v).drop (off+(R+1)+bV.length))=a3.take (off+R) ++ ((v :: bV) ++ a3.drop (off+R+(v :: bV).length)):=by
   rw [show off+(R+1)=off+R+1 by omega]
   rw [List.drop_set_of_lt (by omega),List.take_set,List.take_add_one]
   have:(a3.take (off+R) ++ a3[off+R]?.toList).set (off+R) v=a3.take (off+R) ++ [v]:=by
    rw [List.set_append_right _ _ (by rw [List.length_take];omega)]
    have g:a3[off+R]?=some (a3[off+R]'(by omega)):=by simp
    rw [g]
    have h:off+R - (a3.take (off+R)).length=0:=by rw [List.length_take];omega
    rw [h];rfl
   rw [this]
   simp only [List.length_cons,List.cons_append,List.append_assoc,List.nil_append]
   rw [show off+R+1+bV.length=off+R+(bV.length+1) by omega]
  rw [← f];exact c
theorem cL.Ar{Z:U}{a:M}{c l bG:Nat}{L:List c7}(r:cL E Z a c L)(n:Nat)(f:n≤L.length):u7 Z 1 (.slice a l bG) n ((L.take n).map E.enc):=by
 refine⟨by rw [List.length_map,List.length_take];omega,?_,?_⟩
 ·intro v bP
  obtain⟨N,_,O⟩:=List.mem_map.mp bP
  subst O;exact E.plain N
 ·cases a with
  | none=>
   show(L.take n).map E.enc=[]
   cases L with
   | nil=>simp
   | cons aQ aP=>obtain⟨p,O,_⟩:=r.at_ 0 aQ (by simp);cases O
  | some p=>
   refine C3 fun aC N b=>?_
   rw [Nat.zero_add]
   obtain⟨aE,d,e⟩:=(r.take n).at_ aC N b
   cases d;exact e
theorem Hh{Z:U}{K l bX bG:Nat}{a3 aP:List c7}{a:M}(aN:dS E Z K a3)(r:cL E Z a bG aP)(h:l≤a3.length)(c:bX=aP.length){dA:Nat}{aF:Int→U→Prop}
  (g:∀ aB,dS E aB K (aP.take (min aP.length l) ++ a3.drop (min aP.length l))→b2 K Z aB→aF ((min aP.length l:Nat):Int) aB):mF Z 1 (some ⟨K,0,none⟩) l (.slice a bX dA) aF:=by
 subst c
 have i:Nat.min aP.length l=min aP.length l:=rfl
 refine⟨aP.length,(aP.take (min aP.length l)).map E.enc,rfl,r.Ar _ (by omega),?_⟩
 have b:(aP.take (min aP.length l)).length=min aP.length l:=by rw [List.length_take];omega
 have:=Aq (bV:=aP.take (min aP.length l)) (off:=0) (R:=0) aN (fun N d=>r.ok N (List.mem_of_mem_take d)) (by rw [b];omega)
 refine⟨Ap fun aC e=>?_,?_⟩
 ·rw [List.length_map,b] at e
  rw [Nat.zero_add,bZ]
  obtain⟨aA,f⟩:∃ aA,a3[aC]?=some aA:=⟨a3[aC]'(by omega),by simp⟩
  exact⟨⟨_,aN.cell f⟩,aN.frozen _⟩
 ·refine g _ ?_ this.2
  have aY:=this.1
  rw [b] at aY
  simpa using aY
structure cZ(E:j9 c7)(aV Z:U)(a:M)(c:Nat)(L:List c7):Prop where
 len:L.length≤E.fC
 cap:L.length≤c
 here:(L=[]∧a=none∧c=0)∨∃ K rest,a=some ⟨K,0,none⟩∧aV.size≤K∧dS E Z K (L ++ rest)∧c≤(L ++ rest).length
theorem cZ.nil(aV Z:U):cZ E aV Z none 0 []:=⟨by simp,by simp,Or.inl ⟨rfl,rfl,rfl⟩⟩
theorem cZ.rd{aV Z:U}{a:M}{c:Nat}{L:List c7}(g:cZ E aV Z a c L):cL E Z a c L:=by
 rcases g.here with ⟨b,d,e⟩ | ⟨K,rest,b,_,aN,_⟩
 ·subst b;exact cL.nil _ _ _
 ·subst b;exact aN.rd g.len g.cap
theorem cZ.aS{aV Z aB:U}{a:M}{c:Nat}{L:List c7}(g:cZ E aV Z a c L)(S:bC Z aB):cZ E aV aB a c L:=
 ⟨g.len,g.cap,g.here.imp id fun ⟨K,rest,b,d,aN,e⟩=>⟨K,rest,b,d,aN.aS S,e⟩⟩
theorem cZ.from{aV aY Z:U}{a:M}{c:Nat}{L:List c7}(g:cZ E aY Z a c L)(S:aV.size≤aY.size):cZ E aV Z a c L:=
 ⟨g.len,g.cap,g.here.imp id fun ⟨K,rest,b,d,aN,e⟩=>⟨K,rest,b,Nat.le_trans S d,aN,e⟩⟩
theorem dS.j0{aV Z:U}{K c:Nat}{L rest:List c7}(aN:dS E Z K (L ++ rest))(a:aV.size≤K)(b:L.length≤E.fC)(aY:L.length≤c)(d:c≤(L ++ rest).length):cZ E aV Z (some ⟨K,0,none⟩) c L:=
 ⟨b,aY,Or.inr ⟨K,rest,rfl,a,aN,d⟩⟩
theorem dS.lS{aV Z:U}{K c:Nat}{L:List c7}(aN:dS E Z K L)(a:aV.size≤K)(b:L.length≤E.fC)(d:c=L.length):cZ E aV Z (some ⟨K,0,none⟩) c L:=
 dS.j0 (rest:=[]) (by simpa using aN) a b (by omega) (by simp;omega)
theorem cZ.take{aV Z:U}{a:M}{c:Nat}{L:List c7}(g:cZ E aV Z a c L)(n:Nat):cZ E aV Z a c (L.take n):=by
 have aY:=g.len;have f:=g.cap
 refine⟨by rw [List.length_take];omega,by rw [List.length_take];omega,?_⟩
 rcases g.here with ⟨b,d,e⟩ | ⟨K,rest,b,d,aN,e⟩
 ·subst b;exact Or.inl ⟨by simp,d,e⟩
 ·refine Or.inr ⟨K,L.drop n ++ rest,b,d,?_,?_⟩
  ·rw [← List.append_assoc,List.take_append_drop];exact aN
  ·rw [← List.append_assoc,List.take_append_drop];exact e
structure pB(a:M)(Z aB:U):Prop where
 le:Z.size≤aB.size
 pre:∀ K,K < Z.size→fO K a→aB[K]?=Z[K]?
theorem pB.aS{a:M}{aV Z aB:U}(b:bC aV Z)(S:pB a Z aB)(c:∀ K,K < aV.size→fO K a):bC aV aB:=
 ⟨Nat.le_trans b.le S.le,fun K d=>(S.pre K (Nat.lt_of_lt_of_le d b.le) (c K d)).trans (b.pre K d)⟩
theorem cZ.As{aV Z:U}{a:M}{c:Nat}{L:List c7}(g:cZ E aV Z a c L):∀ K,K < aV.size→fO K a:=by
 intro K f p O
 rcases g.here with ⟨_,b,_⟩ | ⟨d,rest,e,b,_,_⟩
 ·rw [b] at O;cases O
 ·rw [e] at O;cases O;show d ≠ K;omega
theorem pB.refl(a:M)(Z:U):pB a Z Z:=⟨Nat.le_refl _,fun _ _ _=>rfl⟩
theorem Hi{aV Z:U}{O:TypeId}{R:dL}{a bL:M}{l c bG dA n:Nat}{L aP:List c7}(g:cZ E aV Z a c L)(w:aV.size≤Z.size)(r:cL E Z bL bG aP)(x:l=L.length)(y:n=aP.length)(h:R.leaves.length=1)(bM:c7)(z:R.a3=[E.enc bM])(A:E.ok bM)
  (i:Nat) (B:R.bytes=i) (p:1≤i) (q:L.length+aP.length≤E.fC) (j:c < L.length+aP.length→(L.length+aP.length)*i≤140737488355328) {aF:M→Nat→Nat→U→Prop}
  (post:∀ b c8 aB,cZ E aV aB b c8 (L ++ aP)→pB a Z aB→(L.length+aP.length≤c→c8=c∧b=a)→(b=a∨∃ K,b=some ⟨K,0,none⟩∧Z.size≤K)→aF b (L.length+aP.length) c8 aB):hF Z O R a l c (.slice bL n dA) aF:=by
 subst x;subst y;subst B
 have P:=g.cap
 refine⟨aP.length,aP.map E.enc,rfl,?_,?_,?_⟩
 ·rw [h];have:=r.Ar (l:=aP.length) (bG:=dA) aP.length (Nat.le_refl _);rw [List.take_length] at this;exact this
 ·intro d
  rcases g.here with ⟨k,m,e⟩ | ⟨K,rest,k,m,aN,e⟩
  ·subst k;subst m;subst e
   have:aP=[]:=List.length_eq_zero_iff.mp (by simpa using d)
   subst this
   exact post none 0 Z (cZ.nil _ _) (pB.refl _ _) (fun _=>⟨rfl,rfl⟩) (Or.inl rfl)
  ·subst k
   rw [h,Nat.mul_one]
   show n6 Z ((⟨K,0,none⟩:Addr).add L.length) 0 (List.map E.enc aP).length∧aF (some ⟨K,0,none⟩) (L.length+aP.length) c (jN Z ((⟨K,0,none⟩:Addr).add L.length) 0 (List.map E.enc aP))
   rw [bZ]
   have Q:aP.length≤rest.length:=by rw [List.length_append] at e;omega
   have f:=Aq (bV:=aP) (off:=L.length) (R:=0) aN r.ok (by rw [List.length_append];omega)
   refine⟨Ap fun aC C=>?_,?_⟩
   ·rw [List.length_map] at C
    have O:(⟨K,L.length,none⟩:Addr).add (0+aC)=⟨K,L.length+aC,none⟩:=by
     rw [Nat.zero_add,← bZ K L.length,add_add,bZ]
    rw [O]
    obtain⟨aA,D⟩:∃ aA,(L ++ rest)[L.length+aC]?=some aA:=⟨_,List.getElem?_eq_getElem (by rw [List.length_append];omega)⟩
    exact⟨⟨_,aN.cell D⟩,aN.frozen _⟩
   ·have F:(L ++ rest).take (L.length+0) ++ (aP ++ (L ++ rest).drop (L.length+0+aP.length))=(L ++ aP) ++ rest.drop aP.length:=by
     rw [Nat.add_zero,List.take_left,List.drop_append,List.drop_of_length_le (by omega),List.nil_append,List.append_assoc]
     congr 3;omega
    rw [F] at f
    refine post _ _ _ ?_ ⟨f.2.le,fun s t G=>f.2.pre s t (fun O=>G _ rfl O.symm)⟩ (fun _=>⟨rfl,rfl⟩) (Or.inl rfl)
    refine⟨by rw [List.length_append];exact q,by rw [List.length_append];exact d,Or.inr ⟨K,rest.drop aP.length,rfl,m,f.1,?_⟩⟩
    rw [List.length_append] at e
    rw [List.length_append,List.length_append,List.length_drop];omega
 ·intro d
  have u:c < L.length+aP.length:=by omega
  have j:=j u
  refine⟨growslice_fits u j,p,?_,(L.map E.enc),?_,?_⟩
  ·have:(L.length+aP.length)*1≤(L.length+aP.length)*R.bytes:=Nat.mul_le_mul_left _ p
   omega
  ·rw [h];have:=g.rd.Ar (l:=L.length) (bG:=c) L.length (Nat.le_refl _);rw [List.take_length] at this;exact this
  ·intro v H
   refine post _ _ _ ?_ ⟨by simp,fun s t _=>by rw [Array.getElem?_push];rw [if_neg (by omega)]⟩ (fun I=>absurd I d) (Or.inr ⟨_,rfl,Nat.le_refl _⟩)
   have aN:dS E (Z.push (.cells (L.map E.enc ++ (aP.map E.enc ++ hR R.a3 (v - (L.length+aP.length)))).toArray O (0,0))) Z.size ((L ++ aP) ++ List.replicate (v - (L.length+aP.length)) bM):=by
    refine⟨fun N J=>?_,O,?_⟩
    ·rcases List.mem_append.mp J with aY | aY
     ·rcases List.mem_append.mp aY with o | o
      ·exact g.rd.ok N o
      ·exact r.ok N o
     ·rw [List.eq_of_mem_replicate aY];exact A
    ·rw [z,Ao];simp
   exact aN.j0 w (by rw [List.length_append];exact q) (by rw [List.length_append];exact H) (by simp;omega)
theorem C4{aV Z:U}{O:TypeId}{R:dL}{a bL:M}{l c bG dA n:Nat}{L aP:List c7}(g:cZ E aV Z a c L)(b:aV.size≤Z.size)(r:cL E Z bL bG aP)(d:l=L.length)(e:n=aP.length)(f:R.leaves.length=1)(bM:c7)(h:R.a3=[E.enc bM])(i:E.ok bM)
  (j:Nat) (k:R.bytes=j) (m:1≤j) (o:L.length+aP.length≤E.fC) (p:c < L.length+aP.length→(L.length+aP.length)*j≤140737488355328) {aF:M→Nat→Nat→U→Prop}
  (post:∀ q c8 aB,cZ E aV aB q c8 (L ++ aP)→pB a Z aB→(L.length+aP.length≤c→c8=c∧q=a)→aF q (L.length+aP.length) c8 aB):hF Z O R a l c (.slice bL n dA) aF:=
 Hi g b r d e f bM h i j k m o p fun q c8 aB b cV d _=>post q c8 aB b cV d
theorem C5{aV Z:U}{O:TypeId}{R:dL}{a bL:M}{l c bG dA n:Nat}{L aP:List c7}(g:cZ E aV Z a c L)(b:aV.size≤Z.size)(r:cL E Z bL bG aP)(d:l=L.length)(e:n=aP.length)(f:R.leaves.length=1)(bM:c7)(h:R.a3=[E.enc bM])(i:E.ok bM)
  (j:Nat) (k:R.bytes=j) (m:1≤j) (o:L.length+aP.length≤E.fC) (p:c < L.length+aP.length→(L.length+aP.length)*j≤140737488355328) {aF:M→Nat→Nat→U→Prop}
  (post:∀ q c8 aB,cZ E aV aB q c8 (L ++ aP)→pB a Z aB→(L.length+aP.length≤c→c8=c)→aF q (L.length+aP.length) c8 aB):hF Z O R a l c (.slice bL n dA) aF:=
 C4 g b r d e f bM h i j k m o p fun q c8 aB b cV d=>post q c8 aB b cV fun b=>(d b).1
theorem C6{aV Z:U}{O:TypeId}{R:dL}{a:M}{l c n m:Nat}{c9:List Value}{L:List c7}(E:j9 c7)(g:cZ E aV Z a c L)(f:bC aV Z)(aP:List c7)(i:c9=aP.map E.enc)(j:∀ aQ ∈ aP,E.ok aQ)(k:l=L.length)(o:n=aP.length)(p:R.leaves.length=1)(bM:c7)(q:R.a3=[E.enc bM])(s:E.ok bM)
  (b:Nat) (t:R.bytes=b) (u:1≤b) (v:L.length+aP.length≤E.fC) (w:c < L.length+aP.length→(L.length+aP.length)*b≤140737488355328) {aF:M→Nat→Nat→U→Prop}
  (post:∀ d c8 aB,cZ E aV aB d c8 (L ++ aP)→bC aV aB→(L.length+aP.length≤c→c8=c)→aF d (L.length+aP.length) c8 aB):dN Z O c9 fun aE h=>hF h O R a l c (.slice (some aE) n m) aF:=by
 refine vN E aP i j fun h x e=>?_
 have r:=x.qC (c:=aP.length) (by omega) (Nat.le_refl _)
 refine C5 (g.aS e) (Nat.le_trans f.le e.le) r k o p bM q s b t u v w fun d c8 aB y z A=>post d c8 aB y ?_ A
 exact z.aS (f.trans e) g.As
abbrev iI(iJ:Type):=U→U→Value→iJ→Prop
def hJ{iJ:Type}(dW:iI iJ)(aV:U)(aF:Value→U→Prop)(r:iJ):Prop:=∀ v aB,bC aV aB→dW aV aB v r→aF v aB
def At:iI Bool:=fun _ _ v K=>v=.bool K
def Hj{c7:Type}(E:j9 c7):iI (List c7):=fun aV Z v L=>∃ a c,v=.slice a L.length c∧cZ E aV Z a c L
abbrev rY:iI (List Nat):=Hj dT
def s2{c7 iJ:Type}(dW:iI c7)(T:iI iJ):iI (c7 × iJ):=fun aV Z v p=>∃ N aQ,v=.tuple #[N,aQ]∧dW aV Z N p.1∧T aV Z aQ p.2
def hY{c7 iJ a:Type}(dW:iI c7)(T:iI iJ)(dC:iI a):iI (c7 × iJ × a):=fun aV Z v p=>∃ N aQ bM,v=.tuple #[N,aQ,bM]∧dW aV Z N p.1∧T aV Z aQ p.2.1∧dC aV Z bM p.2.2
def Au{c7 iJ a b:Type}(dW:iI c7)(T:iI iJ)(dC:iI a)(V:iI b):iI (c7 × iJ × a × b):=fun aV Z v p=>∃ N aQ bM aA,v=.tuple #[N,aQ,bM,aA]∧dW aV Z N p.1∧T aV Z aQ p.2.1∧dC aV Z bM p.2.2.1∧V aV Z aA p.2.2.2
def jG(a K:M):Prop:=∀ p aE,a=some p→K=some aE→p.block ≠ aE.block
def fI{c7 iJ:Type}(N:c7)(f:c7→iJ):iJ:=f N
section
variable {iJ:Type} {dW:iI iJ} {aV:U} {aF:Value→U→Prop}
theorem vO{K:Bool}{a1 bH:iJ}{a bA:Prop}(g:hJ dW aV aF (bif K then a1 else bH))(b:K=true→hJ dW aV aF a1→a)(c:K=false→hJ dW aV aF bH→bA):cond K a bA:=by
 cases K
 ·exact c rfl g
 ·exact b rfl g
theorem C7{K:Bool}{a1 bH:iJ}{a bA:Prop}(g:hJ dW aV aF (bif !K then a1 else bH))(b:K=false→hJ dW aV aF a1→a)(c:K=true→hJ dW aV aF bH→bA):cond (!K) a bA:=by
 cases K
 ·exact b rfl g
 ·exact c rfl g
theorem vP{p:Prop}[Decidable p]{a1 bH:iJ}{a bA:Prop}(g:hJ dW aV aF (bif decide p then a1 else bH))(b:p→hJ dW aV aF a1→a)(c:¬p→hJ dW aV aF bH→bA):cond (decide p) a bA:=by
 by_cases Z:p
 ·simp only [Z,decide_true,cond_true] at g ⊢;exact b Z g
 ·simp only [Z,decide_false,cond_false] at g ⊢;exact c Z g
theorem Av{N aQ:Int}{a1 bH:iJ}{a bA:Prop}(g:hJ dW aV aF (bif N == aQ then a1 else bH))(b:N=aQ→hJ dW aV aF a1→a)(c:N ≠ aQ→hJ dW aV aF bH→bA):cond (N == aQ) a bA:=by
 by_cases Z:N=aQ
 ·simp only [Z,beq_self_eq_true,cond_true] at g ⊢;exact b Z g
 ·simp only [beq_eq_false_iff_ne.mpr Z,cond_false] at g ⊢;exact c Z g
end
def In(S:IntKind)(N:Int):Prop:=S.min≤N∧N≤S.max
theorem qD{N:Int}:In .i64 N↔(-9223372036854775808≤N∧N < 9223372036854775808):=by
 unfold In;simp only [IntKind.min,IntKind.max,IntKind.bits,IntKind.signed,if_true]
 omega
theorem Aw{N:Int}:In .u64 N↔(0≤N∧N < 18446744073709551616):=by
 unfold In;simp only [IntKind.min,IntKind.max,IntKind.bits,IntKind.signed,Bool.false_eq_true,if_false]
 omega
theorem cZ.eH{aV Z:U}{a:M}{c:Nat}{L:List Nat}(g:cZ dT aV Z a c L):cD Z a c L:=g.rd.vM
theorem Own.Ax{Z:U}{K:Nat}{L:List Nat}(aN:Own Z K L):dS dT Z K L:=⟨aN.words,aN.at_⟩
theorem Own.j0{aV Z:U}{K c:Nat}{L rest:List Nat}(aN:Own Z K (L ++ rest))(a:aV.size≤K)(aY:L.length≤c)(b:c≤(L ++ rest).length):cZ dT aV Z (some ⟨K,0,none⟩) c L:=
 aN.Ax.j0 a (by have:=aN.len;rw [List.length_append] at this;show _≤35184372088828;omega) aY b
theorem Own.lS{aV Z:U}{K c:Nat}{L:List Nat}(aN:Own Z K L)(a:aV.size≤K)(b:c=L.length):cZ dT aV Z (some ⟨K,0,none⟩) c L:=
 Own.j0 (rest:=[]) (by simpa using aN) a (by omega) (by simp;omega)
def split(L:List Nat):List Nat:=L.flatMap fun aA=>[aA % 4294967296,aA / 4294967296]
theorem Hk(a1 S:Nat):(D.aL a1).length≤2*S↔(aL a1).length≤S:=by
 rw [D.gE,gE,show 32*(2*S)=64*S by omega]
theorem rZ(a1:Nat):(D.aL a1).length≤16384↔(aL a1).length≤8192:=Hk a1 8192
theorem Ay{a1 S:Nat}:(D.aL a1).length≤S↔a1 < 2 ^ (32*S):=D.gE
def join:List Nat→List Nat
 | []=>[]
 | [a]=>[a]
 | a :: K :: l=>(a+K*4294967296) :: join l
theorem C8:∀ (l:List Nat),val (join l)=D.val l
 | []=>rfl
 | [a]=>by simp [join,val,D.val]
 | a :: K :: l=>by
  simp only [join,val,D.val]
  rw [C8 l];omega
theorem C9:∀ {l:List Nat},D.Words l→Words (join l)
 | [],_=>by intro N b;cases b
 | [a],Z=>by intro N b;have:=Z a (by simp);simp [join] at b;omega
 | a :: K :: l,Z=>by
  intro N b
  have aY:=Z a (by simp);have d:=Z K (by simp)
  rcases List.mem_cons.mp b with O | O
  ·subst O;omega
  ·exact C9 (fun aQ c=>Z aQ (by simp [c])) N O
theorem Da:∀ {l:List Nat},dI l=l→dI (join l)=join l
 | [],_=>rfl
 | [a],Z=>by
  simp only [join]
  exact Z
 | a :: K :: l,Z=>by
  have aY:=x2 Z
  have b:=x2 aY
  have bO:=Da b
  simp only [join,dI,bO]
  rw [if_neg]
  rintro⟨g,d⟩
  have e:l=[]:=by
   cases l with
   | nil=>rfl
   | cons c l=>cases l <;> simp [join] at d
  subst e
  have f:K=0:=by omega
  subst f
  simp [dI] at aY
theorem Hl(a1:Nat):join (D.aL a1)=aL a1:=by
 have aY:=C8 (D.aL a1)
 rw [D.eV] at aY
 have a:=k8 (C9 (D.oH a1))
 rw [Da (D.o9 a1),aY] at a
 exact a.symm
theorem Az:∀ (l:List Nat),(join l).length=(l.length+1) / 2
 | []=>rfl
 | [a]=>by simp [join]
 | a :: K :: l=>by simp only [join,List.length_cons,Az l];omega
theorem Db:∀ {l:List Nat} {a K:Nat},l.length % 2=0→join (l ++ [a,K])=join l ++ [a+K*4294967296]
 | [],_,_,_=>rfl
 | [_],_,_,Z=>by simp at Z
 | N :: aQ :: l,a,K,Z=>by
  simp only [List.cons_append,join]
  rw [Db (by simp at Z;omega)]
theorem Dc:∀ {l:List Nat} {a:Nat},l.length % 2=0→join (l ++ [a])=join l ++ [a]
 | [],_,_=>rfl
 | [_],_,Z=>by simp at Z
 | N :: aQ :: l,a,Z=>by
  simp only [List.cons_append,join]
  rw [Dc (by simp at Z;omega)]
theorem D.Dd{a3:List Nat}{R t c8 aI a b c:Nat}(d:a3.length=R)(e:b=aI+4294967296*c)(Z:aI+a=t+4294967296*c8):D.val (a3 ++ [t])+(c+c8)*2 ^ (32*(R+1))=D.val a3+(b+a)*2 ^ (32*R):=by
 rw [D.hI,d,D.jQ]
 have O:b+a=t+4294967296*(c+c8):=by omega
 rw [O]
 generalize 2 ^ (32*R)=P
 simp only [D.val,Nat.mul_zero,Nat.add_zero]
 rw [Nat.add_mul t,Nat.mul_left_comm,Nat.mul_comm P t,Nat.mul_assoc 4294967296]
 omega
def mZ(S:IntKind):iI Int:=fun _ _ v n=>v=.int S n∧In S n
def gA:iI Nat:=fun aV Z v a1=>∃ a c,v=.slice a (D.aL a1).length c∧cZ b7 aV Z a c (D.aL a1)
def gD:iI (Bool × Nat):=fun aV Z v p=>∃ a c,v=.agg #[.bool p.1,.slice a (D.aL p.2).length c]∧cZ b7 aV Z a c (D.aL p.2)
theorem mI{bA:Nat}(a:0 < bA){L:List Nat}(b:∀ N ∈ L,N < bA)(R:Nat):L.getD R 0 < bA:=by
 by_cases a5:R < L.length
 ·have O:L.getD R 0=L[R]:=by simp [List.getD,a5]
  rw [O];exact b _ (List.getElem_mem a5)
 ·have O:L.getD R 0=0:=by simp [List.getD,Nat.le_of_not_lt a5]
  rw [O];exact a
theorem cL.kK{Z:U}{a:M}{c:Nat}{L:List Nat}(r:cL b7 Z a c L)(aC:Nat):L.getD aC 0 < 4294967296:=mI (by decide) r.ok aC
theorem cL.mJ{Z:U}{a:M}{c:Nat}{L:List Nat}(r:cL b7 Z a c L):L.length≤70368744177656:=r.len
instance (S:IntKind) (N:Int):Decidable (In S N):=inferInstanceAs (Decidable (_∧_))
abbrev eT:iI (List Nat × Int):=s2 rY (mZ .i64)
abbrev tN:iI (List Nat):=rY
section
variable {aV Z:U} {v:Value} {p:List Nat × Int} {L:List Nat}
theorem eT.hZ{aF:M→Nat→Nat→Int→Prop}(a:eT aV Z v p)(g:∀ a c,cZ dT aV Z a c p.1→In .i64 p.2→aF a p.1.length c p.2):
  c1 v fun aQ=>cW aQ fun b eO=>aU b fun a l c=>cW eO fun d e=>aW .i64 d fun N=>b6 e (aF a l c N):=by
 obtain⟨N,aQ,O,⟨a,c,f,r⟩,h,R⟩:=a
 subst O;subst f;subst h;exact g a c r R
theorem eT.elim{aF:M→Nat→Nat→Int→Prop}(a:eT aV Z v p)(g:∀ a c,cD Z a c p.1→aF a p.1.length c p.2):
  c1 v fun aQ=>cW aQ fun b eO=>aU b fun a l c=>cW eO fun b d=>aW .i64 b fun N=>b6 d (aF a l c N):=
 a.hZ fun a c r _=>g a c r.eH
theorem eT.back{a:M}{c:Nat}(r:cZ dT aV Z a c p.1)(R:In .i64 p.2):eT aV Z (.tuple #[.slice a p.1.length c,.int .i64 p.2]) p:=
 ⟨_,_,rfl,⟨a,c,rfl,r⟩,rfl,R⟩
theorem eT.mk{a:M}{c l:Nat}{N:Int}(b:l=p.1.length)(d:N=p.2)(r:cZ dT aV Z a c p.1)(R:In .i64 p.2):eT aV Z (.tuple #[.slice a l c,.int .i64 N]) p:=by
 subst b;subst d;exact eT.back r R
theorem eT.none{N:Int}(R:In .i64 N:=by decide):eT aV Z (.tuple #[.slice Option.none 0 0,.int .i64 N]) ([],N):=⟨_,_,rfl,⟨Option.none,0,rfl,cZ.nil _ _⟩,rfl,R⟩
theorem tN.hZ{aF:M→Nat→Nat→Prop}(a:tN aV Z v L)(g:∀ a c,cZ dT aV Z a c L→aF a L.length c):aU v aF:=by
 obtain⟨a,c,O,r⟩:=a
 subst O;exact g a c r
end
theorem e6.j0{aV Z:U}{K:Nat}{L:List Nat}(aN:e6 Z K L)(a:aV.size≤K):cZ dT aV Z (some ⟨K,0,none⟩) L.length L:=by
 obtain⟨rest,aN⟩:=aN
 exact aN.j0 a (Nat.le_refl _) (by simp)
theorem cZ.trim{aV Z:U}{a:M}{c:Nat}{L:List Nat}{E:j9 Nat}(g:cZ E aV Z a c L):cZ E aV Z a c (dI L):=by
 have O:L.take (dI L).length=dI L:=by
  clear g
  induction L with
  | nil=>rfl
  | cons N L bO=>
   simp only [dI]
   split
   ·rfl
   ·simp [bO]
 have:=g.take (dI L).length
 rw [O] at this;exact this
theorem gA.elim{aV Z:U}{v:Value}{a1:Nat}{aF:M→Nat→Nat→Prop}(aI:gA aV Z v a1)(g:∀ a c,cZ b7 aV Z a c (D.aL a1)→aF a (D.aL a1).length c):aU v aF:=by
 obtain⟨a,c,O,r⟩:=aI
 subst O;exact g a c r
structure dU(Z:U)(K:Nat)(bV:List Value):Prop where
 at_:∃ O,Z[K]?=some (.cells bV.toArray O (0,0))
theorem dU.lt{Z:U}{K:Nat}{bV:List Value}(aN:dU Z K bV):K < Z.size:=by
 obtain⟨O,g⟩:=aN.at_;exact(Array.getElem?_eq_some_iff.mp g).1
theorem dU.aS{Z aB:U}{K:Nat}{bV:List Value}(aN:dU Z K bV)(S:bC Z aB):dU aB K bV:=by
 obtain⟨O,g⟩:=aN.at_;exact⟨O,by rw [S.pre K aN.lt];exact g⟩
theorem dU.cG{aE:Nat}{Z aB:U}{K:Nat}{bV:List Value}(aN:dU Z K bV)(a:K ≠ aE)(S:b2 aE Z aB):dU aB K bV:=by
 obtain⟨O,g⟩:=aN.at_;exact⟨O,by rw [S.pre K aN.lt a];exact g⟩
theorem eX{Z:U}{O:TypeId}{c9:List Value}{aF:Addr→U→Prop}(g:∀ aB,dU aB Z.size c9→bC Z aB→aF ⟨Z.size,0,none⟩ aB):dN Z O c9 aF:=
 g _ ⟨O,by simp⟩ ⟨by simp,fun K a=>by rw [Array.getElem?_push];rw [if_neg (by omega)]⟩
theorem lT{Z:U}{K:Nat}{bV:List Value}(aN:dU Z K bV){S:Nat}{v:Value}(a:bV[S]?=some v){aF:Value→Prop}(g:aF v):fB Z ((⟨K,0,none⟩:Addr).add S) aF:=by
 obtain⟨O,at_⟩:=aN.at_
 unfold fB
 have:gL Z ((⟨K,0,none⟩:Addr).add S)=some v:=by
  rw [bZ];unfold gL
  simp only [at_,Option.isSome_none,Bool.false_eq_true,if_false]
  simpa using a
 rw [this];exact g
theorem nJ{Z:U}{K:Nat}{bV:List Value}(aN:dU Z K bV){v:Value}(a:bV[0]?=some v){aF:Value→Prop}(g:aF v):fB Z (⟨K,0,none⟩:Addr) aF:=by
 have:=lT (S:=0) aN a g
 rw [bZ] at this;exact this
theorem jR{Z:U}{K:Nat}{bV:List Value}(aN:dU Z K bV){S:Nat}{v:Value}(a:S < bV.length){aF:U→Prop}(g:∀ aB,dU aB K (bV.set S v)→b2 K Z aB→aF aB):b3 Z ((⟨K,0,none⟩:Addr).add S) v aF:=by
 obtain⟨O,at_⟩:=aN.at_
 rw [bZ]
 refine⟨⟨⟨bV[S],?_⟩,?_⟩,g _ ⟨O,?_⟩ (b2.set _ _ _ _)⟩
 ·unfold gL
  simp only [at_,Option.isSome_none,Bool.false_eq_true,if_false]
  simp [a]
 ·unfold lP;simp [at_]
 ·unfold gB
  rw [Array.getElem?_modify]
  simp only [if_true,at_,Option.map_some]
  simp
theorem AA{Z:U}{K:Nat}{bV:List Value}(aN:dU Z K bV){v:Value}(a:0 < bV.length){aF:U→Prop}(g:∀ aB,dU aB K (bV.set 0 v)→b2 K Z aB→aF aB):b3 Z (⟨K,0,none⟩:Addr) v aF:=by
 have:=jR (S:=0) aN a g
 rw [bZ] at this;exact this
theorem dU.x6{Z:U}{K:Nat}{bV:List Value}(aN:dU Z K bV)(S:Nat):((⟨K,0,none⟩:Addr).add S).block < Z.size:=by
 rw [p8];exact aN.lt
theorem bC.fL{a K:U}{n:Nat}(S:bC a K)(b:n≤a.size):eN n a K:=fun R a5=>S.pre R (Nat.lt_of_lt_of_le a5 b)
theorem cZ.cG{c7:Type}{E:j9 c7}{aE:Nat}{aY Z aB:U}{a:M}{c:Nat}{L:List c7}(g:cZ E aY Z a c L)(b:aE < aY.size)(S:b2 aE Z aB):cZ E aY aB a c L:=
 ⟨g.len,g.cap,g.here.imp id fun ⟨K,rest,b,d,aN,e⟩=>⟨K,rest,b,d,aN.cG (by omega) S,e⟩⟩
def fT(bQ a5:Nat)(Z:U)(aI:oK)(L:List Nat):Prop:=
 aI.2.1=L.length∧L.length≤aI.2.2∧L.length≤35184372088828∧((L=[]∧aI.1=none∧aI.2.2=0)∨∃ K rest,aI.1=some ⟨K,0,none⟩∧bQ≤K∧K < a5∧dS dT Z K (L ++ rest)∧aI.2.2≤(L ++ rest).length)
theorem fT.nil(bQ a5:Nat)(Z:U):fT bQ a5 Z (none,0,0) []:=⟨rfl,by simp,by simp,Or.inl ⟨rfl,rfl,rfl⟩⟩
theorem fT.oM{aV Z:U}{a:M}{c l:Nat}{L:List Nat}(g:cZ dT aV Z a c L)(b:l=L.length){bQ a5:Nat}(aY:bQ≤aV.size)(d:Z.size≤a5):fT bQ a5 Z (a,l,c) L:=by
 subst b
 refine⟨rfl,g.cap,g.len,g.here.imp id ?_⟩
 rintro⟨K,rest,e,f,aN,h⟩
 exact⟨K,rest,e,Nat.le_trans aY f,Nat.lt_of_lt_of_le aN.lt d,aN,h⟩
theorem fT.rd{bQ a5:Nat}{Z:U}{aI:oK}{L:List Nat}(aN:fT bQ a5 Z aI L):cD Z aI.1 aI.2.2 L:=by
 obtain⟨aY,b,c,d⟩:=aN
 rcases d with ⟨a,e,f⟩ | ⟨K,rest,a,_,_,aN,_⟩
 ·subst a;exact cD.nil _ _ _
 ·rw [a];exact(aN.rd c b).vM
theorem fT.aS{bQ a5:Nat}{Z aB:U}{aI:oK}{L:List Nat}(aN:fT bQ a5 Z aI L)(S:bC Z aB):fT bQ a5 aB aI L:=
 ⟨aN.1,aN.2.1,aN.2.2.1,aN.2.2.2.imp id fun ⟨K,rest,a,b,c,aA,d⟩=>⟨K,rest,a,b,c,aA.aS S,d⟩⟩
theorem fT.wide{bQ a5 a b:Nat}{Z:U}{aI:oK}{L:List Nat}(aN:fT bQ a5 Z aI L)(aY:a≤bQ)(c:a5≤b):fT a b Z aI L:=
 ⟨aN.1,aN.2.1,aN.2.2.1,aN.2.2.2.imp id fun ⟨K,rest,a,b,d,aA,e⟩=>⟨K,rest,a,Nat.le_trans aY b,Nat.lt_of_lt_of_le d c,aA,e⟩⟩
theorem fT.block{bQ a5:Nat}{Z:U}{aI:oK}{L:List Nat}(aN:fT bQ a5 Z aI L):∀ p,aI.1=some p→bQ≤p.block∧p.block < a5:=by
 intro p a
 rcases aN.2.2.2 with ⟨_,O,_⟩ | ⟨K,rest,b,c,d,_,_⟩
 ·rw [O] at a;cases a
 ·rw [b] at a;cases a;exact⟨c,d⟩
structure x7(bQ a5:Nat)(Z:U)(bI:List oK)(De:List (List Nat)):Prop where
 len:bI.length=De.length
 at_:∀ (R:Nat) aI L,bI[R]?=some aI→De[R]?=some L→fT bQ a5 Z aI L
 two:∀ (R aC:Nat) (aI t:oK) (p aE:Addr),bI[R]?=some aI→bI[aC]?=some t→aI.1=some p→t.1=some aE→p.block=aE.block→R=aC
theorem x7.pair{bQ a5 S:Nat}{Z:U}{aI t:oK}{L aP:List Nat}(aY:bQ≤S)(e:S≤a5)(aN:(fT bQ S Z aI L∧fT S a5 Z t aP)∨(fT S a5 Z aI L∧fT bQ S Z t aP)):x7 bQ a5 Z [aI,t] [L,aP]:=by
 have ne:∀ p aE,aI.1=some p→t.1=some aE→p.block ≠ aE.block:=fun p aE b c=>by
  rcases aN with ⟨a,K⟩ | ⟨a,K⟩
  ·have:=a.block p b;have:=K.block aE c;omega
  ·have:=a.block p b;have:=K.block aE c;omega
 have os:fT bQ a5 Z aI L:=by rcases aN with ⟨a,K⟩ | ⟨a,K⟩ <;> exact a.wide (by omega) (by omega)
 have d:fT bQ a5 Z t aP:=by rcases aN with ⟨a,K⟩ | ⟨a,K⟩ <;> exact K.wide (by omega) (by omega)
 refine⟨rfl,fun R aA f b c=>?_,fun R aC a K p aE b c f1 f2 O=>?_⟩
 ·match R with
  | 0=>simp at b c;subst b;subst c;exact os
  | 1=>simp at b c;subst b;subst c;exact d
  | R+2=>simp at b
 ·match R,aC with
  | 0,0 | 1,1=>rfl
  | 0,1=>simp at b c;subst b;subst c;exact absurd O (ne _ _ f1 f2)
  | 1,0=>simp at b c;subst b;subst c;exact absurd O.symm (ne _ _ f2 f1)
  | R+2,_=>simp at b
  | _,aC+2=>simp at c
theorem fT.j0{bQ a5:Nat}{aV Z:U}{aI:oK}{L:List Nat}(aN:fT bQ a5 Z aI L)(a:aV.size≤bQ):cZ dT aV Z aI.1 aI.2.2 L:=
 ⟨aN.2.2.1,aN.2.1,aN.2.2.2.imp id fun ⟨K,rest,b,c,_,aA,d⟩=>⟨K,rest,b,Nat.le_trans a c,aA,d⟩⟩
theorem fS{Z:U}{K:Nat}{bV:List Value}(aN:dU Z K bV){S:Nat}{t:IntKind}{N:Int}(a:bV[S]?=some (.int t N)){aF:Int→Prop}(g:aF N):fB Z ((⟨K,0,none⟩:Addr).add S) fun v=>aW t v aF:=lT aN a (bR rfl g)
theorem oN{Z:U}{K:Nat}{bV:List Value}(aN:dU Z K bV){S:Nat}{a:M}{l c:Nat}(b:bV[S]?=some (.slice a l c)){aF:M→Nat→Nat→Prop}(g:aF a l c):fB Z ((⟨K,0,none⟩:Addr).add S) fun v=>aU v aF:=lT aN b (bD rfl g)
def tO:Value→Bool
 | .int .u64 _ | .int .u32 _ | .int .u8 _=>true
 | _=>false
structure m0(Z aB:U):Prop where
 le:Z.size≤aB.size
 cell:∀ aE v,tO v=true→gL Z aE=some v→gL aB aE=some v
 AB:∀ (K:Nat) (c9:Array Value) (O:TypeId) (f:Nat × Nat),Z[K]?=some (Obj.cells c9 O f)→(∀ v ∈ c9,tO v=true)→aB[K]?=Z[K]?
theorem m0.trans{a K c:U}(N:m0 a K)(aQ:m0 K c):m0 a c:=
 ⟨Nat.le_trans N.le aQ.le,fun _ _ aA O=>aQ.cell _ _ aA (N.cell _ _ aA O),fun S _ _ _ b d=>by
  have aY:=N.AB S _ _ _ b d
  rw [← aY,aQ.AB S _ _ _ (aY.trans b) d]⟩
theorem bC.cP{Z aB:U}(S:bC Z aB):m0 Z aB:=
 ⟨S.le,fun _ _ _ O=>S.cell O,fun K _ _ _ a _=>S.pre K (Array.getElem?_eq_some_iff.mp a).1⟩
class tP (E:j9 Nat):Prop where
 word:∀ N,tO (E.enc N)=true
instance:tP dT:=⟨fun _=>rfl⟩
instance:tP b7:=⟨fun _=>rfl⟩
instance:tP C0:=⟨fun _=>rfl⟩
theorem cL.cP{E:j9 Nat}[bK:tP E]{Z aB:U}{a:M}{c:Nat}{L:List Nat}(r:cL E Z a c L)(m:m0 Z aB):cL E aB a c L:=
 ⟨r.len,r.cap,r.ok,fun R N a5=>let ⟨p,O,g⟩:=r.at_ R N a5;⟨p,O,m.cell _ _ (bK.word N) g⟩⟩
theorem dS.cP{E:j9 Nat}[bK:tP E]{Z aB:U}{K:Nat}{a3:List Nat}(aN:dS E Z K a3)(m:m0 Z aB):dS E aB K a3:=by
 obtain⟨O,g⟩:=aN.at_
 refine⟨aN.ok,O,?_⟩
 rw [m.AB K _ _ _ g (fun v bP=>?_)]
 ·exact g
 ·simp only [List.mem_toArray,List.mem_map] at bP
  obtain⟨N,_,O⟩:=bP
  subst O;exact bK.word N
theorem cZ.cP{E:j9 Nat}[tP E]{aV Z aB:U}{a:M}{c:Nat}{L:List Nat}(g:cZ E aV Z a c L)(m:m0 Z aB):cZ E aV aB a c L:=
 ⟨g.len,g.cap,g.here.imp id fun ⟨K,rest,b,d,aN,e⟩=>⟨K,rest,b,d,aN.cP m,e⟩⟩
theorem Hm{Z:U}{K:Nat}{bV:List Value}(aN:dU Z K bV){S:Nat}{v:Value}(a:(bV[S]?.map tO)=some false){aF:U→Prop}(g:∀ aB,dU aB K (bV.set S v)→b2 K Z aB→m0 Z aB→aF aB):b3 Z ((⟨K,0,none⟩:Addr).add S) v aF:=by
 have d:S < bV.length:=by
  rcases Nat.lt_or_ge S bV.length with aY | aY
  ·exact aY
  ·rw [List.getElem?_eq_none aY] at a;cases a
 rw [List.getElem?_eq_getElem d] at a
 have a:tO bV[S]=false:=by simpa using a
 obtain⟨O,at_⟩:=aN.at_
 rw [bZ]
 have c:b2 K Z (gB Z ⟨K,S,none⟩ v):=b2.set _ _ _ _
 have h:(gB Z ⟨K,S,none⟩ v)[K]?=some (.cells (bV.set S v).toArray O (0,0)):=by
  unfold gB
  rw [Array.getElem?_modify]
  simp only [if_true,at_,Option.map_some]
  simp
 refine⟨⟨⟨bV[S],?_⟩,?_⟩,g _ ⟨O,h⟩ c ⟨c.le,?_,?_⟩⟩
 ·unfold gL
  simp only [at_,Option.isSome_none,Bool.false_eq_true,if_false]
  simp [d]
 ·unfold lP;simp [at_]
 ·intro aE cU aA eq
  by_cases b:aE.block=K
  ·have l:=eq
   unfold gL at eq ⊢
   rw [b] at eq ⊢
   rw [at_] at eq;rw [h]
   simp only at eq ⊢
   split at eq
   ·cases eq
   ·rename_i bI
    rw [if_neg bI]
    simp only [List.getElem?_toArray] at eq ⊢
    by_cases i:aE.off=S
    ·rw [i,List.getElem?_eq_getElem d] at eq
     cases eq;rw [a] at aA;cases aA
    ·rw [List.getElem?_set_ne (fun O=>i O.symm)];exact eq
  ·rw [rS (c.pre _ (vK eq) b)];exact eq
 ·intro j c9 m f e k
  by_cases b:j=K
  ·exfalso
   rw [b,at_] at e
   cases e
   have:=k bV[S] (by simp)
   rw [a] at this;cases this
  ·exact c.pre _ (Array.getElem?_eq_some_iff.mp e).1 b
theorem c5{Z:U}{K S:Nat}{aE:Addr}{bV:List Value}{v:Value}(aN:dU Z K bV)(O:aE=⟨K,S,none⟩)(a:bV[S]?=some v){aF:Value→Prop}(g:aF v):fB Z aE aF:=by
 subst O
 have:=lT (S:=S) aN a g
 rw [bZ] at this;exact this
theorem eQ{Z:U}{K S:Nat}{aE:Addr}{bV:List Value}{v:Value}(aN:dU Z K bV)(O:aE=⟨K,S,none⟩)(a:(bV[S]?.map tO)=some false){aF:U→Prop}(g:∀ aB,dU aB K (bV.set S v)→b2 K Z aB→m0 Z aB→aF aB):b3 Z aE v aF:=by
 subst O
 have:=Hm (S:=S) (v:=v) aN a g
 rw [bZ] at this;exact this
theorem h0{aE:Addr}{K S n:Nat}(O:aE=⟨K,S,none⟩)(Z:K < n):aE.block < n:=by subst O;exact Z
theorem m0.lt{Z aB:U}{K:Nat}(m:m0 Z aB)(l:K < Z.size):K < aB.size:=Nat.lt_of_lt_of_le l m.le
theorem fW{c7 iJ:Type}{dW:iI iJ}{aV:U}{Y:Value→U→Prop}{N p:c7}{f:c7→iJ}(O:p=N)(g:hJ dW aV Y (fI N f)):hJ dW aV Y (f p):=by subst O;exact g
end Go.Gv
