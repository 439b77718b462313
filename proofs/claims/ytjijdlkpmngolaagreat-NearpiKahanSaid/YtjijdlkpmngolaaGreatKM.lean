import Derived.Test.YtjijdlkpmngolaaGreatKA
namespace Go.Gv
theorem wrap_i64{N:Int}(aY:-9223372036854775808≤N)(d:N < 9223372036854775808):IntKind.i64.wrap N=N:=by
 have b:(2:Int) ^ 64=18446744073709551616:=by decide
 have c:(2:Int) ^ (64 - 1)=9223372036854775808:=by decide
 simp only [IntKind.wrap,IntKind.bits,IntKind.signed,Bool.true_and,b,c]
 by_cases a:N % 18446744073709551616≥9223372036854775808
 ·rw [if_pos (by simpa using a)];omega
 ·rw [if_neg (by simpa using a)];omega
theorem wrap_u64(N:Int):IntKind.u64.wrap N=N % 18446744073709551616:=by
 simp [IntKind.wrap,IntKind.bits,IntKind.signed]
theorem AF{N:Int}(aY:0≤N)(a:N < 18446744073709551616):IntKind.u64.wrap N=N:=by
 rw [wrap_u64];omega
structure bC(Z aB:U):Prop where
 le:Z.size≤aB.size
 pre:eN Z.size Z aB
theorem bC.refl(Z:U):bC Z Z:=⟨Nat.le_refl _,fun _ _=>rfl⟩
theorem bC.trans{a K c:U}(N:bC a K)(aQ:bC K c):bC a c:=
 ⟨Nat.le_trans N.le aQ.le,fun R a5=>(aQ.pre R (Nat.lt_of_lt_of_le a5 N.le)).trans (N.pre R a5)⟩
theorem vK{Z:U}{aE:Addr}{v:Value}(O:gL Z aE=some v):aE.block < Z.size:=by
 unfold gL at O
 split at O
 ·next aY=>exact(Array.getElem?_eq_some_iff.mp aY).1
 ·cases O
theorem bC.cell{Z aB:U}(S:bC Z aB){aE:Addr}{v:Value}(O:gL Z aE=some v):gL aB aE=some v:=by
 rw [rS (S.pre _ (vK O))];exact O
theorem add_add(p:Addr)(R aC:Nat):(p.add R).add aC=p.add (R+aC):=by
 unfold Addr.add
 by_cases a5:R=0 <;> by_cases a:aC=0 <;> simp [a5,a,Nat.add_assoc]
theorem bZ(K R:Nat):(⟨K,0,none⟩:Addr).add R=⟨K,R,none⟩:=by
 unfold Addr.add
 by_cases a5:R=0 <;> simp [a5]
abbrev hL(N:Nat):Value:=.int .u64 (N:Int)
structure cD(Z:U)(a:M)(c:Nat)(L:List Nat):Prop where
 len:L.length≤35184372088828
 cap:L.length≤c
 words:∀ N ∈ L,N < 18446744073709551616
 at_:∀ R,R < L.length→∃ p,a=some p∧gL Z (p.add R)=some (hL (L.getD R 0))
theorem cD.aS{Z aB:U}{a:M}{c:Nat}{L:List Nat}(r:cD Z a c L)(S:bC Z aB):cD aB a c L:=
 ⟨r.len,r.cap,r.words,fun R a5=>let ⟨p,O,g⟩:=r.at_ R a5;⟨p,O,S.cell g⟩⟩
theorem cD.nil(Z:U)(a:M)(c:Nat):cD Z a c []:=⟨by simp,by simp,by simp,fun R a5=>absurd a5 (by simp)⟩
theorem xZ{L:List Nat}(a:∀ N ∈ L,N < 18446744073709551616)(R:Nat):L.getD R 0 < 18446744073709551616:=by
 by_cases a5:R < L.length
 ·have O:L.getD R 0=L[R]:=by simp [List.getD,a5]
  rw [O];exact a _ (List.getElem_mem a5)
 ·have O:L.getD R 0=0:=by simp [List.getD,Nat.le_of_not_lt a5]
  rw [O];decide
theorem cD.word{Z:U}{a:M}{c:Nat}{L:List Nat}(r:cD Z a c L)(R:Nat):L.getD R 0 < 18446744073709551616:=xZ r.words R
theorem cD.take{Z:U}{a:M}{c:Nat}{L:List Nat}(r:cD Z a c L)(n:Nat):cD Z a c (L.take n):=by
 refine⟨?_,?_,fun N b=>r.words N (List.mem_of_mem_take b),fun R a5=>?_⟩
 ·have:=r.len;rw [List.length_take];omega
 ·have:=r.cap;rw [List.length_take];omega
 ·rw [List.length_take] at a5
  obtain⟨p,O,g⟩:=r.at_ R (by omega)
  refine⟨p,O,?_⟩
  have d:(L.take n).getD R 0=L.getD R 0:=by
   simp only [List.getD,List.getElem?_take]
   rw [if_pos (by omega)]
  rw [d];exact g
theorem cD.qR{Z:U}{a:M}{c c8:Nat}{L:List Nat}(r:cD Z a c L)(b:L.length≤c8):cD Z a c8 L:=⟨r.len,b,r.words,r.at_⟩
theorem cD.drop{Z:U}{a:M}{c:Nat}{L:List Nat}(r:cD Z a c L)(n:Nat)(e:n≤L.length):cD Z (iP a c n 1) (c - n) (L.drop n):=by
 have aY:=r.len;have f:=r.cap
 refine⟨?_,?_,fun N b=>r.words N (List.mem_of_mem_drop b),fun R a5=>?_⟩
 ·rw [List.length_drop];omega
 ·rw [List.length_drop];omega
 ·rw [List.length_drop] at a5
  obtain⟨p,O,g⟩:=r.at_ (n+R) (by omega)
  have d:(L.drop n).getD R 0=L.getD (n+R) 0:=by simp only [List.getD,List.getElem?_drop]
  refine⟨p.add n,?_,by rw [add_add,d];exact g⟩
  rw [O];unfold iP
  rw [if_neg (by omega)];simp
theorem fP{Z:U}{a:M}{c l:Nat}{L:List Nat}(r:cD Z a c L){R:Int}{aC:Nat}(a5:R=(aC:Int))(b:l=L.length)(d:aC < L.length){aF:Int→Prop}
  (g:aF (L.getD aC 0:Nat)):c2 a l R 1 fun aE=>fB Z aE fun v=>aW .u64 v aF:=by
 subst a5;subst b
 obtain⟨p,O,e⟩:=r.at_ aC d
 subst O
 refine⟨⟨by omega,by omega⟩,?_⟩
 show fB Z (p.add ((aC:Int).toNat*1)) _
 have f:(aC:Int).toNat*1=aC:=by omega
 rw [f]
 unfold fB;rw [e];exact g
structure Own(Z:U)(K:Nat)(L:List Nat):Prop where
 len:L.length≤35184372088828
 words:∀ N ∈ L,N < 18446744073709551616
 at_:∃ O,Z[K]?=some (.cells (L.map hL).toArray O (0,0))
theorem Own.lt{Z:U}{K:Nat}{L:List Nat}(aN:Own Z K L):K < Z.size:=by
 obtain⟨O,g⟩:=aN.at_;exact(Array.getElem?_eq_some_iff.mp g).1
theorem Own.cell{Z:U}{K:Nat}{L:List Nat}(aN:Own Z K L){R:Nat}(a5:R < L.length):gL Z ⟨K,R,none⟩=some (hL (L.getD R 0)):=by
 obtain⟨O,g⟩:=aN.at_
 unfold gL
 simp only [g,Option.isSome_none,Bool.false_eq_true,if_false]
 simp [List.getD,a5]
theorem Own.frozen{Z:U}{K:Nat}{L:List Nat}(aN:Own Z K L)(R:Nat):lP Z ⟨K,R,none⟩=false:=by
 obtain⟨O,g⟩:=aN.at_
 unfold lP
 simp [g]
theorem Own.rd{Z:U}{K:Nat}{L:List Nat}(aN:Own Z K L){c:Nat}(a:L.length≤c):cD Z (some ⟨K,0,none⟩) c L:=
 ⟨aN.len,a,aN.words,fun R a5=>⟨_,rfl,by rw [bZ];exact aN.cell a5⟩⟩
theorem CW{Z:U}{aE:Addr}{v:Value}{K:Nat}(a:K ≠ aE.block):(gB Z aE v)[K]?=Z[K]?:=by
 unfold gB
 rw [Array.getElem?_modify]
 rw [if_neg (fun O=>a O.symm)]
theorem CV{Z:U}{aE:Addr}{v:Value}:(gB Z aE v).size=Z.size:=by unfold gB;simp
theorem Own.set{Z:U}{K:Nat}{L:List Nat}(aN:Own Z K L)(R:Nat){v:Nat}(bP:v < 18446744073709551616):Own (gB Z ⟨K,R,none⟩ (hL v)) K (L.set R v):=by
 refine⟨by rw [List.length_set];exact aN.len,fun N a=>?_,?_⟩
 ·rcases List.mem_or_eq_of_mem_set a with aY | aY
  ·exact aN.words N aY
  ·subst aY;exact bP
 ·obtain⟨O,g⟩:=aN.at_
  refine⟨O,?_⟩
  unfold gB
  rw [Array.getElem?_modify]
  simp only [if_true,g,Option.map_some]
  simp [List.map_set]
theorem bC.set{Z aB:U}(S:bC Z aB){K R:Nat}{v:Value}(b:Z.size≤K):bC Z (gB aB ⟨K,R,none⟩ v):=
 ⟨by rw [CV];exact S.le,fun aC a=>by rw [CW (by show aC ≠ K;omega)];exact S.pre aC a⟩
theorem Own.aS{Z aB:U}{K:Nat}{L:List Nat}(aN:Own Z K L)(S:bC Z aB):Own aB K L:=by
 obtain⟨O,g⟩:=aN.at_
 exact⟨aN.len,aN.words,O,by rw [S.pre K aN.lt];exact g⟩
theorem lX{Z:U}{K l:Nat}{L:List Nat}(aN:Own Z K L){R:Int}{aC:Nat}(a5:R=(aC:Int))(a:l=L.length)(b:aC < L.length){N:Int}{v:Nat}(c:N=(v:Int))(bP:v < 18446744073709551616){aF:U→Prop}
  (g:Own (gB Z ⟨K,aC,none⟩ (hL v)) K (L.set aC v)→aF (gB Z ⟨K,aC,none⟩ (hL v))):c2 (some ⟨K,0,none⟩) l R 1 fun aE=>b3 Z aE (.int .u64 N) aF:=by
 subst a5;subst a;subst c
 refine⟨⟨by omega,by omega⟩,?_⟩
 show b3 Z ((⟨K,0,none⟩:Addr).add ((aC:Int).toNat*1)) _ _
 have d:(aC:Int).toNat*1=aC:=by omega
 rw [d,bZ]
 exact⟨⟨⟨_,aN.cell b⟩,aN.frozen aC⟩,g (aN.set aC bP)⟩
theorem Ao(n:Nat)(bM:Value):hR [bM] n=List.replicate n bM:=by
 induction n with
 | zero=>rfl
 | succ n bO=>show [bM] ++ hR [bM] n=_;rw [bO,List.replicate_succ];rfl
theorem m1{Z:U}{O:TypeId}{R:dL}{n m:Int}(S:Nat)(b:R.a3=[hL 0])(a:R.bytes=8)(c:n=(S:Int))(d:m=(S:Int))(e:S≤35184372088828){aF:Addr→U→Prop}
  (g:∀ aB,Own aB Z.size (List.replicate S 0)→bC Z aB→aF ⟨Z.size,0,none⟩ aB):h5 Z O R n m aF:=by
 subst c;subst d
 refine⟨⟨by omega,by omega,by omega,by rw [a];omega⟩,g _ ⟨by simpa using e,?_,O,?_⟩ ⟨by simp,fun K a=>?_⟩⟩
 ·intro N f;have:=List.eq_of_mem_replicate f;omega
 ·rw [b,Ao];simp
 ·rw [Array.getElem?_push];rw [if_neg (by omega)]
theorem vU{Z:U}{O:TypeId}{c9:List Value}(L:List Nat)(a:c9=L.map hL)(b:L.length≤35184372088828)(c:∀ N ∈ L,N < 18446744073709551616){aF:Addr→U→Prop}
  (g:∀ aB,Own aB Z.size L→bC Z aB→aF ⟨Z.size,0,none⟩ aB):dN Z O c9 aF:=by
 subst a
 refine g _ ⟨b,c,O,?_⟩ ⟨by simp,fun K d=>?_⟩
 ·simp
 ·rw [Array.getElem?_push];rw [if_neg (by omega)]
theorem AY{Z:U}{p:Addr}:∀ {bV:List Nat} {R:Nat},(∀ aC,aC < bV.length→gL Z (p.add (R+aC))=some (hL (bV.getD aC 0)))→n5 Z p R (bV.map hL)
 | [],_,_=>trivial
 | v :: bV,R,g=>by
  refine⟨by have:=g 0 (by simp);simpa using this,AY fun aC a=>?_⟩
  have:=g (aC+1) (by simpa using a)
  rw [show R+1+aC=R+(aC+1) by omega]
  simpa using this
theorem AZ{Z:U}{p:Addr}:∀ {n R:Nat},(∀ aC,aC < n→(∃ v,gL Z (p.add (R+aC))=some v)∧lP Z (p.add (R+aC))=false)→n6 Z p R n
 | 0,_,_=>trivial
 | n+1,R,g=>⟨by have:=g 0 (by omega);simpa using this,AZ fun aC a=>by rw [show R+1+aC=R+(aC+1) by omega];exact g (aC+1) (by omega)⟩
theorem A0{K:Nat}:∀ {bV:List Nat} {Z aV:U} {L:List Nat} {R:Nat},Own Z K L→(∀ N ∈ bV,N < 18446744073709551616)→R+bV.length≤L.length→(aV.size≤K)→bC aV Z→
  Own (jN Z ⟨K,0,none⟩ R (bV.map hL)) K (L.take R ++ (bV ++ L.drop (R+bV.length)))∧bC aV (jN Z ⟨K,0,none⟩ R (bV.map hL))
 | [],Z,aV,L,R,aN,_,_,_,S=>by simpa [jN] using ⟨aN,S⟩
 | v :: bV,Z,aV,L,R,aN,a,c,b,S=>by
  simp only [List.length_cons] at c
  have O:jN Z ⟨K,0,none⟩ R ((v :: bV).map hL)=jN (gB Z ⟨K,R,none⟩ (hL v)) ⟨K,0,none⟩ (R+1) (bV.map hL):=by
   show jN (gB Z ((⟨K,0,none⟩:Addr).add R) (hL v)) _ _ _=_
   rw [bZ]
  rw [O]
  have:=A0 (bV:=bV) (R:=R+1) (aN.set R (a v (by simp))) (fun N d=>a N (by simp [d])) (by rw [List.length_set];omega) b (S.set (v:=hL v) (R:=R) b)
  refine⟨?_,this.2⟩
  have e:(L.set R v).take (R+1) ++ (bV ++ (L.set R v).drop (R+1+bV.length))=L.take R ++ (v :: bV ++ L.drop (R+(v :: bV).length)):=by
   rw [List.drop_set_of_lt (by omega),List.length_cons,show R+1+bV.length=R+(bV.length+1) by omega]
   rw [List.take_add_one,List.take_set_of_le (Nat.le_refl R)]
   simp [show R < L.length by omega]
  rw [← e];exact this.1
theorem x8{Z:U}{K l bX bG:Nat}{L aP:List Nat}{a:M}{aV:U}(aN:Own Z K L)(r:cD Z a bG aP)(d:l=L.length)(e:bX=aP.length)(f:aV.size≤K)(S:bC aV Z){aF:Int→U→Prop}
  (g:∀ aB,Own aB K (aP.take L.length ++ L.drop aP.length)→bC aV aB→aF ((Nat.min aP.length L.length:Nat):Int) aB):mF Z 1 (some ⟨K,0,none⟩) l (.slice a bX bG) aF:=by
 subst d;subst e
 have b:(aP.take L.length).length=Nat.min aP.length L.length:=by
  rw [List.length_take];exact Nat.min_comm _ _
 have k:Nat.min aP.length L.length≤L.length:=Nat.min_le_right _ _
 refine⟨aP.length,(aP.take L.length).map hL,rfl,⟨by rw [List.length_map,b];omega,?_,?_⟩,?_,?_⟩
 ·intro v bP
  obtain⟨N,_,O⟩:=List.mem_map.mp bP
  subst O;rfl
 ·cases a with
  | none=>
   show(aP.take L.length).map hL=[]
   cases aP with
   | nil=>simp
   | cons aQ aP=>obtain⟨p,O,_⟩:=r.at_ 0 (by simp);cases O
  | some p=>
   refine AY fun aC c=>?_
   obtain⟨m,O,h⟩:=(r.take L.length).at_ aC c
   cases O
   rw [Nat.zero_add];exact h
 ·refine AZ fun aC c=>?_
  rw [Nat.zero_add,bZ]
  rw [List.length_map,b] at c
  exact⟨⟨_,aN.cell (by omega)⟩,aN.frozen aC⟩
 ·have:=A0 (bV:=aP.take L.length) (R:=0) aN (fun N i=>r.words N (List.mem_of_mem_take i)) (by rw [b];omega) f S
  refine g _ ?_ this.2
  have O:L.take 0 ++ (aP.take L.length ++ L.drop (0+(aP.take L.length).length))=aP.take L.length ++ L.drop aP.length:=by
   rw [List.take_zero,List.nil_append,Nat.zero_add,b]
   congr 1
   by_cases j:aP.length≤L.length
   ·rw [show Nat.min aP.length L.length=aP.length from Nat.min_eq_left j]
   ·rw [show Nat.min aP.length L.length=L.length from Nat.min_eq_right (by omega),List.drop_of_length_le (Nat.le_refl _),List.drop_of_length_le (by omega)]
  rw [← O];exact this.1
theorem tQ{a:M}{l c:Nat}{N:Int}{n:Nat}(b:N=(n:Int))(d:n≤c){aF:M→Nat→Nat→Prop}(g:aF a n c):hX 1 a l c none (some (.int .i64 N)) none aF:=by
 subst b
 show(0≤(n:Int)∧(n:Int)≤(c:Int))∧aF (iP a c 0 1) ((n:Int).toNat - 0) (c - 0)
 refine⟨⟨by omega,by omega⟩,?_⟩
 have O:iP a c 0 1=a:=by
  unfold iP
  split
  ·rfl
  ·cases a <;> simp [Addr.add]
 rw [O];simpa using g
theorem Dr{a:M}{l c:Nat}{N:Int}{n:Nat}(b:N=(n:Int))(d:n≤l){aF:M→Nat→Nat→Prop}(g:aF (iP a c n 1) (l - n) (c - n)):hX 1 a l c (some (.int .i64 N)) none none aF:=by
 subst b
 exact⟨⟨by omega,by omega⟩,by simpa using g⟩
theorem b5{P:Program}{f:FuncId}{args:Array Value}{Z:U}{dW aF:Value→U→Prop}(a:mB P f args Z dW)(g:∀ v aB,dW v aB→aF v aB):mB P f args Z aF:=a.mono g
def val:List Nat→Nat
 | []=>0
 | N :: L=>N+18446744073709551616*val L
def aL(n:Nat):List Nat:=if Z:n=0 then [] else n % 18446744073709551616 :: aL (n / 18446744073709551616)
 termination_by n
 decreasing_by omega
def dI:List Nat→List Nat
 | []=>[]
 | N :: L=>if N=0∧dI L=[] then [] else N :: dI L
def Words(L:List Nat):Prop:=∀ N ∈ L,N < 18446744073709551616
theorem Words.cons{N:Nat}{L:List Nat}(Z:Words (N :: L)):N < 18446744073709551616∧Words L:=⟨Z N (by simp),fun aQ a=>Z aQ (by simp [a])⟩
theorem eK:aL 0=[]:=by unfold aL;simp
theorem j8{n:Nat}(Z:n ≠ 0):aL n=n % 18446744073709551616 :: aL (n / 18446744073709551616):=by
 rw [aL];simp [Z]
theorem oH(n:Nat):Words (aL n):=by
 induction n using Nat.strongRecOn with
 | ind n bO=>
  by_cases Z:n=0
  ·subst Z;rw [eK];intro N a;cases a
  ·rw [j8 Z];intro N a
   rcases List.mem_cons.mp a with O | O
   ·omega
   ·exact bO _ (by omega) N O
theorem eV(n:Nat):val (aL n)=n:=by
 induction n using Nat.strongRecOn with
 | ind n bO=>
  by_cases Z:n=0
  ·subst Z;rw [eK];rfl
  ·rw [j8 Z];show n % _+_*val (aL _)=n
   rw [bO _ (by omega)];omega
theorem oI{L:List Nat}:dI L=[]↔val L=0:=by
 induction L with
 | nil=>simp [dI,val]
 | cons N L bO=>
  simp only [dI,val]
  split
  ·next Z=>simp only [true_iff];have:=bO.mp Z.2;omega
  ·next Z=>
   simp only [reduceCtorEq,false_iff]
   intro O
   exact Z ⟨by omega,bO.mpr (by omega)⟩
theorem k8{L:List Nat}(a:Words L):aL (val L)=dI L:=by
 induction L with
 | nil=>simp [val,dI,eK]
 | cons N L bO=>
  have b:=a.cons
  simp only [dI,val]
  split
  ·next Z=>rw [Z.1,oI.mp Z.2];exact eK
  ·next Z=>
   have c:N+18446744073709551616*val L ≠ 0:=fun O=>Z ⟨by omega,oI.mpr (by omega)⟩
   rw [j8 c]
   have d:(N+18446744073709551616*val L) % 18446744073709551616=N:=by omega
   have e:(N+18446744073709551616*val L) / 18446744073709551616=val L:=by omega
   rw [d,e,bO b.2]
theorem qA(L:List Nat):val (dI L)=val L:=by
 induction L with
 | nil=>rfl
 | cons N L bO=>
  simp only [dI]
  split
  ·next Z=>simp only [val];rw [Z.1,oI.mp Z.2]
  ·simp only [val];rw [bO]
theorem o9(n:Nat):dI (aL n)=aL n:=by rw [← k8 (oH n),eV]
theorem AE(L:List Nat):dI (dI L)=dI L:=by
 induction L with
 | nil=>rfl
 | cons N L bO=>
  simp only [dI]
  split
  ·rfl
  ·next Z=>simp only [dI,bO];rw [if_neg Z]
theorem tT(L:List Nat):(dI L).length≤L.length:=by
 induction L with
 | nil=>simp [dI]
 | cons N L bO=>
  simp only [dI]
  split
  ·simp
  ·simpa using bO
theorem tR(L:List Nat):dI (L ++ [0])=dI L:=by
 induction L with
 | nil=>simp [dI]
 | cons N L bO=>simp only [List.cons_append,dI,bO]
theorem vQ(L:List Nat){N:Nat}(a:N ≠ 0):dI (L ++ [N])=L ++ [N]:=by
 induction L with
 | nil=>simp [dI,a]
 | cons aQ L bO=>
  simp only [List.cons_append,dI,bO]
  rw [if_neg (by simp)]
theorem k9{L:List Nat}{n:Nat}(Z:n < L.length):L.take (n+1)=L.take n ++ [L.getD n 0]:=by
 rw [List.take_add_one];simp [List.getD,Z]
theorem tS{L:List Nat}:dI L=L↔(L=[]∨L.getD (L.length - 1) 0 ≠ 0):=by
 by_cases Z:L.length=0
 ·have O:L=[]:=List.length_eq_zero_iff.mp Z
  subst O;simp [dI]
 ·obtain⟨n,a⟩:∃ n,L.length=n+1:=⟨L.length - 1,by omega⟩
  have O:L=L.take n ++ [L.getD n 0]:=by rw [← k9 (by omega),← a,List.take_length]
  have c:L ≠ []:=fun O=>by subst O;simp at a
  rw [a];simp only [Nat.add_sub_cancel]
  constructor
  ·intro b
   refine Or.inr fun aV=>?_
   rw [aV] at O
   rw [O,tR] at b
   have:=tT (L.take n)
   rw [b] at this;simp at this;omega
  ·rintro(aY | aY)
   ·exact absurd aY c
   ·rw [O];exact vQ _ aY
def fC(n:Nat):List Nat × Int:=if (aL n).length≤8192 then(aL n,0) else([],5)
def iK(L:List Nat):Prop:=L.length≤8192∧dI L=L
instance (L:List Nat):Decidable (iK L):=by unfold iK;infer_instance
theorem iK.aL{L:List Nat}(Z:iK L)(a:Words L):Gv.aL (val L)=L:=by rw [k8 a,Z.2]
theorem iK.fC{L:List Nat}(Z:iK L)(a:Words L):Gv.fC (val L)=(L,0):=by
 unfold Gv.fC;rw [Z.aL a,if_pos Z.1]
theorem mY{n m:Nat}(Z:n≤m):(aL n).length≤(aL m).length:=by
 induction m using Nat.strongRecOn generalizing n with
 | ind m bO=>
  by_cases a:n=0
  ·subst a;rw [eK];simp
  ·rw [j8 a,j8 (n:=m) (by omega)]
   simp only [List.length_cons]
   exact Nat.succ_le_succ (bO (m / 18446744073709551616) (by omega) (Nat.div_le_div_right Z))
theorem oP{aI:List Nat}{aC t:Nat}(Z:aC < aI.length):(aI.set aC t).take (aC+1)=aI.take aC ++ [t]:=by
 rw [List.take_add_one,List.take_set_of_le (Nat.le_refl aC)];simp [Z]
theorem h6{L:List Nat}{aC:Nat}(Z:aC < L.length):L.drop aC=L.getD aC 0 :: L.drop (aC+1):=by
 rw [List.drop_eq_getElem_cons Z];simp [List.getD,Z]
theorem yJ(L:List Nat)(aC:Nat):(L.drop aC).headD 0=L.getD aC 0:=by
 simp [List.getD,List.headD_eq_head?_getD,List.head?_drop]
def pF:List Nat→List Nat→Nat→List Nat
 | [],_,c=>[c]
 | N :: L,aP,c=>(N+aP.headD 0+c) % 18446744073709551616 :: pF L aP.tail ((N+aP.headD 0+c) / 18446744073709551616)
theorem x1(aP:List Nat):val aP=aP.headD 0+18446744073709551616*val aP.tail:=by cases aP <;> simp [val]
theorem DC:∀ (L aP:List Nat) (c:Nat),aP.length≤L.length→val (pF L aP c)=val L+val aP+c
 | [],aP,c,Z=>by
  have O:aP=[]:=List.length_eq_zero_iff.mp (by simpa using Z)
  subst O;simp [pF,val]
 | N :: L,aP,c,Z=>by
  simp only [pF,val]
  rw [DC L aP.tail _ (by simp at Z ⊢;omega)]
  have:=x1 aP
  omega
def nO:List Nat→List Nat→Nat→List Nat
 | [],_,_=>[]
 | N :: L,aP,c=>(N+18446744073709551616 - aP.headD 0 - c) % 18446744073709551616 :: nO L aP.tail (if N < aP.headD 0+c then 1 else 0)
theorem AO:∀ (L aP:List Nat) (c:Nat),Words L→Words aP→aP.length≤L.length→c≤1→val aP+c≤val L→val (nO L aP c)+(val aP+c)=val L
 | [],aP,c,_,_,Z,_,bP=>by
  have O:aP=[]:=List.length_eq_zero_iff.mp (by simpa using Z)
  subst O;simp [nO,val] at bP ⊢;omega
 | N :: L,aP,c,a,b,Z,g,bP=>by
  have h:aP.headD 0 < 18446744073709551616:=by cases aP with
   | nil=>decide
   | cons aQ aP=>exact b.cons.1
  have d:Words aP.tail:=by cases aP with
   | nil=>exact b
   | cons aQ aP=>exact b.cons.2
  have i:=a.cons.1
  have:=x1 aP
  simp only [nO,val] at bP ⊢
  have e:aP.tail.length≤L.length:=by simp at Z ⊢;omega
  by_cases f:N < aP.headD 0+c
  ·rw [if_pos f]
   have:=AO L aP.tail 1 a.cons.2 d e (by omega) (by omega)
   omega
  ·rw [if_neg f]
   have:=AO L aP.tail 0 a.cons.2 d e (by omega) (by omega)
   omega
theorem rW:∀ {L aP:List Nat} {aC:Nat},Words L→Words aP→L.length=aP.length→aC < L.length→L.drop (aC+1)=aP.drop (aC+1)→L.getD aC 0 < aP.getD aC 0→val L < val aP
 | [],_,_,_,_,_,a,_,_=>absurd a (by simp)
 | N :: L,[],_,_,_,b,_,_,_=>absurd b (by simp)
 | N :: L,aQ :: aP,0,c,d,b,a,e,Z=>by
  have O:L=aP:=by simpa using e
  subst O
  simp only [List.getD_cons_zero] at Z
  simp only [val];omega
 | N :: L,aQ :: aP,aC+1,c,d,b,a,e,Z=>by
  have:=rW (L:=L) (aP:=aP) (aC:=aC) c.cons.2 d.cons.2 (by simpa using b) (by simpa using a) (by simpa using e) (by simpa using Z)
  have aY:=c.cons.1
  have f:=d.cons.1
  simp only [val];omega
theorem x2{aQ:Nat}{aP:List Nat}(Z:dI (aQ :: aP)=aQ :: aP):dI aP=aP:=by
 simp only [dI] at Z
 split at Z
 ·cases Z
 ·exact List.tail_eq_of_cons_eq Z
theorem qB:∀ {L aP:List Nat},Words L→dI aP=aP→L.length < aP.length→val L < val aP
 | _,[],_,_,Z=>absurd Z (by simp)
 | [],aQ :: aP,_,a,_=>by
  have:val (aQ :: aP) ≠ 0:=fun O=>by rw [oI.mpr O] at a;cases a
  simp only [val] at this ⊢;omega
 | N :: L,aQ :: aP,b,a,Z=>by
  have:=qB (L:=L) (aP:=aP) b.cons.2 (x2 a) (by simpa using Z)
  have aY:=b.cons.1
  simp only [val];omega
def fD(m n:Nat):Int:=if m < n then -1 else if m=n then 0 else 1
theorem hI(L aP:List Nat):val (L ++ aP)=val L+2 ^ (64*L.length)*val aP:=by
 induction L with
 | nil=>simp [val]
 | cons N L bO=>
  simp only [List.cons_append,val,bO,List.length_cons]
  have O:2 ^ (64*(L.length+1))=18446744073709551616*2 ^ (64*L.length):=by
   rw [show 64*(L.length+1)=64+64*L.length by omega,Nat.pow_add]
  rw [O,Nat.mul_add,Nat.mul_assoc];omega
theorem hS{L:List Nat}(a:Words L):val L < 2 ^ (64*L.length):=by
 induction L with
 | nil=>simp [val]
 | cons N L bO=>
  have O:2 ^ (64*(L.length+1))=18446744073709551616*2 ^ (64*L.length):=by
   rw [show 64*(L.length+1)=64+64*L.length by omega,Nat.pow_add]
  rw [List.length_cons,O];simp only [val]
  have aY:=a.cons.1
  have b:=bO a.cons.2
  omega
def dV(n:Nat):Nat:=if n=0 then 0 else Nat.log2 n+1
theorem h7{n S:Nat}:dV n≤S↔n < 2 ^ S:=by
 unfold dV
 by_cases Z:n=0
 ·subst Z;simp [Nat.pow_pos]
 ·rw [if_neg Z];exact Nat.log2_lt Z
theorem M6{n m:Nat}(Z:∀ S,dV n≤S↔m≤S):dV n=m:=Nat.le_antisymm ((Z m).mpr (Nat.le_refl _)) ((Z _).mp (Nat.le_refl _))
theorem rX(n aI:Nat):dV (n / 2 ^ aI)=dV n - aI:=by
 refine M6 fun S=>?_
 rw [h7,Nat.div_lt_iff_lt_mul (Nat.pow_pos (by decide)),← Nat.pow_add,← h7];omega
theorem Dm:dV 0=0:=rfl
theorem pA{n:Nat}(Z:n ≠ 0):0 < dV n:=by unfold dV;rw [if_neg Z];omega
theorem vL{L:List Nat}(a:Words L){n:Nat}(b:L.length=n+1)(aV:L.getD n 0 ≠ 0):dV (val L)=64*n+dV (L.getD n 0):=by
 have O:L=L.take n ++ [L.getD n 0]:=by rw [← k9 (by omega),← b,List.take_length]
 have bP:val L=val (L.take n)+2 ^ (64*n)*L.getD n 0:=by
  conv=>lhs;rw [O]
  rw [hI];simp [val,show min n L.length=n by omega]
 have c:val (L.take n) < 2 ^ (64*n):=by
  have:=hS (L:=L.take n) (fun N d=>a N (List.mem_of_mem_take d))
  rwa [List.length_take,show min n L.length=n by omega] at this
 have e:val L / 2 ^ (64*n)=L.getD n 0:=by
  rw [bP,Nat.add_mul_div_left _ _ (Nat.pow_pos (by decide)),Nat.div_eq_of_lt c,Nat.zero_add]
 have:=rX (val L) (64*n)
 rw [e] at this
 have:=pA aV
 omega
theorem gE{n S:Nat}:(aL n).length≤S↔n < 2 ^ (64*S):=by
 constructor
 ·intro Z
  have:=hS (oH n)
  rw [eV] at this
  exact Nat.lt_of_lt_of_le this (Nat.pow_le_pow_right (by decide) (by omega))
 ·intro Z
  induction S generalizing n with
  | zero=>
   have:n=0:=by simpa using Z
   subst this;rw [eK];simp
  | succ S bO=>
   by_cases aV:n=0
   ·subst aV;rw [eK];simp
   ·rw [j8 aV,List.length_cons]
    have O:2 ^ (64*(S+1))=2 ^ (64*S)*18446744073709551616:=by
     rw [show 64*(S+1)=64*S+64 by omega,Nat.pow_add]
    rw [O] at Z
    have:=bO (n:=n / 18446744073709551616) (Nat.div_lt_of_lt_mul (by rw [Nat.mul_comm];exact Z))
    omega
theorem x3{a1 bH S:Nat}(a:(aL a1).length≤S)(b:(aL bH).length≤S):(aL (a1+bH)).length≤S+1:=by
 refine gE.mpr ?_
 have aY:=gE.mp a
 have c:=gE.mp b
 have O:2 ^ (64*(S+1))=2 ^ (64*S)*18446744073709551616:=by
  rw [show 64*(S+1)=64*S+64 by omega,Nat.pow_add]
 rw [O];generalize 2 ^ (64*S)=p at *;omega
theorem yI{v:Nat}(n:Nat)(Z:v ≠ 0):dV (v*2 ^ n)=dV v+n:=by
 have aY:=rX (v*2 ^ n) n
 rw [Nat.mul_div_cancel _ (Nat.pow_pos (by decide))] at aY
 have a:=pA Z
 omega
theorem x4{v:Nat}(S:Nat):dV v≤64*S↔(aL v).length≤S:=by
 rw [gE,h7]
theorem DH{v:Nat}:dV v≤524288↔(aL v).length≤8192:=x4 8192
theorem H7{v:Nat}(Z:¬ dV v≤524288):fC v=([],5):=by
 unfold fC;rw [if_neg (fun a=>Z (DH.mpr a))]
theorem kJ{L:List Nat}(a:Words L)(m:Nat):val (L.drop m)=val L / 2 ^ (64*m):=by
 by_cases b:m≤L.length
 ·have O:val L=val (L.take m)+2 ^ (64*m)*val (L.drop m):=by
   conv=>lhs;rw [← List.take_append_drop m L]
   rw [hI,List.length_take,Nat.min_eq_left b]
  have c:=hS (L:=L.take m) (fun N d=>a N (List.mem_of_mem_take d))
  rw [List.length_take,Nat.min_eq_left b] at c
  rw [O,Nat.add_mul_div_left _ _ (Nat.pow_pos (by decide)),Nat.div_eq_of_lt c,Nat.zero_add]
 ·rw [List.drop_of_length_le (by omega)]
  have:=hS a
  have e:2 ^ (64*L.length)≤2 ^ (64*m):=Nat.pow_le_pow_right (by decide) (by omega)
  rw [Nat.div_eq_of_lt (by omega)];rfl
theorem lR{S:Nat}(a:S < 64):2 ^ S*2 ^ (64 - S)=18446744073709551616:=by
 rw [← Nat.pow_add,show S+(64 - S)=64 by omega]
theorem AP{S:Nat}(b:S < 64):2 ^ S < 18446744073709551616:=by
 have:=Nat.pow_lt_pow_right (a:=2) (by decide) b
 exact Nat.lt_of_lt_of_le this (by decide)
theorem Al{L:List Nat}(b:Words L){m S:Nat}(c:m < L.length)(d:S < 64):val (L.take m ++ [L.getD m 0 % 2 ^ S])=val L % 2 ^ (64*m+S):=by
 have O:val L=val (L.take m)+2 ^ (64*m)*val (L.drop m):=by
  conv=>lhs;rw [← List.take_append_drop m L]
  rw [hI,List.length_take,Nat.min_eq_left (by omega)]
 have a:=hS (L:=L.take m) (fun N e=>b N (List.mem_of_mem_take e))
 rw [List.length_take,Nat.min_eq_left (by omega)] at a
 rw [hI,List.length_take,Nat.min_eq_left (by omega),Nat.pow_add,Nat.mod_mul,O,Nat.add_mul_mod_self_left,Nat.mod_eq_of_lt a,Nat.add_mul_div_left _ _ (Nat.pow_pos (by decide)),Nat.div_eq_of_lt a,Nat.zero_add,h6 c]
 simp only [val,Nat.mul_zero,Nat.add_zero]
 congr 2
 rw [← lR d,Nat.mul_assoc,Nat.add_mul_mod_self_left]
end Go.Gv
namespace Go.Proofs.YtjijdlkpmngolaaGreat.G
open Go.Gv
noncomputable def force{c7:Type}(n:Nat)(f:Nat→c7):c7:=Nat.rec (f 0) (fun S _=>f (S+1)) n
theorem force_eq{c7:Type}(n:Nat)(f:Nat→c7):force n f=f n:=by cases n <;> rfl
noncomputable def nU(m:Nat)(S:Nat):Nat→Nat→Nat→Nat→Nat:=
 Nat.rec (fun _ _ a K=>a - K) (fun _ bO t R a K=>force t fun t=>force R fun R=>force a fun a=>force K fun K=>bO (t / m) (R+2) K (a+t / R)) S
theorem M7(m S t R a K:Nat):nU m (S+1) t R a K=nU m S (t / m) (R+2) K (a+t / R):=by
 show(force t fun t=>force R fun R=>force a fun a=>force K fun K=>nU m S (t / m) (R+2) K (a+t / R))=_
 simp only [force_eq]
def e0(n aA aC:Nat):Nat:=2 ^ aA / n ^ (2*aC+1)
def hT(n aA aC:Nat):Nat:=e0 n aA aC / (2*aC+1)
def dJ(n aA:Nat):Nat→Nat
 | 0=>0
 | S+1=>dJ n aA S+if S % 2=0 then hT n aA S else 0
def dK(n aA:Nat):Nat→Nat
 | 0=>0
 | S+1=>dK n aA S+if S % 2=0 then 0 else hT n aA S
theorem w8(n aA S:Nat):dJ n aA (S+1)=dJ n aA S+if S % 2=0 then hT n aA S else 0:=rfl
theorem w9(n aA S:Nat):dK n aA (S+1)=dK n aA S+if S % 2=0 then 0 else hT n aA S:=rfl
theorem Bi(n aA:Nat):e0 n aA 0=2 ^ aA / n:=by simp [e0]
theorem wF(n aA aC:Nat):e0 n aA (aC+1)=e0 n aA aC / (n*n):=by
 unfold e0
 rw [Nat.div_div_eq_div_mul,show 2*(aC+1)+1=(2*aC+1)+1+1 by omega,Nat.pow_succ,Nat.pow_succ,Nat.mul_assoc]
theorem sG(n aC:Nat){aA bK:Nat}(Z:aA≤bK):e0 n aA aC=e0 n bK aC / 2 ^ (bK - aA):=by
 unfold e0
 rw [Nat.div_div_eq_div_mul,Nat.mul_comm (n ^ _),← Nat.div_div_eq_div_mul]
 congr 1
 rw [show 2 ^ bK=2 ^ aA*2 ^ (bK - aA) by rw [← Nat.pow_add];congr 1;omega,Nat.mul_div_cancel _ (Nat.pow_pos (by decide))]
theorem M8(n aC:Nat){aA bK:Nat}(Z:aA≤bK):hT n aA aC=hT n bK aC / 2 ^ (bK - aA):=by
 unfold hT
 rw [sG n aC Z,Nat.div_div_eq_div_mul,Nat.mul_comm (2 ^ _),← Nat.div_div_eq_div_mul]
theorem FV(n aA aC:Nat):e0 n aA (aC+1)≤e0 n aA aC:=by rw [wF];exact Nat.div_le_self _ _
theorem Ex{n aA aF:Nat}(Z:e0 n aA aF=0):∀ S,aF≤S→e0 n aA S=0:=by
 intro S a
 induction a with
 | refl=>exact Z
 | step _ bO=>have:=FV n aA (by assumption:Nat);rw [wF,bO,Nat.zero_div]
theorem M9{n aA aF:Nat}(Z:e0 n aA aF=0)(S:Nat)(a:aF≤S):hT n aA S=0:=by unfold hT;rw [Ex Z S a,Nat.zero_div]
theorem Na(n aA aC:Nat):hT n aA (aC+1)≤hT n aA aC:=by
 unfold hT
 exact Nat.le_trans (Nat.div_le_div_right (FV n aA aC)) (Nat.div_le_div_left (by omega) (by omega))
theorem yZ{n aA aF:Nat}(Z:e0 n aA aF=0):∀ S,aF≤S→dJ n aA S=dJ n aA aF∧dK n aA S=dK n aA aF:=by
 intro S a
 induction a with
 | refl=>exact⟨rfl,rfl⟩
 | @step S a bO=>
  have:=M9 Z S a
  rw [w8,w9,this,bO.1,bO.2]
  split <;> exact⟨rfl,rfl⟩
theorem Nb(n aA:Nat):∀ S,dK n aA (2*S)≤dJ n aA (2*S)∧dK n aA (2*S+1)≤dJ n aA (2*S+1):=by
 intro S
 induction S with
 | zero=>simp [dJ,dK]
 | succ S bO=>
  have Z:=Na n aA (2*S)
  have e:dJ n aA (2*S+1)=dJ n aA (2*S)+hT n aA (2*S):=by rw [dJ,if_pos (by omega)]
  have f:dK n aA (2*S+1)=dK n aA (2*S):=by rw [dK,if_pos (by omega)];rfl
  have a:dJ n aA (2*S+1+1)=dJ n aA (2*S+1):=by rw [dJ,if_neg (by omega)];rfl
  have b:dK n aA (2*S+1+1)=dK n aA (2*S+1)+hT n aA (2*S+1):=by rw [dK,if_neg (by omega)]
  have c:dJ n aA (2*(S+1)+1)=dJ n aA (2*S+1+1)+hT n aA (2*S+1+1):=by
   rw [show 2*(S+1)+1=(2*S+1+1)+1 by omega,dJ,if_pos (by omega)]
  have d:dK n aA (2*(S+1)+1)=dK n aA (2*S+1+1):=by
   rw [show 2*(S+1)+1=(2*S+1+1)+1 by omega,dK,if_pos (by omega)];rfl
  rw [c,d,show 2*(S+1)=2*S+1+1 by omega,a,b]
  omega
theorem oU(n aA S:Nat):dK n aA S≤dJ n aA S:=by
 have:=Nb n aA (S / 2)
 rcases Nat.mod_two_eq_zero_or_one S with Z | Z
 ·have O:2*(S / 2)=S:=by omega
  rw [O] at this;exact this.1
 ·have O:2*(S / 2)+1=S:=by omega
  rw [O] at this;exact this.2
theorem wC(n:Nat){aA bK:Nat}(Z:aA≤bK):∀ S,2 ^ (bK - aA)*dJ n aA S≤dJ n bK S∧dJ n bK S≤2 ^ (bK - aA)*dJ n aA S+S*2 ^ (bK - aA)
  ∧2 ^ (bK - aA)*dK n aA S≤dK n bK S∧dK n bK S≤2 ^ (bK - aA)*dK n aA S+S*2 ^ (bK - aA):=by
 intro S
 have a:0 < 2 ^ (bK - aA):=Nat.pow_pos (by decide)
 induction S with
 | zero=>simp [dJ,dK]
 | succ S bO=>
  have O:=M8 n S Z
  have aY:=Nat.div_add_mod (hT n bK S) (2 ^ (bK - aA))
  have b:=Nat.mod_lt (hT n bK S) a
  rw [← O] at aY
  simp only [w8,w9]
  split <;> (simp only [Nat.mul_add,Nat.add_mul,Nat.add_zero,Nat.one_mul];omega)
theorem JQ(n aA:Nat):∀ S,dJ n aA S≤S*2 ^ aA∧dK n aA S≤S*2 ^ aA:=by
 intro S
 induction S with
 | zero=>simp [dJ,dK]
 | succ S bO=>
  have Z:hT n aA S≤2 ^ aA:=Nat.le_trans (Nat.div_le_self _ _) (Nat.div_le_self _ _)
  rw [w8,w9,Nat.add_mul,Nat.one_mul]
  split <;> omega
theorem EA{n aA aF:Nat}(a:2≤n)(Z:e0 n aA aF ≠ 0):2*aF+1≤aA:=by
 have aY:n ^ (2*aF+1)≤2 ^ aA:=by
  refine Nat.le_of_not_lt fun b=>Z ?_
  exact Nat.div_eq_of_lt b
 have c:2 ^ (2*aF+1)≤2 ^ aA:=Nat.le_trans (Nat.pow_le_pow_left a _) aY
 exact(Nat.pow_le_pow_iff_right (by decide)).mp c
theorem Nc(n aA:Nat):∀ S aC,(S+aC) % 2=0→
  nU (n*n) S (e0 n aA aC) (2*aC+1) (if aC % 2=0 then dJ n aA aC else dK n aA aC) (if aC % 2=0 then dK n aA aC else dJ n aA aC)=dJ n aA (S+aC) - dK n aA (S+aC):=by
 intro S
 induction S with
 | zero=>intro aC a;rw [if_pos (by omega),if_pos (by omega),Nat.zero_add];rfl
 | succ S bO=>
  intro aC a
  rw [M7,← wF,show 2*aC+1+2=2*(aC+1)+1 by omega,show S+1+aC=S+(aC+1) by omega,← bO (aC+1) (by omega)]
  show nU _ _ _ _ _ (_+hT n aA aC)=_
  congr 1
  ·rw [w8,w9]
   by_cases Z:aC % 2=0
   ·rw [if_pos Z,if_neg (by omega),if_pos Z];rfl
   ·rw [if_neg Z,if_pos (by omega),if_neg Z];rfl
  ·rw [w8,w9]
   by_cases Z:aC % 2=0
   ·rw [if_pos Z,if_neg (by omega),if_pos Z]
   ·rw [if_neg Z,if_pos (by omega),if_neg Z]
theorem wD(n aA S:Nat)(a:S % 2=0):dJ n aA S - dK n aA S=nU (n*n) S (2 ^ aA / n) 1 0 0:=by
 have:=Nc n aA S 0 (by omega)
 rw [Bi] at this
 exact this.symm
abbrev g1:Nat:=106937688940968101568520295731801138857827202830006851169677272293281241180647803776394266198720996189227803738202197106355534191726285760255998505757921947470486233670987095309194285862467539685567002432331647719934610556214708844537733521449215131135642479809455669842373022771309008761174914697077727284628078295399460836614913637844856395348020305303283184612531000050028878489998218776580040522951052306626129921444676578840184819479601266297863183475716650308634937685742705956127373178271076338116354264367681865696775216337451629603011018563118456482097899144797648290469531483378193239773416318668461446652679025891468115771441450339219653379304093926428506513445733525485231516666345627449879163775729653748279900012441806277675766758556323979153132732506815220085641198124173114968854511217214171941165580070203341091613636813385438732888053955974411223181060985126433148058920900568754439793344638937332940535664350231711721792110690384387506204155115611984391616160985489822569077049076788883832218810415649660786935547168893297397675957341601609444080446891164538769590734201026369559368709899442315784294126628596807970073288428217799468042507438050531342533826870680255312053701910154466904824800215373734767755912008641298294462837563540487529470858782034282301635839068644196269790653005385246521689620224148
abbrev rI:Nat:=21670106438950044027773753661373242548581047271588309570413166894835566577140857200135624621822271826638536135301136973301956193406880783960766443342878681622045816875120351634207680817682143410289669618836876705565386791753913111301177925466984244819214418012209177156079983026305949774311270476509575972093260258813152043809267550211575980000823076312422471329920795567537507052882390151702700059416933748932668843918894114832868929314904823999839499607480906959541879324163869349312548084089290499614303814940889675780628640131840544258158067910198921408614211635263684626866779927041084164334776856136755444449861644887102953942274545757779808898736864123068605005441004092453171332530233795734973734238724019915910782768382028018638098929823389394080370222840356417805260745439146761210184139532204224321417248712695707878680092962226833650364208925543567265045795140423994246756181226587182374416729266842792140591118635239974324759519732905098315508295645468944444621563352761610585029630423398866059363403896220467401797793682768518992165314795003068281779687923152175652401510564536513297916200481370051477209594500405362033978301153961978710222988482112321845134589885057161606595381688591558836393546986136919136679572864606985540309331056000904405647726116515970544747669053093432287536570227874414715749694447386
theorem Nd:16*nU (5*5) 950 (2 ^ 4400 / 5) 1 0 0 - 4*nU (239*239) 280 (2 ^ 4400 / 239) 1 0 0=g1:=by kernel_rfl
theorem Nf:e0 5 4400 950=0:=by kernel_rfl
theorem Bd:e0 239 4400 280=0:=by kernel_rfl
def dB(aA:Nat):Nat:=g1 / 2 ^ (4400 - aA)
theorem Ng{aA aF b:Nat}(c:aA≤4400)(f:e0 5 aA aF=0)(g:e0 239 aA b=0):
  4*(dJ 239 aA b - dK 239 aA b)≤16*(dJ 5 aA aF - dK 5 aA aF)+17400
  ∧16*(dJ 5 aA aF - dK 5 aA aF)≤dB aA+17400+4*(dJ 239 aA b - dK 239 aA b)
  ∧dB aA+4*(dJ 239 aA b - dK 239 aA b)≤16*(dJ 5 aA aF - dK 5 aA aF)+17400:=by
 have bY:e0 5 aA 950=0:=by rw [sG 5 950 c,Nf,Nat.zero_div]
 have h:e0 239 aA 280=0:=by rw [sG 239 280 c,Bd,Nat.zero_div]
 have same:∀ n S,e0 n aA S=0→∀ m,e0 n aA m=0→dJ n aA S=dJ n aA m∧dK n aA S=dK n aA m:=by
  intro n S i m d
  rcases Nat.le_total S m with Z | Z
  ·have:=yZ i m Z;exact⟨this.1.symm,this.2.symm⟩
  ·exact yZ d S Z
 obtain⟨j,k⟩:=same 5 aF f 950 bY
 obtain⟨l,o⟩:=same 239 b g 280 h
 rw [j,k,l,o]
 have p:0 < 2 ^ (4400 - aA):=Nat.pow_pos (by decide)
 have q:=wC 5 c 950
 have r:=wC 239 c 280
 have s:=oU 5 aA 950
 have t:=oU 239 aA 280
 have u:=oU 5 4400 950
 have w:=oU 239 4400 280
 have e:=Nd
 rw [← wD 5 4400 950 rfl,← wD 239 4400 280 rfl] at e
 have x:=Nat.div_add_mod g1 (2 ^ (4400 - aA))
 have d:=Nat.mod_lt g1 p
 have y:4*(dJ 239 4400 280 - dK 239 4400 280)≤16*(dJ 5 4400 950 - dK 5 4400 950):=by
  refine Nat.le_of_lt (Nat.lt_of_sub_pos ?_)
  rw [e];decide
 unfold dB
 generalize g1 / 2 ^ (4400 - aA)=a1 at *
 generalize g1 % 2 ^ (4400 - aA)=bH at *
 generalize g1=P at *
 generalize 2 ^ (4400 - aA)=D at *
 generalize dJ 5 4400 950=z at *
 generalize dK 5 4400 950=A at *
 generalize dJ 239 4400 280=bA at *
 generalize dK 239 4400 280=B at *
 generalize dJ 5 aA 950=a at *
 generalize dK 5 aA 950=C at *
 generalize dJ 239 aA 280=K at *
 generalize dK 239 aA 280=E at *
 obtain⟨cU,rfl⟩:=Nat.le.dest s
 obtain⟨v,rfl⟩:=Nat.le.dest t
 rw [Nat.add_sub_cancel_left,Nat.add_sub_cancel_left]
 simp only [Nat.mul_add] at q r
 have key:∀ N aQ:Nat,D*N≤D*aQ+(D - 1)→N≤aQ:=by
  intro N aQ Z
  refine Nat.le_of_not_lt fun F=>?_
  have:=Nat.mul_le_mul_left D (show aQ+1≤N by omega)
  rw [Nat.mul_add] at this;omega
 refine⟨key _ _ ?_,key _ _ ?_,key _ _ ?_⟩ <;> (simp only [Nat.mul_add,Nat.mul_left_comm D];omega)
structure sH(aA bQ a5:Nat):Prop where
 le:bQ≤a5
 Nr:dB aA≤bQ+262144
 EE:bQ≤dB aA+262144
 Im:dB aA≤a5+262144
 v7:a5≤dB aA+262144
theorem JT{aA aF a:Nat}(b:aA≤4400)(c:e0 5 aA aF=0)(d:e0 239 aA a=0)(S:2*aF≤aA+1)(l:2*a≤aA+1):
  4*(dJ 239 aA a - dK 239 aA a)≤16*(dJ 5 aA aF - dK 5 aA aF)+17400∧
  sH aA (16*(dJ 5 aA aF - dK 5 aA aF) - 4*(dJ 239 aA a - dK 239 aA a) - (16*(2+3*aF)+4*(2+3*a)))
   (16*(dJ 5 aA aF - dK 5 aA aF) - 4*(dJ 239 aA a - dK 239 aA a)+(16*(2+3*aF)+4*(2+3*a))):=by
 obtain⟨aV,aY,e⟩:=Ng b c d
 generalize 16*(dJ 5 aA aF - dK 5 aA aF)=f at *
 generalize 4*(dJ 239 aA a - dK 239 aA a)=bA at *
 exact⟨aV,⟨by omega,by omega,by omega,by omega,by omega⟩⟩
noncomputable def sI(f:Nat→Bool)(n:Nat):Bool:=Nat.rec true (fun S bO=>f S && bO) n
theorem wE{f:Nat→Bool}{n:Nat}(Z:sI f n=true):∀ S,S < n→f S=true:=by
 induction n with
 | zero=>intro S b;omega
 | succ n bO=>
  intro S b
  have aB:(f n && sI f n)=true:=Z
  rw [Bool.and_eq_true] at aB
  rcases Nat.lt_or_ge S n with a | a
  ·exact bO aB.2 S a
  ·rw [show S=n by omega];exact aB.1
theorem y0(aA g:Nat)(Z:aA+g≤4400):dB (aA+g) / 2 ^ g=dB aA:=by
 unfold dB
 rw [Nat.div_div_eq_div_mul,← Nat.pow_add];congr 2;omega
def FW(p:Nat):Bool:=Nat.ble 262144 (g1 / 2 ^ (4352 - p) % 281474976710656) && Nat.ble (g1 / 2 ^ (4352 - p) % 281474976710656) 281474976448511
theorem Nh:sI FW 4200=true:=by kernel_rfl
theorem JU{p bQ a5:Nat}(a:p < 4200)(m:sH (p+48) bQ a5):bQ / 281474976710656=dB p∧a5 / 281474976710656=dB p:=by
 have Z:=wE Nh p a
 simp only [FW,Bool.and_eq_true,Nat.ble_eq] at Z
 have O:g1 / 2 ^ (4352 - p)=dB (p+48):=by unfold dB;congr 2;omega
 rw [O] at Z
 have b:=y0 p 48 (by omega)
 rw [show(2:Nat) ^ 48=281474976710656 by decide] at b
 obtain⟨c,d,e,f,g⟩:=m
 omega
def oX(p:Nat):Nat:=rI / 2 ^ (4400 - p)
def FX(p:Nat):Bool:=
 Nat.ble (rI / 2 ^ (4400 - p)*(g1 / 2 ^ (4352 - p)+262144)) (2 ^ (2*p+49)) && Nat.blt (2 ^ (2*p+49)) ((rI / 2 ^ (4400 - p)+1)*(g1 / 2 ^ (4352 - p) - 262144))
theorem Ni:sI FX 1500=true:=by kernel_rfl
theorem uX{aA:Nat}(a:aA≤4400):3*2 ^ aA≤dB aA:=by
 unfold dB
 rw [Nat.le_div_iff_mul_le (Nat.pow_pos (by decide)),Nat.mul_assoc,← Nat.pow_add,show aA+(4400 - aA)=4400 by omega]
 exact Nat.le_of_ble_eq_true (by kernel_rfl)
theorem JW{p bQ a5:Nat}(c:p < 1500)(m:sH (p+48) bQ a5):bQ ≠ 0∧2 ^ (2*p+49) / bQ=oX p∧2 ^ (2*p+49) / a5=oX p:=by
 have Z:=wE Ni p c
 simp only [FX,Bool.and_eq_true,Nat.ble_eq,Nat.blt_eq] at Z
 have O:g1 / 2 ^ (4352 - p)=dB (p+48):=by unfold dB;congr 2;omega
 have d:rI / 2 ^ (4400 - p)=oX p:=rfl
 rw [O,d] at Z
 have h:=uX (show p+48≤4400 by omega)
 have e:2 ^ 48≤2 ^ (p+48):=Nat.pow_le_pow_right (by decide) (by omega)
 rw [show(2:Nat) ^ 48=281474976710656 by decide] at e
 obtain⟨i,j,k,l,n⟩:=m
 generalize 2 ^ (2*p+49)=T at *
 generalize oX p=v at *
 generalize 2 ^ (p+48)=Q at *
 generalize dB (p+48)=a1 at *
 have f:0 < bQ:=by omega
 have key:∀ bM,a1 - 262144≤bM→bM≤a1+262144→0 < bM→T / bM=v:=by
  intro bM aY g b
  have a:=Nat.mul_le_mul_left v g
  have K:=Nat.mul_le_mul_left (v+1) aY
  refine Nat.le_antisymm ?_ ?_
  ·exact Nat.le_of_lt_succ ((Nat.div_lt_iff_lt_mul b).mpr (show T < (v+1)*bM by omega))
  ·exact(Nat.le_div_iff_mul_le b).mpr (by omega)
 exact⟨by omega,key bQ (by omega) (by omega) f,key a5 (by omega) (by omega) (by omega)⟩
noncomputable def nH{c7:Type}(n:Nat)(f:Nat→c7):c7:=Nat.rec (f 0) (fun S _=>f (S+1)) n
theorem Bm{c7:Type}(n:Nat)(f:Nat→c7):nH n f=f n:=by cases n <;> rfl
def l6(a K:Nat):Nat:=bif Nat.ble a K then a else K
theorem mS(a K:Nat):l6 a K=min a K:=by
 unfold l6
 cases Z:Nat.ble a K with
 | true=>have:=Nat.le_of_ble_eq_true Z;simp only [cond_true];omega
 | false=>
  have:¬ a≤K:=fun b=>by rw [Nat.ble_eq_true_of_le b] at Z;cases Z
  simp only [cond_false];omega
def gT(a K n:Nat):Nat:=l6 (a / K) n
def k6(a t K n:Nat):Nat:=l6 (a+t*K) (n+1)
noncomputable def q0(n:Nat)(bO:Nat→Nat→Nat→Nat→Nat→Nat→Option (Nat × Nat))(N R aT cB r c0:Nat):Option (Nat × Nat):=
 nH (l6 (gT N aT n) ((n - 1 - R) / cB)) fun t=>nH (N - aT*t) fun N=>nH (R+t*cB) fun R=>
 bif Nat.blt (n - 1) (R+cB) || (Nat.beq N 0 || Nat.ble aT N) then some (R,N) else
 nH (gT r aT n) fun t=>nH (r - aT*t) fun r=>nH (bif Nat.beq t 0 then c0 else k6 c0 t cB n) fun c0=>
 bif Nat.beq r 0 || Nat.blt n c0 then some (R,N) else
 nH (gT (aT - N) r n) fun t=>nH (bif Nat.blt (r*t) (aT - N) then t+1 else t) fun t=>nH (l6 t (gT aT r n)) fun t=>
 bif Nat.beq t 0 then some (R,N) else
 nH (aT - r*t) fun aT=>nH (k6 cB t c0 n) fun cB=>
 bif Nat.beq aT 0 || Nat.blt n cB then some (R,N) else bO N R aT cB r c0
noncomputable def y7(n:Nat)(f:Nat):Nat→Nat→Nat→Nat→Nat→Nat→Option (Nat × Nat):=
 Nat.rec (fun _ _ _ _ _ _=>none) (fun _ bO=>q0 n bO) f
structure jG(cH a cB c0 aT r:Nat):Prop where
 gH:0 < cB
 h2:0 < c0
 FY:aT≤cH
 FZ:r < cH
 rd:(c0*a) % cH=r
 lO:(cB*a+aT) % cH=0
 fG:∀ aC,0 < aC→aC < cB+c0→r≤(aC*a) % cH
 eM:∀ aC,0 < aC→aC < cB+c0→aT+(aC*a) % cH≤cH
theorem xA{cH aQ aT aA N:Nat}(a:0 < cH)(d:aQ % cH=N)(b:(aA+aT) % cH=0)(Z:aT≤N):(aQ+aA) % cH=N - aT:=by
 have aY:=Nat.div_add_mod aQ cH
 have c:=Nat.div_add_mod (aA+aT) cH
 have e:=Nat.mod_lt aQ a
 rw [b] at c
 have O:aQ+aA=N - aT+cH*(aQ / cH+(aA+aT) / cH):=by rw [Nat.mul_add];omega
 rw [O,Nat.add_mul_mod_self_left,Nat.mod_eq_of_lt (by omega)]
theorem zN{cH aQ aA N r:Nat}(a:aQ % cH=N)(b:aA % cH=r)(Z:N+r < cH):(aQ+aA) % cH=N+r:=by
 rw [Nat.add_mod,a,b,Nat.mod_eq_of_lt Z]
theorem jG.up{cH a cB c0 aT r:Nat}(t:jG cH a cB c0 aT r)(b:0 < cH)(Z:aT≤r):jG cH a cB (c0+cB) aT (r - aT):=by
 have d:=t.FZ
 refine⟨t.gH,by have:=t.h2;omega,t.FY,by omega,?_,t.lO,fun aC aV aY=>?_,fun aC aV aY=>?_⟩
 ·rw [Nat.add_mul];exact xA b t.rd t.lO Z
 ·by_cases c:aC < cB+c0
  ·have:=t.fG aC aV c;omega
  ·obtain⟨S,rfl⟩:∃ S,aC=S+cB:=⟨aC - cB,by omega⟩
   have:=t.fG S (by have:=t.h2;omega) (by omega)
   rw [Nat.add_mul,xA b rfl t.lO (by omega)];omega
 ·by_cases c:aC < cB+c0
  ·exact t.eM aC aV c
  ·obtain⟨S,rfl⟩:∃ S,aC=S+cB:=⟨aC - cB,by omega⟩
   have:=t.fG S (by have:=t.h2;omega) (by omega)
   have:=Nat.mod_lt (S*a) b
   rw [Nat.add_mul,xA b rfl t.lO (by omega)];omega
theorem jG.F0{cH a cB aT:Nat}(b:0 < cH):∀ (S:Nat) {c0 r:Nat},jG cH a cB c0 aT r→aT*S≤r→jG cH a cB (c0+S*cB) aT (r - aT*S)
 | 0,c0,r,t,_=>by simpa using t
 | S+1,c0,r,t,Z=>by
  rw [Nat.mul_add,Nat.mul_one] at Z
  have:=jG.F0 b S (t.up b (by omega)) (by omega)
  rw [show c0+(S+1)*cB=c0+cB+S*cB by rw [Nat.add_mul];omega,show r - aT*(S+1)=r - aT - aT*S by rw [Nat.mul_add];omega]
  exact this
theorem jG.BE{cH a cB c0 aT r:Nat}(t:jG cH a cB c0 aT r)(e:0 < cH)(Z:r < aT):jG cH a (cB+c0) c0 (aT - r) r:=by
 have f:=t.FY
 have c:((cB+c0)*a+(aT - r)) % cH=0:=by
  have aY:=Nat.div_add_mod (cB*a+aT) cH
  have d:=Nat.div_add_mod (c0*a) cH
  rw [t.lO] at aY;rw [t.rd] at d
  have O:(cB+c0)*a+(aT - r)=cH*((cB*a+aT) / cH+c0*a / cH):=by rw [Nat.mul_add,Nat.add_mul];omega
  rw [O,Nat.mul_mod_right]
 refine⟨by have:=t.gH;omega,t.h2,by omega,t.FZ,t.rd,c,fun aC aV aY=>?_,fun aC aV aY=>?_⟩
 ·by_cases b:aC < cB+c0
  ·exact t.fG aC aV b
  ·obtain⟨S,rfl⟩:∃ S,aC=S+c0:=⟨aC - c0,by omega⟩
   have:=t.eM S (by have:=t.gH;omega) (by omega)
   rw [Nat.add_mul,zN rfl t.rd (by omega)];omega
 ·by_cases b:aC < cB+c0
  ·have:=t.eM aC aV b;omega
  ·obtain⟨S,rfl⟩:∃ S,aC=S+c0:=⟨aC - c0,by omega⟩
   have:=t.eM S (by have:=t.gH;omega) (by omega)
   rw [Nat.add_mul,zN rfl t.rd (by omega)];omega
theorem jG.BQ{cH a c0 r:Nat}(b:0 < cH):∀ (S:Nat) {cB aT:Nat},jG cH a cB c0 aT r→r*S < aT→jG cH a (cB+S*c0) c0 (aT - r*S) r
 | 0,cB,aT,t,_=>by simpa using t
 | S+1,cB,aT,t,Z=>by
  rw [Nat.mul_add,Nat.mul_one] at Z
  have:=jG.BQ b S (t.BE b (by omega)) (by omega)
  rw [show cB+(S+1)*c0=cB+c0+S*c0 by rw [Nat.add_mul];omega,show aT - r*(S+1)=aT - r - r*S by rw [Nat.mul_add];omega]
  exact this
structure mU(cH a aX n R N cB:Nat):Prop where
 sZ:(aX+R*a) % cH=N
 a5:R < n
 pre:∀ aC,aC≤R→N≤(aX+aC*a) % cH
 c:∀ aC,0 < aC→aC < cB→N+(aC*a) % cH < cH
def xB(cH a aX n R N:Nat):Prop:=R < n∧(aX+R*a) % cH=N∧∀ aC,aC < n→N≤(aX+aC*a) % cH
theorem mU.fin{cH a aX n R N cB:Nat}(aI:mU cH a aX n R N cB)(Z:∀ aC,0 < aC→R+aC < n→N+(aC*a) % cH < cH):xB cH a aX n R N:=by
 refine⟨aI.a5,aI.sZ,fun aC b=>?_⟩
 by_cases c:aC≤R
 ·exact aI.pre aC c
 ·obtain⟨S,rfl⟩:∃ S,aC=R+S:=⟨aC - R,by omega⟩
  rw [Nat.add_mul,← Nat.add_assoc,zN aI.sZ rfl (Z S (by omega) b)];omega
theorem mU.Nj{cH a aX n R N cB aT:Nat}(aI:mU cH a aX n R N cB)(b:0 < cH)(gH:0 < cB)(lO:(cB*a+aT) % cH=0)(Z:aT≤N)(a5:R+cB < n):mU cH a aX n (R+cB) (N - aT) cB:=by
 refine⟨?_,a5,fun aC f=>?_,fun aC aV aY=>by have:=aI.c aC aV aY;omega⟩
 ·rw [Nat.add_mul,← Nat.add_assoc];exact xA b aI.sZ lO Z
 ·by_cases d:aC≤R
  ·have:=aI.pre aC d;omega
  ·obtain⟨S,rfl⟩:∃ S,aC=R+S:=⟨aC - R,by omega⟩
   by_cases e:S=cB
   ·subst e;rw [Nat.add_mul,← Nat.add_assoc,xA b aI.sZ lO Z];omega
   ·rw [Nat.add_mul,← Nat.add_assoc,zN aI.sZ rfl (aI.c S (by omega) (by omega))];omega
theorem mU.F1{cH a aX n cB aT:Nat}(b:0 < cH)(gH:0 < cB)(lO:(cB*a+aT) % cH=0):∀ (S:Nat) {R N:Nat},mU cH a aX n R N cB→aT*S≤N→R+S*cB < n→mU cH a aX n (R+S*cB) (N - aT*S) cB
 | 0,R,N,aI,_,_=>by simpa using aI
 | S+1,R,N,aI,Z,a5=>by
  rw [Nat.mul_add,Nat.mul_one] at Z
  rw [Nat.add_mul,Nat.one_mul] at a5
  have:=mU.F1 b gH lO S (aI.Nj b gH lO (by omega) (by omega)) (by omega) (by omega)
  rw [show R+(S+1)*cB=R+cB+S*cB by rw [Nat.add_mul];omega,show N - aT*(S+1)=N - aT - aT*S by rw [Nat.mul_add];omega]
  exact this
theorem period{cH a p N:Nat}(e:N < cH)(aV:(p*a) % cH=0)(b:0 < p)(Z:∀ aC,0 < aC→aC < p→N+(aC*a) % cH < cH):∀ aC,N+(aC*a) % cH < cH:=by
 intro aC
 have O:=Nat.div_add_mod aC p
 have c:(aC*a) % cH=(aC % p*a) % cH:=by
  have:aC*a=aC % p*a+cH*(p*a / cH*(aC / p)):=by
   have aY:=Nat.div_add_mod (p*a) cH
   rw [aV,Nat.add_zero] at aY
   rw [← Nat.mul_assoc,aY]
   calc aC*a=(p*(aC / p)+aC % p)*a:=by rw [O]
    _=aC % p*a+p*a*(aC / p):=by rw [Nat.add_mul,Nat.mul_right_comm];omega
  rw [this,Nat.add_mul_mod_self_left]
 rw [c]
 by_cases d:aC % p=0
 ·rw [d,Nat.zero_mul,Nat.zero_mod];omega
 ·exact Z _ (by omega) (Nat.mod_lt _ b)
theorem Nk{cH a aX n:Nat}(g:0 < cH){bO:Nat→Nat→Nat→Nat→Nat→Nat→Option (Nat × Nat)}
  (w:∀ N R aT cB r c0,mU cH a aX n R N cB→jG cH a cB c0 aT r→0 < aT→∀ p,bO N R aT cB r c0=some p→xB cH a aX n p.1 p.2)
  {N R aT cB r c0:Nat} (aI:mU cH a aX n R N cB) (i:jG cH a cB c0 aT r) (d0:0 < aT) {p:Nat × Nat} (Z:q0 n bO N R aT cB r c0=some p):xB cH a aX n p.1 p.2:=by
 unfold q0 at Z
 simp only [Bm,mS,gT,k6] at Z
 have a5:=aI.a5
 have gH:=i.gH
 have h2:=i.h2
 generalize J:min (min (N / aT) n) ((n - 1 - R) / cB)=t at Z
 have t1:aT*t≤N:=Nat.le_trans (Nat.mul_le_mul_left aT (show t≤N / aT by omega)) (Nat.mul_div_le N aT)
 have t2:t*cB≤n - 1 - R:=(Nat.le_div_iff_mul_le gH).mp (by omega)
 have e:=mU.F1 g gH i.lO t aI t1 (by omega)
 have P:N - aT*t < aT∨n - 1 < R+t*cB+cB:=by
  by_cases c:t=N / aT
  ·left
   have:=Nat.div_add_mod N aT
   have:=Nat.mod_lt N d0
   rw [c];omega
  ·right
   have bG:t=(n - 1 - R) / cB:=by
    have:(n - 1 - R) / cB≤n - 1 - R:=Nat.div_le_self _ _
    omega
   have:=Nat.lt_mul_div_succ (n - 1 - R) gH
   rw [← bG,Nat.mul_add,Nat.mul_comm cB t] at this;omega
 have o:N - aT*t < cH:=by have:=Nat.mod_lt (aX+R*a) g;rw [aI.sZ] at this;omega
 generalize N - aT*t=aQ at *
 generalize R+t*cB=S at *
 cases aG:(Nat.blt (n - 1) (S+cB) || (Nat.beq aQ 0 || Nat.ble aT aQ)) with
 | true=>
  rw [aG,cond_true] at Z
  obtain rfl:=Option.some.inj Z
  simp only [Bool.or_eq_true,Nat.blt_eq,Nat.beq_eq,Nat.ble_eq] at aG
  refine e.fin fun aC d j=>?_
  by_cases Q:aQ=0
  ·have:=Nat.mod_lt (aC*a) g;omega
  ·exact e.c aC d (by omega)
 | false=>
  rw [aG,cond_false] at Z
  replace aG:=ne_true_of_eq_false aG
  simp only [Bool.or_eq_true,Nat.blt_eq,Nat.beq_eq,Nat.ble_eq,not_or] at aG
  obtain⟨T,V,Nv⟩:=aG
  generalize hu:min (r / aT) n=cU at Z
  have eB:aT*cU≤r:=Nat.le_trans (Nat.mul_le_mul_left aT (show cU≤r / aT by omega)) (Nat.mul_div_le r aT)
  have f:=jG.F0 g cU i eB
  have k:(bif Nat.beq cU 0 then c0 else min (c0+cU*cB) (n+1))=min (c0+cU*cB) (n+1)∨cU=0∧(bif Nat.beq cU 0 then c0 else min (c0+cU*cB) (n+1))=c0:=by
   cases O:Nat.beq cU 0 with
   | true=>exact Or.inr ⟨by simpa using O,rfl⟩
   | false=>exact Or.inl rfl
  generalize (bif Nat.beq cU 0 then c0 else min (c0+cU*cB) (n+1))=b at *
  have x:cU < n→r - aT*cU < aT:=by
   intro y
   have:=Nat.div_add_mod r aT
   have:=Nat.mod_lt r d0
   rw [show cU=r / aT by omega];omega
  have z:¬ cU < n→n < b:=by
   intro y
   have:cU*1≤cU*cB:=Nat.mul_le_mul_left cU gH
   rcases k with O | ⟨l,q⟩
   ·omega
   ·omega
  have A:n < b→n < c0+cU*cB:=by
   intro s
   rcases k with O | ⟨l,q⟩
   ·omega
   ·have:=Nat.zero_le (cU*cB);omega
  have B:¬ n < b→b=c0+cU*cB:=by
   intro s
   rcases k with O | ⟨l,q⟩
   ·omega
   ·subst l;rw [Nat.zero_mul];omega
  generalize r - aT*cU=aE at *
  cases bG:(Nat.beq aE 0 || Nat.blt n b) with
  | true=>
   rw [bG,cond_true] at Z
   obtain rfl:=Option.some.inj Z
   simp only [Bool.or_eq_true,Nat.blt_eq,Nat.beq_eq] at bG
   refine e.fin fun aC d j=>?_
   rcases bG with O | O
   ·subst O
    refine period o f.rd f.h2 (fun aC d j=>?_) aC
    have:=f.eM aC d (by omega);omega
   ·have:=f.eM aC d (by have:=A O;omega);omega
  | false=>
   rw [bG,cond_false] at Z
   replace bG:=ne_true_of_eq_false bG
   simp only [Bool.or_eq_true,Nat.blt_eq,Nat.beq_eq,not_or] at bG
   obtain⟨Nw,u⟩:=bG
   obtain rfl:=B u
   have Nx:=x (by refine Nat.lt_of_not_le fun s=>?_;exact u (z (by omega)))
   generalize c0+cU*cB=b at *
   generalize bP:min ((aT - aQ) / aE) n=v at Z
   have Ny:aE*v≤aT - aQ:=Nat.le_trans (Nat.mul_le_mul_left aE (show v≤(aT - aQ) / aE by omega)) (Nat.mul_div_le (aT - aQ) aE)
   generalize h:(bif Nat.blt (aE*v) (aT - aQ) then v+1 else v)=aA at Z
   have C:aA ≠ 0→aE*(aA - 1) < aT - aQ:=by
    intro iQ
    cases O:Nat.blt (aE*v) (aT - aQ) with
    | true=>rw [O,cond_true] at h;rw [Nat.blt_eq] at O;rw [← h,Nat.add_sub_cancel];exact O
    | false=>
     rw [O,cond_false] at h
     subst h
     have:aE*v=aE*(v - 1)+aE:=by
      conv=>lhs;rw [show v=v - 1+1 by omega]
      rw [Nat.mul_add,Nat.mul_one]
     omega
   generalize Nz:min aA (min (aT / aE) n)=bM at Z
   have NA:aE*bM≤aT:=Nat.le_trans (Nat.mul_le_mul_left aE (show bM≤aT / aE by omega)) (Nat.mul_div_le aT aE)
   cases dA:Nat.beq bM 0 with
   | true=>
    exfalso
    rw [Nat.beq_eq] at dA
    have:0 < aT / aE:=Nat.div_pos (by omega) (by omega)
    have iQ:aA=0:=by omega
    cases O:Nat.blt (aE*v) (aT - aQ) with
    | true=>rw [O,cond_true] at h;omega
    | false=>
     rw [O,cond_false] at h
     have D:¬ aE*v < aT - aQ:=by rw [← Nat.blt_eq,O];decide
     rw [show v=0 by omega,Nat.mul_zero] at D;omega
   | false=>
    rw [dA,cond_false] at Z
    have NB:bM ≠ 0:=by intro O;rw [O] at dA;cases dA
    have iQ:aA ≠ 0:=by omega
    have NC:aE*(bM - 1) < aT - aQ:=Nat.lt_of_le_of_lt (Nat.mul_le_mul_left aE (by omega)) (C iQ)
    have ND:aE*bM=aE*(bM - 1)+aE:=by
     conv=>lhs;rw [show bM=bM - 1+1 by omega]
     rw [Nat.mul_add,Nat.mul_one]
    have E:bM*b=(bM - 1)*b+b:=by
     conv=>lhs;rw [show bM=bM - 1+1 by omega]
     rw [Nat.add_mul,Nat.one_mul]
    have m:=jG.BQ g (bM - 1) f (by omega)
    have eE:∀ aC,0 < aC→aC < cB+bM*b→aQ+(aC*a) % cH < cH:=by
     intro aC d j
     have:=m.eM aC d (by omega);omega
    have NF:=f.h2
    cases bW:(Nat.beq (aT - aE*bM) 0 || Nat.blt n (min (cB+bM*b) (n+1))) with
    | true=>
     rw [bW,cond_true] at Z
     obtain rfl:=Option.some.inj Z
     simp only [Bool.or_eq_true,Nat.blt_eq,Nat.beq_eq] at bW
     refine e.fin fun aC d j=>?_
     rcases bW with O | O
     ·have dG:aT - aE*(bM - 1)=aE:=by omega
      have F:((cB+bM*b)*a) % cH=0:=by
       have aY:=Nat.div_add_mod ((cB+(bM - 1)*b)*a+(aT - aE*(bM - 1))) cH
       rw [m.lO] at aY
       have G:=Nat.div_add_mod (b*a) cH
       rw [m.rd] at G
       have H:(cB+bM*b)*a=cH*(((cB+(bM - 1)*b)*a+(aT - aE*(bM - 1))) / cH+b*a / cH):=by
        rw [E,← Nat.add_assoc,Nat.add_mul,Nat.mul_add];omega
       rw [H,Nat.mul_mod_right]
      exact period o F (by omega) eE aC
     ·exact eE aC d (by omega)
    | false=>
     rw [bW,cond_false] at Z
     replace bW:=ne_true_of_eq_false bW
     simp only [Bool.or_eq_true,Nat.blt_eq,Nat.beq_eq,not_or] at bW
     obtain⟨NG,NH⟩:=bW
     have O:min (cB+bM*b) (n+1)=cB+bM*b:=by omega
     rw [O] at Z
     have I:=jG.BQ g bM f (by omega)
     exact w _ _ _ _ _ _ ⟨e.sZ,e.a5,e.pre,eE⟩ I (by omega) p Z
theorem F2{cH a aX n:Nat}(b:0 < cH):∀ (f:Nat) (N R aT cB r c0:Nat),mU cH a aX n R N cB→jG cH a cB c0 aT r→0 < aT→∀ p,y7 n f N R aT cB r c0=some p→xB cH a aX n p.1 p.2
 | 0,_,_,_,_,_,_,_,_,_,_,Z=>by cases Z
 | f+1,N,R,aT,cB,r,c0,aI,c,d0,p,Z=>Nk b (F2 b f) aI c d0 Z
noncomputable def gX{c7:Type}(n:Nat)(f:Nat→c7):c7:=Nat.rec (f 0) (fun S _=>f (Nat.succ S)) n
theorem kO{c7:Type}(n:Nat)(f:Nat→c7):gX n f=f n:=by cases n <;> rfl
noncomputable def F3(n:Nat)(bO:Nat→Nat→Nat→Nat→Nat→Nat→Option (Nat × Nat))(N R aT cB r c0:Nat):Option (Nat × Nat):=
 gX (Nat.div (Nat.sub (Nat.add aT r) (Nat.succ N)) r) fun t=>gX (Nat.div aT r) fun t2=>gX (Nat.sub t (Nat.sub t t2)) fun t=>gX (Nat.sub aT (Nat.mul r t)) fun aT=>gX (Nat.add cB (Nat.mul t c0)) fun cB=>
 cond (Nat.ble aT 0) (some (R,N)) <| cond (Nat.ble cB n) (bO N R aT cB r c0) (some (R,N))
noncomputable def F4(n:Nat)(bO:Nat→Nat→Nat→Nat→Nat→Nat→Option (Nat × Nat))(N R aT cB r c0:Nat):Option (Nat × Nat):=
 gX (Nat.add c0 (Nat.mul (Nat.div r aT) cB)) fun c0=>cond (Nat.ble c0 n) (gX (Nat.mod r aT) fun r=>cond (Nat.ble r 0) (some (R,N)) (F3 n bO N R aT cB r c0)) (some (R,N))
noncomputable def BR(n:Nat)(bO:Nat→Nat→Nat→Nat→Nat→Nat→Option (Nat × Nat))(N R aT cB r c0:Nat):Option (Nat × Nat):=
 gX (Nat.div N aT) fun t=>gX (Nat.sub t (Nat.sub t (Nat.div (Nat.sub (Nat.sub n 1) R) cB))) fun t=>gX (Nat.sub N (Nat.mul aT t)) fun N=>gX (Nat.add R (Nat.mul t cB)) fun R=>
 cond (Nat.ble n (Nat.add R cB)) (some (R,N)) <| cond (Nat.ble N 0) (some (R,N)) <| F4 n bO N R aT cB r c0
noncomputable def F5(n:Nat)(f:Nat):Nat→Nat→Nat→Nat→Nat→Nat→Option (Nat × Nat):=
 Nat.rec (fun _ _ _ _ _ _=>none) (fun _ bO=>BR n bO) f
theorem Nl(a K:Nat):a - (a - K)=min a K:=by omega
theorem pR{c7:Type}(a K:Nat)(N aQ:c7):cond (Nat.ble a K) N aQ=if a≤K then N else aQ:=by
 cases Z:Nat.ble a K with
 | true=>rw [if_pos (Nat.le_of_ble_eq_true Z)];rfl
 | false=>rw [if_neg (fun b=>by rw [Nat.ble_eq_true_of_le b] at Z;cases Z)];rfl
theorem Nm{g r:Nat}(a:0 < r)(b:0 < g):(bif Nat.blt (r*(g / r)) g then g / r+1 else g / r)=(g+r - 1) / r:=by
 have aY:=Nat.div_add_mod g r
 have c:=Nat.mod_lt g a
 cases Z:Nat.blt (r*(g / r)) g with
 | true=>
  rw [Nat.blt_eq] at Z
  show g / r+1=_
  have O:g+r - 1=(g % r - 1)+r*(g / r+1):=by rw [Nat.mul_add,Nat.mul_one];omega
  rw [O,Nat.add_mul_div_left _ _ a,Nat.div_eq_of_lt (show g % r - 1 < r by omega)];omega
 | false=>
  replace Z:=ne_true_of_eq_false Z
  rw [Nat.blt_eq] at Z
  show g / r=_
  have O:g+r - 1=(r - 1)+r*(g / r):=by omega
  rw [O,Nat.add_mul_div_left _ _ a,Nat.div_eq_of_lt (show r - 1 < r by omega)];omega
theorem Bo(a K:Nat):Nat.div a K=a / K:=rfl
theorem wM(a K:Nat):Nat.mod a K=a % K:=rfl
theorem Nn{n:Nat}{bO h:Nat→Nat→Nat→Nat→Nat→Nat→Option (Nat × Nat)}(i:∀ N R aT cB r c0 p,0 < aT→0 < cB→0 < c0→R < n→bO N R aT cB r c0=some p→h N R aT cB r c0=some p)
  {N R aT cB r c0:Nat} (d0:0 < aT) (gH:0 < cB) (h2:0 < c0) (a5:R < n) {p:Nat × Nat} (Z:BR n bO N R aT cB r c0=some p):q0 n h N R aT cB r c0=some p:=by
 unfold q0
 simp only [Bm,mS,gT,k6]
 unfold BR F4 F3 at Z
 simp only [kO,pR,Nat.sub_eq,Nat.add_eq,Nat.mul_eq,Bo,wM,Nl,Nat.succ_eq_add_one] at Z
 have w:(n - 1 - R) / cB≤n - 1 - R:=Nat.div_le_self _ _
 have j:min (min (N / aT) n) ((n - 1 - R) / cB)=min (N / aT) ((n - 1 - R) / cB):=by omega
 rw [j]
 have x:N - aT*min (N / aT) ((n - 1 - R) / cB) < aT∨n - 1 < R+min (N / aT) ((n - 1 - R) / cB)*cB+cB:=by
  by_cases c:min (N / aT) ((n - 1 - R) / cB)=N / aT
  ·left
   have:=Nat.div_add_mod N aT
   have:=Nat.mod_lt N d0
   rw [c];omega
  ·right
   have bG:min (N / aT) ((n - 1 - R) / cB)=(n - 1 - R) / cB:=by omega
   have:=Nat.lt_mul_div_succ (n - 1 - R) gH
   rw [bG]
   rw [Nat.mul_add,Nat.mul_comm cB ((n - 1 - R) / cB)] at this;omega
 have t2:min (N / aT) ((n - 1 - R) / cB)*cB≤n - 1 - R:=(Nat.le_div_iff_mul_le gH).mp (by omega)
 generalize min (N / aT) ((n - 1 - R) / cB)=t at *
 have k:R+t*cB < n:=by omega
 generalize N - aT*t=aQ at *
 generalize R+t*cB=S at *
 have a:∀ {K:Bool} {b bA:Option (Nat × Nat)},K=true→(bif K then b else bA)=b:=fun O=>by rw [O];rfl
 have d:∀ {K:Bool} {b bA:Option (Nat × Nat)},¬ K=true→(bif K then b else bA)=bA:=fun O=>by
  rw [Bool.not_eq_true] at O;rw [O];rfl
 by_cases aG:n≤S+cB
 ·rw [if_pos aG] at Z
  rw [a (by simp only [Bool.or_eq_true,Nat.blt_eq,Nat.beq_eq,Nat.ble_eq];left;omega)];exact Z
 rw [if_neg aG] at Z
 by_cases bG:aQ≤0
 ·rw [if_pos bG] at Z
  rw [a (by simp only [Bool.or_eq_true,Nat.blt_eq,Nat.beq_eq,Nat.ble_eq];right;left;omega)];exact Z
 rw [if_neg bG] at Z
 rw [d (by simp only [Bool.or_eq_true,Nat.blt_eq,Nat.beq_eq,Nat.ble_eq];omega)]
 have y:r / aT*1≤r / aT*cB:=Nat.mul_le_mul_left _ gH
 have z:n*1≤n*cB:=Nat.mul_le_mul_left _ gH
 have l:∀ cU,(bif Nat.beq cU 0 then c0 else min (c0+cU*cB) (n+1))=if cU=0 then c0 else min (c0+cU*cB) (n+1):=by
  intro cU
  by_cases hu:cU=0
  ·subst hu;rfl
  ·rw [if_neg hu];cases cU with
   | zero=>exact absurd rfl hu
   | succ cU=>rfl
 rw [l]
 by_cases dA:¬ c0+r / aT*cB≤n
 ·rw [if_neg dA] at Z
  rw [a]
  ·exact Z
  ·simp only [Bool.or_eq_true,Nat.blt_eq,Nat.beq_eq]
   right
   by_cases hu:r / aT≤n
   ·rw [Nat.min_eq_left hu]
    split
    ·rename_i O;rw [O,Nat.zero_mul] at dA;omega
    ·omega
   ·rw [Nat.min_eq_right (by omega)]
    split <;> omega
 replace dA:=Decidable.not_not.mp dA
 rw [if_pos dA] at Z
 have hu:min (r / aT) n=r / aT:=by omega
 rw [hu]
 have m:(if r / aT=0 then c0 else min (c0+r / aT*cB) (n+1))=c0+r / aT*cB:=by
  split
  ·rename_i O;rw [O,Nat.zero_mul];rfl
  ·omega
 rw [m]
 have o:r - aT*(r / aT)=r % aT:=by have:=Nat.div_add_mod r aT;omega
 rw [o]
 have A:=Nat.mod_lt r d0
 have e:0 < c0+r / aT*cB:=by omega
 generalize c0+r / aT*cB=f at *
 generalize r % aT=aE at *
 by_cases eE:aE≤0
 ·rw [if_pos eE] at Z
  rw [a (by simp only [Bool.or_eq_true,Nat.blt_eq,Nat.beq_eq];left;omega)];exact Z
 rw [if_neg eE] at Z
 rw [d (by simp only [Bool.or_eq_true,Nat.blt_eq,Nat.beq_eq];omega)]
 have q:min (bif Nat.blt (aE*min ((aT - aQ) / aE) n) (aT - aQ) then min ((aT - aQ) / aE) n+1 else min ((aT - aQ) / aE) n) (min (aT / aE) n)=min (min ((aT+aE - (aQ+1)) / aE) (aT / aE)) n:=by
  have s:aT+aE - (aQ+1)=aT - aQ+aE - 1:=by omega
  have u:=Nm (g:=aT - aQ) (r:=aE) (by omega) (by omega)
  have B:(aT - aQ) / aE≤aT / aE:=Nat.div_le_div_right (by omega)
  rw [s,← u]
  by_cases bP:(aT - aQ) / aE≤n
  ·rw [Nat.min_eq_left bP];omega
  ·rw [Nat.min_eq_right (show n≤(aT - aQ) / aE by omega)]
   cases C:Nat.blt (aE*n) (aT - aQ) <;> cases D:Nat.blt (aE*((aT - aQ) / aE)) (aT - aQ) <;> simp only [cond_true,cond_false] <;> omega
 rw [q]
 have E:0 < min ((aT+aE - (aQ+1)) / aE) (aT / aE):=by
  have aJ:0 < (aT+aE - (aQ+1)) / aE:=Nat.div_pos (by omega) (by omega)
  have bL:0 < aT / aE:=Nat.div_pos (by omega) (by omega)
  omega
 generalize min ((aT+aE - (aQ+1)) / aE) (aT / aE)=bM at *
 rw [d (by simp only [Nat.beq_eq];omega)]
 by_cases v:bM≤n
 ·rw [Nat.min_eq_left v]
  by_cases bW:aT - aE*bM≤0
  ·rw [if_pos bW] at Z
   rw [a (by simp only [Bool.or_eq_true,Nat.blt_eq,Nat.beq_eq];left;omega)];exact Z
  rw [if_neg bW] at Z
  by_cases bB:cB+bM*f≤n
  ·rw [if_pos bB] at Z
   rw [d (by simp only [Bool.or_eq_true,Nat.blt_eq,Nat.beq_eq];omega),Nat.min_eq_left (by omega)]
   exact i _ _ _ _ _ _ _ (by omega) (by omega) e k Z
  ·rw [if_neg bB] at Z
   rw [a (by simp only [Bool.or_eq_true,Nat.blt_eq,Nat.beq_eq];right;omega)];exact Z
 ·rw [Nat.min_eq_right (by omega)]
  have F:n*1≤n*f:=Nat.mul_le_mul_left _ e
  have G:bM*1≤bM*f:=Nat.mul_le_mul_left _ e
  rw [a (by simp only [Bool.or_eq_true,Nat.blt_eq,Nat.beq_eq];right;omega)]
  by_cases bW:aT - aE*bM≤0
  ·rw [if_pos bW] at Z;exact Z
  ·rw [if_neg bW,if_neg (by omega)] at Z;exact Z
theorem F6(n:Nat):∀ (f N R aT cB r c0:Nat) (p:Nat × Nat),0 < aT→0 < cB→0 < c0→R < n→F5 n f N R aT cB r c0=some p→y7 n f N R aT cB r c0=some p
 | 0,_,_,_,_,_,_,_,_,_,_,_,Z=>by cases Z
 | f+1,N,R,aT,cB,r,c0,p,d0,gH,h2,a5,Z=>Nn (F6 n f) d0 gH h2 a5 Z
noncomputable def wL(cH a aX n f:Nat):Option (Nat × Nat):=F5 n f aX 0 (cH - a) 1 a 1
theorem E2{cH a aX n f:Nat}(c:a < cH)(b:0 < n){p:Nat × Nat}(Z:wL cH a aX n f=some p):y7 n f aX 0 (cH - a) 1 a 1=some p:=
 F6 n f _ _ _ _ _ _ p (by omega) (by decide) (by decide) b Z
theorem wN{cH a aX n f:Nat}(b:a < cH)(c:aX < cH)(d:0 < n){p:Nat × Nat}(Z:wL cH a aX n f=some p):xB cH a aX n p.1 p.2:=by
 refine F2 (by omega) f _ _ _ _ _ _ ⟨?_,d,fun aC e=>?_,fun aC aV aY=>by omega⟩ ⟨by decide,by decide,by omega,b,?_,?_,fun aC aV aY=>?_,fun aC aV aY=>?_⟩ (by omega) p (E2 b d Z)
 ·rw [Nat.zero_mul,Nat.add_zero,Nat.mod_eq_of_lt c]
 ·obtain rfl:aC=0:=by omega
  rw [Nat.zero_mul,Nat.add_zero,Nat.mod_eq_of_lt c];exact Nat.le_refl _
 ·rw [Nat.one_mul,Nat.mod_eq_of_lt b]
 ·rw [Nat.one_mul,show a+(cH - a)=cH by omega,Nat.mod_self]
 ·obtain rfl:aC=1:=by omega
  rw [Nat.one_mul,Nat.mod_eq_of_lt b];exact Nat.le_refl _
 ·obtain rfl:aC=1:=by omega
  rw [Nat.one_mul,Nat.mod_eq_of_lt b];omega
def b8:Nat:=2135987035920910082395021706169552114602704522356652769947041607822219725780640550022962086936576
def jA(N:Nat):Nat:=cond (Nat.beq N 0) 0 (Nat.sub b8 N)
noncomputable def nD(f a bQ a5:Nat)(up:Bool):Option (Nat × Nat):=
 gX (Nat.mod a b8) fun b=>gX (Nat.mod (Nat.mul b bQ) b8) fun at_=>gX (cond up (jA b) b) fun b=>gX (cond up (jA at_) at_) fun at_=>gX (Nat.succ (Nat.sub a5 bQ)) fun n=>
 match wL b8 b at_ n f with
 | some (R,v)=>some (Nat.add bQ R,v)
 | none=>none
def nF(a bQ a5:Nat):Nat:=cond (Nat.ble b8 (Nat.mul bQ a)) bQ (cond (Nat.ble b8 (Nat.mul a5 a)) (Nat.div (Nat.sub (Nat.add b8 a) 1) a) (Nat.succ a5))
def hU(a m:Nat)(up:Bool):Nat:=Nat.add (Nat.div (Nat.mul m a) b8) (cond up 1 0)
noncomputable def pT(f a bQ a5:Nat):Option (Nat × Bool):=
 match nD f a bQ a5 true with
 | none=>none
 | some (m,N)=>gX (nF a bQ a5) fun aN=>cond (Nat.ble aN a5) (match nD f a aN a5 false with
  | none=>none
  | some (n,aQ)=>cond (Nat.ble N aQ) (some (m,true)) (some (n,false))) (some (m,true))
def gO(O:Nat):Nat:=Nat.div rI (Nat.pow 2 (Nat.sub 4144 O))
noncomputable def zA(cU v a K:Nat):Bool:=
 gX a fun a=>gX K fun K=>cond (Nat.ble (Nat.succ (Nat.xor a K)) (Nat.land a K)) (cond (Nat.ble (Nat.pow 2 cU) a) (Nat.ble a (Nat.pow 2 v)) false) false
noncomputable def wO(n N S:Nat):Bool:=
 gX (Nat.mul S (Nat.div g1 (Nat.pow 2 n))) fun l=>gX (Nat.add l S) fun Z=>
 cond (Nat.ble (Nat.succ Z) N) (zA 1201 1470 (Nat.sub N l) (Nat.sub N Z)) (cond (Nat.ble (Nat.succ N) l) (zA 1201 1470 (Nat.sub l N) (Nat.sub Z N)) false)
noncomputable def uO(a:Nat):Bool:=
 match wL b8 a a 18014398509481983 80 with
 | none=>false
 | some (R,v)=>Nat.ble (Nat.pow 2 150) v
noncomputable def No(l N:Nat):Bool:=
 gX (Nat.add (Nat.sub N l) (Nat.sub l N)) fun G=>gX (Nat.sub G (Nat.pow 2 1086)) fun cU=>gX (Nat.add G (Nat.pow 2 1086)) fun v=>
 cond (Nat.ble (Nat.succ (Nat.xor cU v)) (Nat.land cU v)) (cond (Nat.ble (Nat.pow 2 1200) G) (Nat.ble (Nat.succ v) (Nat.pow 2 1402)) false) false
noncomputable def BG(a O K:Nat):Bool:=
 match pT 80 a (Nat.pow 2 K) (Nat.sub (Nat.pow 2 (Nat.succ K)) 1) with
 | none=>false
 | some (m,up)=>gX (hU a m up) fun S=>gX (Nat.mul m (Nat.pow 2 (Nat.add O 1337))) fun N=>cond (wO 3000 N S) (No (Nat.mul S (Nat.div g1 (Nat.pow 2 3000))) N) false
noncomputable def BH(a O:Nat):Bool:=Nat.beq (Nat.div (Nat.div (Nat.pow 2 (Nat.add (Nat.mul 2 (Nat.add O 320)) 1)) (Nat.div g1 (Nat.pow 2 (Nat.sub 4400 (Nat.add O 320))))) (Nat.pow 2 64)) a
noncomputable def uY(O:Nat):Bool:=
 gX (gO O) fun a=>cond (sI (fun K=>BG a O K) 53) (gX (Nat.mod a b8) fun aI=>cond (uO aI) (cond (uO (jA aI)) (BH a O) false) false) false
noncomputable def pY(bQ n:Nat):Bool:=sI (fun S=>uY (Nat.add bQ S)) n
end Go.Proofs.YtjijdlkpmngolaaGreat.G
