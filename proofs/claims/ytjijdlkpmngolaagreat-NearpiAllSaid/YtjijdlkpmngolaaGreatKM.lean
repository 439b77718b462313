import Derived.Test.YtjijdlkpmngolaaGreatKA
set_option linter.unusedVariables false
namespace Go.Gv
theorem wrap_i64{N:Int}(aZ:-9223372036854775808≤N)(d:N < 9223372036854775808):IntKind.i64.wrap N=N:=by
 have b:(2:Int) ^ 64=18446744073709551616:=by decide
 have c:(2:Int) ^ (64 - 1)=9223372036854775808:=by decide
 simp only [IntKind.wrap,IntKind.bits,IntKind.signed,Bool.true_and,b,c]
 by_cases a:N % 18446744073709551616≥9223372036854775808
 ·rw [if_pos (by simpa using a)];omega
 ·rw [if_neg (by simpa using a)];omega
theorem wrap_u64(N:Int):IntKind.u64.wrap N=N % 18446744073709551616:=by
 simp [IntKind.wrap,IntKind.bits,IntKind.signed]
theorem BH{N:Int}(aZ:0≤N)(a:N < 18446744073709551616):IntKind.u64.wrap N=N:=by
 rw [wrap_u64];omega
structure bA(Z K:U):Prop where
 le:Z.size≤K.size
 pre:eT Z.size Z K
theorem bA.refl(Z:U):bA Z Z:=⟨Nat.le_refl _,fun _ _=>rfl⟩
theorem bA.trans{a L c:U}(N:bA a L)(aP:bA L c):bA a c:=
 ⟨Nat.le_trans N.le aP.le,fun O a4=>(aP.pre O (Nat.lt_of_lt_of_le a4 N.le)).trans (N.pre O a4)⟩
theorem s4{Z:U}{aE:Addr}{v:Value}(R:gP Z aE=some v):aE.block < Z.size:=by
 unfold gP at R
 split at R
 ·next aZ=>exact(Array.getElem?_eq_some_iff.mp aZ).1
 ·cases R
theorem bA.cell{Z K:U}(S:bA Z K){aE:Addr}{v:Value}(R:gP Z aE=some v):gP K aE=some v:=by
 rw [rF (S.pre _ (s4 R))];exact R
theorem add_add(p:Addr)(O aC:Nat):(p.add O).add aC=p.add (O+aC):=by
 unfold Addr.add
 by_cases a4:O=0 <;> by_cases a:aC=0 <;> simp [a4,a,Nat.add_assoc]
theorem cB(L O:Nat):(⟨L,0,none⟩:Addr).add O=⟨L,O,none⟩:=by
 unfold Addr.add
 by_cases a4:O=0 <;> simp [a4]
abbrev h0(N:Nat):Value:=.int .u64 (N:Int)
structure cG(Z:U)(a:M)(c:Nat)(aA:List Nat):Prop where
 len:aA.length≤35184372088828
 cap:aA.length≤c
 words:∀ N ∈ aA,N < 18446744073709551616
 at_:∀ O,O < aA.length→∃ p,a=some p∧gP Z (p.add O)=some (h0 (aA.getD O 0))
theorem cG.aR{Z K:U}{a:M}{c:Nat}{aA:List Nat}(r:cG Z a c aA)(S:bA Z K):cG K a c aA:=
 ⟨r.len,r.cap,r.words,fun O a4=>let ⟨p,R,g⟩:=r.at_ O a4;⟨p,R,S.cell g⟩⟩
theorem cG.nil(Z:U)(a:M)(c:Nat):cG Z a c []:=⟨by simp,by simp,by simp,fun O a4=>absurd a4 (by simp)⟩
theorem zH{aA:List Nat}(a:∀ N ∈ aA,N < 18446744073709551616)(O:Nat):aA.getD O 0 < 18446744073709551616:=by
 by_cases a4:O < aA.length
 ·have R:aA.getD O 0=aA[O]:=by simp [List.getD,a4]
  rw [R];exact a _ (List.getElem_mem a4)
 ·have R:aA.getD O 0=0:=by simp [List.getD,Nat.le_of_not_lt a4]
  rw [R];decide
theorem cG.word{Z:U}{a:M}{c:Nat}{aA:List Nat}(r:cG Z a c aA)(O:Nat):aA.getD O 0 < 18446744073709551616:=zH r.words O
theorem cG.take{Z:U}{a:M}{c:Nat}{aA:List Nat}(r:cG Z a c aA)(n:Nat):cG Z a c (aA.take n):=by
 refine⟨?_,?_,fun N b=>r.words N (List.mem_of_mem_take b),fun O a4=>?_⟩
 ·have:=r.len;rw [List.length_take];omega
 ·have:=r.cap;rw [List.length_take];omega
 ·rw [List.length_take] at a4
  obtain⟨p,R,g⟩:=r.at_ O (by omega)
  refine⟨p,R,?_⟩
  have d:(aA.take n).getD O 0=aA.getD O 0:=by
   simp only [List.getD,List.getElem?_take]
   rw [if_pos (by omega)]
  rw [d];exact g
theorem cG.rY{Z:U}{a:M}{c dF:Nat}{aA:List Nat}(r:cG Z a c aA)(b:aA.length≤dF):cG Z a dF aA:=⟨r.len,b,r.words,r.at_⟩
theorem cG.drop{Z:U}{a:M}{c:Nat}{aA:List Nat}(r:cG Z a c aA)(n:Nat)(e:n≤aA.length):cG Z (iY a c n 1) (c - n) (aA.drop n):=by
 have aZ:=r.len;have f:=r.cap
 refine⟨?_,?_,fun N b=>r.words N (List.mem_of_mem_drop b),fun O a4=>?_⟩
 ·rw [List.length_drop];omega
 ·rw [List.length_drop];omega
 ·rw [List.length_drop] at a4
  obtain⟨p,R,g⟩:=r.at_ (n+O) (by omega)
  have d:(aA.drop n).getD O 0=aA.getD (n+O) 0:=by simp only [List.getD,List.getElem?_drop]
  refine⟨p.add n,?_,by rw [add_add,d];exact g⟩
  rw [R];unfold iY
  rw [if_neg (by omega)];simp
theorem fX{Z:U}{a:M}{c l:Nat}{aA:List Nat}(r:cG Z a c aA){O:Int}{aC:Nat}(a4:O=(aC:Int))(b:l=aA.length)(d:aC < aA.length){aF:Int→Prop}
  (g:aF (aA.getD aC 0:Nat)):c7 a l O 1 fun aE=>fG Z aE fun v=>aW .u64 v aF:=by
 subst a4;subst b
 obtain⟨p,R,e⟩:=r.at_ aC d
 subst R
 refine⟨⟨by omega,by omega⟩,?_⟩
 show fG Z (p.add ((aC:Int).toNat*1)) _
 have f:(aC:Int).toNat*1=aC:=by omega
 rw [f]
 unfold fG;rw [e];exact g
structure Own(Z:U)(L:Nat)(aA:List Nat):Prop where
 len:aA.length≤35184372088828
 words:∀ N ∈ aA,N < 18446744073709551616
 at_:∃ R,Z[L]?=some (.cells (aA.map h0).toArray R (0,0))
theorem Own.lt{Z:U}{L:Nat}{aA:List Nat}(aN:Own Z L aA):L < Z.size:=by
 obtain⟨R,g⟩:=aN.at_;exact(Array.getElem?_eq_some_iff.mp g).1
theorem Own.cell{Z:U}{L:Nat}{aA:List Nat}(aN:Own Z L aA){O:Nat}(a4:O < aA.length):gP Z ⟨L,O,none⟩=some (h0 (aA.getD O 0)):=by
 obtain⟨R,g⟩:=aN.at_
 unfold gP
 simp only [g,Option.isSome_none,Bool.false_eq_true,if_false]
 simp [List.getD,a4]
theorem Own.frozen{Z:U}{L:Nat}{aA:List Nat}(aN:Own Z L aA)(O:Nat):mB Z ⟨L,O,none⟩=false:=by
 obtain⟨R,g⟩:=aN.at_
 unfold mB
 simp [g]
theorem Own.rd{Z:U}{L:Nat}{aA:List Nat}(aN:Own Z L aA){c:Nat}(a:aA.length≤c):cG Z (some ⟨L,0,none⟩) c aA:=
 ⟨aN.len,a,aN.words,fun O a4=>⟨_,rfl,by rw [cB];exact aN.cell a4⟩⟩
theorem D9{Z:U}{aE:Addr}{v:Value}{L:Nat}(a:L ≠ aE.block):(gQ Z aE v)[L]?=Z[L]?:=by
 unfold gQ
 rw [Array.getElem?_modify]
 rw [if_neg (fun R=>a R.symm)]
theorem D8{Z:U}{aE:Addr}{v:Value}:(gQ Z aE v).size=Z.size:=by unfold gQ;simp
theorem Own.set{Z:U}{L:Nat}{aA:List Nat}(aN:Own Z L aA)(O:Nat){v:Nat}(bW:v < 18446744073709551616):Own (gQ Z ⟨L,O,none⟩ (h0 v)) L (aA.set O v):=by
 refine⟨by rw [List.length_set];exact aN.len,fun N a=>?_,?_⟩
 ·rcases List.mem_or_eq_of_mem_set a with aZ | aZ
  ·exact aN.words N aZ
  ·subst aZ;exact bW
 ·obtain⟨R,g⟩:=aN.at_
  refine⟨R,?_⟩
  unfold gQ
  rw [Array.getElem?_modify]
  simp only [if_true,g,Option.map_some]
  simp [List.map_set]
theorem bA.set{Z K:U}(S:bA Z K){L O:Nat}{v:Value}(b:Z.size≤L):bA Z (gQ K ⟨L,O,none⟩ v):=
 ⟨by rw [D8];exact S.le,fun aC a=>by rw [D9 (by show aC ≠ L;omega)];exact S.pre aC a⟩
theorem Own.aR{Z K:U}{L:Nat}{aA:List Nat}(aN:Own Z L aA)(S:bA Z K):Own K L aA:=by
 obtain⟨R,g⟩:=aN.at_
 exact⟨aN.len,aN.words,R,by rw [S.pre L aN.lt];exact g⟩
theorem mJ{Z:U}{L l:Nat}{aA:List Nat}(aN:Own Z L aA){O:Int}{aC:Nat}(a4:O=(aC:Int))(a:l=aA.length)(b:aC < aA.length){N:Int}{v:Nat}(c:N=(v:Int))(bW:v < 18446744073709551616){aF:U→Prop}
  (g:Own (gQ Z ⟨L,aC,none⟩ (h0 v)) L (aA.set aC v)→aF (gQ Z ⟨L,aC,none⟩ (h0 v))):c7 (some ⟨L,0,none⟩) l O 1 fun aE=>cC Z aE (.int .u64 N) aF:=by
 subst a4;subst a;subst c
 refine⟨⟨by omega,by omega⟩,?_⟩
 show cC Z ((⟨L,0,none⟩:Addr).add ((aC:Int).toNat*1)) _ _
 have d:(aC:Int).toNat*1=aC:=by omega
 rw [d,cB]
 exact⟨⟨⟨_,aN.cell b⟩,aN.frozen aC⟩,g (aN.set aC bW)⟩
theorem Bv(n:Nat)(bI:Value):h6 [bI] n=List.replicate n bI:=by
 induction n with
 | zero=>rfl
 | succ n bU=>show [bI] ++ h6 [bI] n=_;rw [bU,List.replicate_succ];rfl
theorem nZ{Z:U}{R:TypeId}{O:dQ}{n m:Int}(S:Nat)(b:O.a6=[h0 0])(a:O.bytes=8)(c:n=(S:Int))(d:m=(S:Int))(e:S≤35184372088828){aF:Addr→U→Prop}
  (g:∀ K,Own K Z.size (List.replicate S 0)→bA Z K→aF ⟨Z.size,0,none⟩ K):iI Z R O n m aF:=by
 subst c;subst d
 refine⟨⟨by omega,by omega,by omega,by rw [a];omega⟩,g _ ⟨by simpa using e,?_,R,?_⟩ ⟨by simp,fun L a=>?_⟩⟩
 ·intro N f;have:=List.eq_of_mem_replicate f;omega
 ·rw [b,Bv];simp
 ·rw [Array.getElem?_push];rw [if_neg (by omega)]
theorem xG{Z:U}{R:TypeId}{c2:List Value}(aA:List Nat)(a:c2=aA.map h0)(b:aA.length≤35184372088828)(c:∀ N ∈ aA,N < 18446744073709551616){aF:Addr→U→Prop}
  (g:∀ K,Own K Z.size aA→bA Z K→aF ⟨Z.size,0,none⟩ K):dN Z R c2 aF:=by
 subst a
 refine g _ ⟨b,c,R,?_⟩ ⟨by simp,fun L d=>?_⟩
 ·simp
 ·rw [Array.getElem?_push];rw [if_neg (by omega)]
theorem B1{Z:U}{p:Addr}:∀ {bV:List Nat} {O:Nat},(∀ aC,aC < bV.length→gP Z (p.add (O+aC))=some (h0 (bV.getD aC 0)))→j1 Z p O (bV.map h0)
 | [],_,_=>trivial
 | v :: bV,O,g=>by
  refine⟨by have:=g 0 (by simp);simpa using this,B1 fun aC a=>?_⟩
  have:=g (aC+1) (by simpa using a)
  rw [show O+1+aC=O+(aC+1) by omega]
  simpa using this
theorem B2{Z:U}{p:Addr}:∀ {n O:Nat},(∀ aC,aC < n→(∃ v,gP Z (p.add (O+aC))=some v)∧mB Z (p.add (O+aC))=false)→pA Z p O n
 | 0,_,_=>trivial
 | n+1,O,g=>⟨by have:=g 0 (by omega);simpa using this,B2 fun aC a=>by rw [show O+1+aC=O+(aC+1) by omega];exact g (aC+1) (by omega)⟩
theorem B3{L:Nat}:∀ {bV:List Nat} {Z aX:U} {aA:List Nat} {O:Nat},Own Z L aA→(∀ N ∈ bV,N < 18446744073709551616)→O+bV.length≤aA.length→(aX.size≤L)→bA aX Z→
  Own (j0 Z ⟨L,0,none⟩ O (bV.map h0)) L (aA.take O ++ (bV ++ aA.drop (O+bV.length)))∧bA aX (j0 Z ⟨L,0,none⟩ O (bV.map h0))
 | [],Z,aX,aA,O,aN,_,_,_,S=>by simpa [j0] using ⟨aN,S⟩
 | v :: bV,Z,aX,aA,O,aN,a,c,b,S=>by
  simp only [List.length_cons] at c
  have R:j0 Z ⟨L,0,none⟩ O ((v :: bV).map h0)=j0 (gQ Z ⟨L,O,none⟩ (h0 v)) ⟨L,0,none⟩ (O+1) (bV.map h0):=by
   show j0 (gQ Z ((⟨L,0,none⟩:Addr).add O) (h0 v)) _ _ _=_
   rw [cB]
  rw [R]
  have:=B3 (bV:=bV) (O:=O+1) (aN.set O (a v (by simp))) (fun N d=>a N (by simp [d])) (by rw [List.length_set];omega) b (S.set (v:=h0 v) (O:=O) b)
  refine⟨?_,this.2⟩
  have e:(aA.set O v).take (O+1) ++ (bV ++ (aA.set O v).drop (O+1+bV.length))=aA.take O ++ (v :: bV ++ aA.drop (O+(v :: bV).length)):=by
   rw [List.drop_set_of_lt (by omega),List.length_cons,show O+1+bV.length=O+(bV.length+1) by omega]
   rw [List.take_add_one,List.take_set_of_le (Nat.le_refl O)]
   simp [show O < aA.length by omega]
  rw [← e];exact this.1
theorem zS{Z:U}{L l bZ bG:Nat}{aA aU:List Nat}{a:M}{aX:U}(aN:Own Z L aA)(r:cG Z a bG aU)(d:l=aA.length)(e:bZ=aU.length)(f:aX.size≤L)(S:bA aX Z){aF:Int→U→Prop}
  (g:∀ K,Own K L (aU.take aA.length ++ aA.drop aU.length)→bA aX K→aF ((Nat.min aU.length aA.length:Nat):Int) K):m3 Z 1 (some ⟨L,0,none⟩) l (.slice a bZ bG) aF:=by
 subst d;subst e
 have b:(aU.take aA.length).length=Nat.min aU.length aA.length:=by
  rw [List.length_take];exact Nat.min_comm _ _
 have k:Nat.min aU.length aA.length≤aA.length:=Nat.min_le_right _ _
 refine⟨aU.length,(aU.take aA.length).map h0,rfl,⟨by rw [List.length_map,b];omega,?_,?_⟩,?_,?_⟩
 ·intro v bW
  obtain⟨N,_,R⟩:=List.mem_map.mp bW
  subst R;rfl
 ·cases a with
  | none=>
   show(aU.take aA.length).map h0=[]
   cases aU with
   | nil=>simp
   | cons aP aU=>obtain⟨p,R,_⟩:=r.at_ 0 (by simp);cases R
  | some p=>
   refine B1 fun aC c=>?_
   obtain⟨m,R,h⟩:=(r.take aA.length).at_ aC c
   cases R
   rw [Nat.zero_add];exact h
 ·refine B2 fun aC c=>?_
  rw [Nat.zero_add,cB]
  rw [List.length_map,b] at c
  exact⟨⟨_,aN.cell (by omega)⟩,aN.frozen aC⟩
 ·have:=B3 (bV:=aU.take aA.length) (O:=0) aN (fun N i=>r.words N (List.mem_of_mem_take i)) (by rw [b];omega) f S
  refine g _ ?_ this.2
  have R:aA.take 0 ++ (aU.take aA.length ++ aA.drop (0+(aU.take aA.length).length))=aU.take aA.length ++ aA.drop aU.length:=by
   rw [List.take_zero,List.nil_append,Nat.zero_add,b]
   congr 1
   by_cases j:aU.length≤aA.length
   ·rw [show Nat.min aU.length aA.length=aU.length from Nat.min_eq_left j]
   ·rw [show Nat.min aU.length aA.length=aA.length from Nat.min_eq_right (by omega),List.drop_of_length_le (Nat.le_refl _),List.drop_of_length_le (by omega)]
  rw [← R];exact this.1
theorem vH{a:M}{l c:Nat}{N:Int}{n:Nat}(b:N=(n:Int))(d:n≤c){aF:M→Nat→Nat→Prop}(g:aF a n c):iD 1 a l c none (some (.int .i64 N)) none aF:=by
 subst b
 show(0≤(n:Int)∧(n:Int)≤(c:Int))∧aF (iY a c 0 1) ((n:Int).toNat - 0) (c - 0)
 refine⟨⟨by omega,by omega⟩,?_⟩
 have R:iY a c 0 1=a:=by
  unfold iY
  split
  ·rfl
  ·cases a <;> simp [Addr.add]
 rw [R];simpa using g
theorem EJ{a:M}{l c:Nat}{N:Int}{n:Nat}(b:N=(n:Int))(d:n≤l){aF:M→Nat→Nat→Prop}(g:aF (iY a c n 1) (l - n) (c - n)):iD 1 a l c (some (.int .i64 N)) none none aF:=by
 subst b
 exact⟨⟨by omega,by omega⟩,by simpa using g⟩
theorem cA{P:Program}{f:FuncId}{args:Array Value}{Z:U}{c6 aF:Value→U→Prop}(a:mZ P f args Z c6)(g:∀ v K,c6 v K→aF v K):mZ P f args Z aF:=a.mono g
def val:List Nat→Nat
 | []=>0
 | N :: aA=>N+18446744073709551616*val aA
def aK(n:Nat):List Nat:=if Z:n=0 then [] else n % 18446744073709551616 :: aK (n / 18446744073709551616)
 termination_by n
 decreasing_by omega
def dS:List Nat→List Nat
 | []=>[]
 | N :: aA=>if N=0∧dS aA=[] then [] else N :: dS aA
def Words(aA:List Nat):Prop:=∀ N ∈ aA,N < 18446744073709551616
theorem Words.cons{N:Nat}{aA:List Nat}(Z:Words (N :: aA)):N < 18446744073709551616∧Words aA:=⟨Z N (by simp),fun aP a=>Z aP (by simp [a])⟩
theorem eP:aK 0=[]:=by unfold aK;simp
theorem kE{n:Nat}(Z:n ≠ 0):aK n=n % 18446744073709551616 :: aK (n / 18446744073709551616):=by
 rw [aK];simp [Z]
theorem pM(n:Nat):Words (aK n):=by
 induction n using Nat.strongRecOn with
 | ind n bU=>
  by_cases Z:n=0
  ·subst Z;rw [eP];intro N a;cases a
  ·rw [kE Z];intro N a
   rcases List.mem_cons.mp a with R | R
   ·omega
   ·exact bU _ (by omega) N R
theorem e1(n:Nat):val (aK n)=n:=by
 induction n using Nat.strongRecOn with
 | ind n bU=>
  by_cases Z:n=0
  ·subst Z;rw [eP];rfl
  ·rw [kE Z];show n % _+_*val (aK _)=n
   rw [bU _ (by omega)];omega
theorem pN{aA:List Nat}:dS aA=[]↔val aA=0:=by
 induction aA with
 | nil=>simp [dS,val]
 | cons N aA bU=>
  simp only [dS,val]
  split
  ·next Z=>simp only [true_iff];have:=bU.mp Z.2;omega
  ·next Z=>
   simp only [reduceCtorEq,false_iff]
   intro R
   exact Z ⟨by omega,bU.mpr (by omega)⟩
theorem lR{aA:List Nat}(a:Words aA):aK (val aA)=dS aA:=by
 induction aA with
 | nil=>simp [val,dS,eP]
 | cons N aA bU=>
  have b:=a.cons
  simp only [dS,val]
  split
  ·next Z=>rw [Z.1,pN.mp Z.2];exact eP
  ·next Z=>
   have c:N+18446744073709551616*val aA ≠ 0:=fun R=>Z ⟨by omega,pN.mpr (by omega)⟩
   rw [kE c]
   have d:(N+18446744073709551616*val aA) % 18446744073709551616=N:=by omega
   have e:(N+18446744073709551616*val aA) / 18446744073709551616=val aA:=by omega
   rw [d,e,bU b.2]
theorem rI(aA:List Nat):val (dS aA)=val aA:=by
 induction aA with
 | nil=>rfl
 | cons N aA bU=>
  simp only [dS]
  split
  ·next Z=>simp only [val];rw [Z.1,pN.mp Z.2]
  ·simp only [val];rw [bU]
theorem qF(n:Nat):dS (aK n)=aK n:=by rw [← lR (pM n),e1]
theorem BG(aA:List Nat):dS (dS aA)=dS aA:=by
 induction aA with
 | nil=>rfl
 | cons N aA bU=>
  simp only [dS]
  split
  ·rfl
  ·next Z=>simp only [dS,bU];rw [if_neg Z]
theorem vK(aA:List Nat):(dS aA).length≤aA.length:=by
 induction aA with
 | nil=>simp [dS]
 | cons N aA bU=>
  simp only [dS]
  split
  ·simp
  ·simpa using bU
theorem vI(aA:List Nat):dS (aA ++ [0])=dS aA:=by
 induction aA with
 | nil=>simp [dS]
 | cons N aA bU=>simp only [List.cons_append,dS,bU]
theorem xC(aA:List Nat){N:Nat}(a:N ≠ 0):dS (aA ++ [N])=aA ++ [N]:=by
 induction aA with
 | nil=>simp [dS,a]
 | cons aP aA bU=>
  simp only [List.cons_append,dS,bU]
  rw [if_neg (by simp)]
theorem lS{aA:List Nat}{n:Nat}(Z:n < aA.length):aA.take (n+1)=aA.take n ++ [aA.getD n 0]:=by
 rw [List.take_add_one];simp [List.getD,Z]
theorem vJ{aA:List Nat}:dS aA=aA↔(aA=[]∨aA.getD (aA.length - 1) 0 ≠ 0):=by
 by_cases Z:aA.length=0
 ·have R:aA=[]:=List.length_eq_zero_iff.mp Z
  subst R;simp [dS]
 ·obtain⟨n,a⟩:∃ n,aA.length=n+1:=⟨aA.length - 1,by omega⟩
  have R:aA=aA.take n ++ [aA.getD n 0]:=by rw [← lS (by omega),← a,List.take_length]
  have c:aA ≠ []:=fun R=>by subst R;simp at a
  rw [a];simp only [Nat.add_sub_cancel]
  constructor
  ·intro b
   refine Or.inr fun aX=>?_
   rw [aX] at R
   rw [R,vI] at b
   have:=vK (aA.take n)
   rw [b] at this;simp at this;omega
  ·rintro(aZ | aZ)
   ·exact absurd aZ c
   ·rw [R];exact xC _ aZ
def fL(n:Nat):List Nat × Int:=if (aK n).length≤8192 then(aK n,0) else([],5)
def iT(aA:List Nat):Prop:=aA.length≤8192∧dS aA=aA
instance (aA:List Nat):Decidable (iT aA):=by unfold iT;infer_instance
theorem iT.aK{aA:List Nat}(Z:iT aA)(a:Words aA):Gv.aK (val aA)=aA:=by rw [lR a,Z.2]
theorem iT.fL{aA:List Nat}(Z:iT aA)(a:Words aA):Gv.fL (val aA)=(aA,0):=by
 unfold Gv.fL;rw [Z.aK a,if_pos Z.1]
theorem nV{n m:Nat}(Z:n≤m):(aK n).length≤(aK m).length:=by
 induction m using Nat.strongRecOn generalizing n with
 | ind m bU=>
  by_cases a:n=0
  ·subst a;rw [eP];simp
  ·rw [kE a,kE (n:=m) (by omega)]
   simp only [List.length_cons]
   exact Nat.succ_le_succ (bU (m / 18446744073709551616) (by omega) (Nat.div_le_div_right Z))
theorem pS{aH:List Nat}{aC t:Nat}(Z:aC < aH.length):(aH.set aC t).take (aC+1)=aH.take aC ++ [t]:=by
 rw [List.take_add_one,List.take_set_of_le (Nat.le_refl aC)];simp [Z]
theorem iK{aA:List Nat}{aC:Nat}(Z:aC < aA.length):aA.drop aC=aA.getD aC 0 :: aA.drop (aC+1):=by
 rw [List.drop_eq_getElem_cons Z];simp [List.getD,Z]
theorem z3(aA:List Nat)(aC:Nat):(aA.drop aC).headD 0=aA.getD aC 0:=by
 simp [List.getD,List.headD_eq_head?_getD,List.head?_drop]
def qM:List Nat→List Nat→Nat→List Nat
 | [],_,c=>[c]
 | N :: aA,aU,c=>(N+aU.headD 0+c) % 18446744073709551616 :: qM aA aU.tail ((N+aU.headD 0+c) / 18446744073709551616)
theorem zJ(aU:List Nat):val aU=aU.headD 0+18446744073709551616*val aU.tail:=by cases aU <;> simp [val]
theorem EX:∀ (aA aU:List Nat) (c:Nat),aU.length≤aA.length→val (qM aA aU c)=val aA+val aU+c
 | [],aU,c,Z=>by
  have R:aU=[]:=List.length_eq_zero_iff.mp (by simpa using Z)
  subst R;simp [qM,val]
 | N :: aA,aU,c,Z=>by
  simp only [qM,val]
  rw [EX aA aU.tail _ (by simp at Z ⊢;omega)]
  have:=zJ aU
  omega
def oR:List Nat→List Nat→Nat→List Nat
 | [],_,_=>[]
 | N :: aA,aU,c=>(N+18446744073709551616 - aU.headD 0 - c) % 18446744073709551616 :: oR aA aU.tail (if N < aU.headD 0+c then 1 else 0)
theorem BS:∀ (aA aU:List Nat) (c:Nat),Words aA→Words aU→aU.length≤aA.length→c≤1→val aU+c≤val aA→val (oR aA aU c)+(val aU+c)=val aA
 | [],aU,c,_,_,Z,_,bW=>by
  have R:aU=[]:=List.length_eq_zero_iff.mp (by simpa using Z)
  subst R;simp [oR,val] at bW ⊢;omega
 | N :: aA,aU,c,a,b,Z,g,bW=>by
  have h:aU.headD 0 < 18446744073709551616:=by cases aU with
   | nil=>decide
   | cons aP aU=>exact b.cons.1
  have d:Words aU.tail:=by cases aU with
   | nil=>exact b
   | cons aP aU=>exact b.cons.2
  have i:=a.cons.1
  have:=zJ aU
  simp only [oR,val] at bW ⊢
  have e:aU.tail.length≤aA.length:=by simp at Z ⊢;omega
  by_cases f:N < aU.headD 0+c
  ·rw [if_pos f]
   have:=BS aA aU.tail 1 a.cons.2 d e (by omega) (by omega)
   omega
  ·rw [if_neg f]
   have:=BS aA aU.tail 0 a.cons.2 d e (by omega) (by omega)
   omega
theorem s6:∀ {aA aU:List Nat} {aC:Nat},Words aA→Words aU→aA.length=aU.length→aC < aA.length→aA.drop (aC+1)=aU.drop (aC+1)→aA.getD aC 0 < aU.getD aC 0→val aA < val aU
 | [],_,_,_,_,_,a,_,_=>absurd a (by simp)
 | N :: aA,[],_,_,_,b,_,_,_=>absurd b (by simp)
 | N :: aA,aP :: aU,0,c,d,b,a,e,Z=>by
  have R:aA=aU:=by simpa using e
  subst R
  simp only [List.getD_cons_zero] at Z
  simp only [val];omega
 | N :: aA,aP :: aU,aC+1,c,d,b,a,e,Z=>by
  have:=s6 (aA:=aA) (aU:=aU) (aC:=aC) c.cons.2 d.cons.2 (by simpa using b) (by simpa using a) (by simpa using e) (by simpa using Z)
  have aZ:=c.cons.1
  have f:=d.cons.1
  simp only [val];omega
theorem zK{aP:Nat}{aU:List Nat}(Z:dS (aP :: aU)=aP :: aU):dS aU=aU:=by
 simp only [dS] at Z
 split at Z
 ·cases Z
 ·exact List.tail_eq_of_cons_eq Z
theorem rJ:∀ {aA aU:List Nat},Words aA→dS aU=aU→aA.length < aU.length→val aA < val aU
 | _,[],_,_,Z=>absurd Z (by simp)
 | [],aP :: aU,_,a,_=>by
  have:val (aP :: aU) ≠ 0:=fun R=>by rw [pN.mpr R] at a;cases a
  simp only [val] at this ⊢;omega
 | N :: aA,aP :: aU,b,a,Z=>by
  have:=rJ (aA:=aA) (aU:=aU) b.cons.2 (zK a) (by simpa using Z)
  have aZ:=b.cons.1
  simp only [val];omega
def fA(m n:Nat):Int:=if m < n then -1 else if m=n then 0 else 1
theorem hX(aA aU:List Nat):val (aA ++ aU)=val aA+2 ^ (64*aA.length)*val aU:=by
 induction aA with
 | nil=>simp [val]
 | cons N aA bU=>
  simp only [List.cons_append,val,bU,List.length_cons]
  have R:2 ^ (64*(aA.length+1))=18446744073709551616*2 ^ (64*aA.length):=by
   rw [show 64*(aA.length+1)=64+64*aA.length by omega,Nat.pow_add]
  rw [R,Nat.mul_add,Nat.mul_assoc];omega
theorem h7{aA:List Nat}(a:Words aA):val aA < 2 ^ (64*aA.length):=by
 induction aA with
 | nil=>simp [val]
 | cons N aA bU=>
  have R:2 ^ (64*(aA.length+1))=18446744073709551616*2 ^ (64*aA.length):=by
   rw [show 64*(aA.length+1)=64+64*aA.length by omega,Nat.pow_add]
  rw [List.length_cons,R];simp only [val]
  have aZ:=a.cons.1
  have b:=bU a.cons.2
  omega
def eB(n:Nat):Nat:=if n=0 then 0 else Nat.log2 n+1
theorem h8{n S:Nat}:eB n≤S↔n < 2 ^ S:=by
 unfold eB
 by_cases Z:n=0
 ·subst Z;simp [Nat.pow_pos]
 ·rw [if_neg Z];exact Nat.log2_lt Z
theorem O4{n m:Nat}(Z:∀ S,eB n≤S↔m≤S):eB n=m:=Nat.le_antisymm ((Z m).mpr (Nat.le_refl _)) ((Z _).mp (Nat.le_refl _))
theorem s7(n aH:Nat):eB (n / 2 ^ aH)=eB n - aH:=by
 refine O4 fun S=>?_
 rw [h8,Nat.div_lt_iff_lt_mul (Nat.pow_pos (by decide)),← Nat.pow_add,← h8];omega
theorem EE:eB 0=0:=rfl
theorem qG{n:Nat}(Z:n ≠ 0):0 < eB n:=by unfold eB;rw [if_neg Z];omega
theorem w6{aA:List Nat}(a:Words aA){n:Nat}(b:aA.length=n+1)(aX:aA.getD n 0 ≠ 0):eB (val aA)=64*n+eB (aA.getD n 0):=by
 have R:aA=aA.take n ++ [aA.getD n 0]:=by rw [← lS (by omega),← b,List.take_length]
 have bW:val aA=val (aA.take n)+2 ^ (64*n)*aA.getD n 0:=by
  conv=>lhs;rw [R]
  rw [hX];simp [val,show min n aA.length=n by omega]
 have c:val (aA.take n) < 2 ^ (64*n):=by
  have:=h7 (aA:=aA.take n) (fun N d=>a N (List.mem_of_mem_take d))
  rwa [List.length_take,show min n aA.length=n by omega] at this
 have e:val aA / 2 ^ (64*n)=aA.getD n 0:=by
  rw [bW,Nat.add_mul_div_left _ _ (Nat.pow_pos (by decide)),Nat.div_eq_of_lt c,Nat.zero_add]
 have:=s7 (val aA) (64*n)
 rw [e] at this
 have:=qG aX
 omega
theorem gR{n S:Nat}:(aK n).length≤S↔n < 2 ^ (64*S):=by
 constructor
 ·intro Z
  have:=h7 (pM n)
  rw [e1] at this
  exact Nat.lt_of_lt_of_le this (Nat.pow_le_pow_right (by decide) (by omega))
 ·intro Z
  induction S generalizing n with
  | zero=>
   have:n=0:=by simpa using Z
   subst this;rw [eP];simp
  | succ S bU=>
   by_cases aX:n=0
   ·subst aX;rw [eP];simp
   ·rw [kE aX,List.length_cons]
    have R:2 ^ (64*(S+1))=2 ^ (64*S)*18446744073709551616:=by
     rw [show 64*(S+1)=64*S+64 by omega,Nat.pow_add]
    rw [R] at Z
    have:=bU (n:=n / 18446744073709551616) (Nat.div_lt_of_lt_mul (by rw [Nat.mul_comm];exact Z))
    omega
theorem zL{a2 bK S:Nat}(a:(aK a2).length≤S)(b:(aK bK).length≤S):(aK (a2+bK)).length≤S+1:=by
 refine gR.mpr ?_
 have aZ:=gR.mp a
 have c:=gR.mp b
 have R:2 ^ (64*(S+1))=2 ^ (64*S)*18446744073709551616:=by
  rw [show 64*(S+1)=64*S+64 by omega,Nat.pow_add]
 rw [R];generalize 2 ^ (64*S)=p at *;omega
theorem z2{v:Nat}(n:Nat)(Z:v ≠ 0):eB (v*2 ^ n)=eB v+n:=by
 have aZ:=s7 (v*2 ^ n) n
 rw [Nat.mul_div_cancel _ (Nat.pow_pos (by decide))] at aZ
 have a:=qG Z
 omega
theorem zM{v:Nat}(S:Nat):eB v≤64*S↔(aK v).length≤S:=by
 rw [gR,h8]
theorem E2{v:Nat}:eB v≤524288↔(aK v).length≤8192:=zM 8192
theorem JH{v:Nat}(Z:¬ eB v≤524288):fL v=([],5):=by
 unfold fL;rw [if_neg (fun a=>Z (E2.mpr a))]
theorem k2{aA:List Nat}(a:Words aA)(m:Nat):val (aA.drop m)=val aA / 2 ^ (64*m):=by
 by_cases b:m≤aA.length
 ·have R:val aA=val (aA.take m)+2 ^ (64*m)*val (aA.drop m):=by
   conv=>lhs;rw [← List.take_append_drop m aA]
   rw [hX,List.length_take,Nat.min_eq_left b]
  have c:=h7 (aA:=aA.take m) (fun N d=>a N (List.mem_of_mem_take d))
  rw [List.length_take,Nat.min_eq_left b] at c
  rw [R,Nat.add_mul_div_left _ _ (Nat.pow_pos (by decide)),Nat.div_eq_of_lt c,Nat.zero_add]
 ·rw [List.drop_of_length_le (by omega)]
  have:=h7 a
  have e:2 ^ (64*aA.length)≤2 ^ (64*m):=Nat.pow_le_pow_right (by decide) (by omega)
  rw [Nat.div_eq_of_lt (by omega)];rfl
theorem mD{S:Nat}(a:S < 64):2 ^ S*2 ^ (64 - S)=18446744073709551616:=by
 rw [← Nat.pow_add,show S+(64 - S)=64 by omega]
theorem BT{S:Nat}(b:S < 64):2 ^ S < 18446744073709551616:=by
 have:=Nat.pow_lt_pow_right (a:=2) (by decide) b
 exact Nat.lt_of_lt_of_le this (by decide)
theorem Br{aA:List Nat}(b:Words aA){m S:Nat}(c:m < aA.length)(d:S < 64):val (aA.take m ++ [aA.getD m 0 % 2 ^ S])=val aA % 2 ^ (64*m+S):=by
 have R:val aA=val (aA.take m)+2 ^ (64*m)*val (aA.drop m):=by
  conv=>lhs;rw [← List.take_append_drop m aA]
  rw [hX,List.length_take,Nat.min_eq_left (by omega)]
 have a:=h7 (aA:=aA.take m) (fun N e=>b N (List.mem_of_mem_take e))
 rw [List.length_take,Nat.min_eq_left (by omega)] at a
 rw [hX,List.length_take,Nat.min_eq_left (by omega),Nat.pow_add,Nat.mod_mul,R,Nat.add_mul_mod_self_left,Nat.mod_eq_of_lt a,Nat.add_mul_div_left _ _ (Nat.pow_pos (by decide)),Nat.div_eq_of_lt a,Nat.zero_add,iK c]
 simp only [val,Nat.mul_zero,Nat.add_zero]
 congr 2
 rw [← mD d,Nat.mul_assoc,Nat.add_mul_mod_self_left]
end Go.Gv
namespace Go.Proofs.YtjijdlkpmngolaaGreat.G
open Go.Gv
set_option linter.unusedVariables false
noncomputable def oJ{cX:Type}(n:Nat)(f:Nat→cX):cX:=Nat.rec (f 0) (fun S _=>f (S+1)) n
theorem Cq{cX:Type}(n:Nat)(f:Nat→cX):oJ n f=f n:=by cases n <;> rfl
def mR(a L:Nat):Nat:=bif Nat.ble a L then a else L
theorem nL(a L:Nat):mR a L=min a L:=by
 unfold mR
 cases Z:Nat.ble a L with
 | true=>have:=Nat.le_of_ble_eq_true Z;simp only [cond_true];omega
 | false=>
  have:¬ a≤L:=fun b=>by rw [Nat.ble_eq_true_of_le b] at Z;cases Z
  simp only [cond_false];omega
def hB(a L n:Nat):Nat:=mR (a / L) n
def lO(a t L n:Nat):Nat:=mR (a+t*L) (n+1)
noncomputable def r6(n:Nat)(bU:Nat→Nat→Nat→Nat→Nat→Nat→Option (Nat × Nat))(N O aV cJ r c9:Nat):Option (Nat × Nat):=
 oJ (mR (hB N aV n) ((n - 1 - O) / cJ)) fun t=>oJ (N - aV*t) fun N=>oJ (O+t*cJ) fun O=>
 bif Nat.blt (n - 1) (O+cJ) || (Nat.beq N 0 || Nat.ble aV N) then some (O,N) else
 oJ (hB r aV n) fun t=>oJ (r - aV*t) fun r=>oJ (bif Nat.beq t 0 then c9 else lO c9 t cJ n) fun c9=>
 bif Nat.beq r 0 || Nat.blt n c9 then some (O,N) else
 oJ (hB (aV - N) r n) fun t=>oJ (bif Nat.blt (r*t) (aV - N) then t+1 else t) fun t=>oJ (mR t (hB aV r n)) fun t=>
 bif Nat.beq t 0 then some (O,N) else
 oJ (aV - r*t) fun aV=>oJ (lO cJ t c9 n) fun cJ=>
 bif Nat.beq aV 0 || Nat.blt n cJ then some (O,N) else bU N O aV cJ r c9
noncomputable def As(n:Nat)(f:Nat):Nat→Nat→Nat→Nat→Nat→Nat→Option (Nat × Nat):=
 Nat.rec (fun _ _ _ _ _ _=>none) (fun _ bU=>r6 n bU) f
structure jQ(cN a cJ c9 aV r:Nat):Prop where
 gY:0 < cJ
 iH:0 < c9
 sN:aV≤cN
 Hi:r < cN
 rd:(c9*a) % cN=r
 l9:(cJ*a+aV) % cN=0
 e6:∀ aC,0 < aC→aC < cJ+c9→r≤(aC*a) % cN
 eM:∀ aC,0 < aC→aC < cJ+c9→aV+(aC*a) % cN≤cN
theorem yP{cN aP aV aB N:Nat}(a:0 < cN)(d:aP % cN=N)(b:(aB+aV) % cN=0)(Z:aV≤N):(aP+aB) % cN=N - aV:=by
 have aZ:=Nat.div_add_mod aP cN
 have c:=Nat.div_add_mod (aB+aV) cN
 have e:=Nat.mod_lt aP a
 rw [b] at c
 have R:aP+aB=N - aV+cN*(aP / cN+(aB+aV) / cN):=by rw [Nat.mul_add];omega
 rw [R,Nat.add_mul_mod_self_left,Nat.mod_eq_of_lt (by omega)]
theorem AQ{cN aP aB N r:Nat}(a:aP % cN=N)(b:aB % cN=r)(Z:N+r < cN):(aP+aB) % cN=N+r:=by
 rw [Nat.add_mod,a,b,Nat.mod_eq_of_lt Z]
theorem jQ.up{cN a cJ c9 aV r:Nat}(t:jQ cN a cJ c9 aV r)(b:0 < cN)(Z:aV≤r):jQ cN a cJ (c9+cJ) aV (r - aV):=by
 have d:=t.Hi
 refine⟨t.gY,by have:=t.iH;omega,t.sN,by omega,?_,t.l9,fun aC aX aZ=>?_,fun aC aX aZ=>?_⟩
 ·rw [Nat.add_mul];exact yP b t.rd t.l9 Z
 ·by_cases c:aC < cJ+c9
  ·have:=t.e6 aC aX c;omega
  ·obtain⟨S,rfl⟩:∃ S,aC=S+cJ:=⟨aC - cJ,by omega⟩
   have:=t.e6 S (by have:=t.iH;omega) (by omega)
   rw [Nat.add_mul,yP b rfl t.l9 (by omega)];omega
 ·by_cases c:aC < cJ+c9
  ·exact t.eM aC aX c
  ·obtain⟨S,rfl⟩:∃ S,aC=S+cJ:=⟨aC - cJ,by omega⟩
   have:=t.e6 S (by have:=t.iH;omega) (by omega)
   have:=Nat.mod_lt (S*a) b
   rw [Nat.add_mul,yP b rfl t.l9 (by omega)];omega
theorem jQ.Hj{cN a cJ aV:Nat}(b:0 < cN):∀ (S:Nat) {c9 r:Nat},jQ cN a cJ c9 aV r→aV*S≤r→jQ cN a cJ (c9+S*cJ) aV (r - aV*S)
 | 0,c9,r,t,_=>by simpa using t
 | S+1,c9,r,t,Z=>by
  rw [Nat.mul_add,Nat.mul_one] at Z
  have:=jQ.Hj b S (t.up b (by omega)) (by omega)
  rw [show c9+(S+1)*cJ=c9+cJ+S*cJ by rw [Nat.add_mul];omega,show r - aV*(S+1)=r - aV - aV*S by rw [Nat.mul_add];omega]
  exact this
theorem jQ.CM{cN a cJ c9 aV r:Nat}(t:jQ cN a cJ c9 aV r)(e:0 < cN)(Z:r < aV):jQ cN a (cJ+c9) c9 (aV - r) r:=by
 have f:=t.sN
 have c:((cJ+c9)*a+(aV - r)) % cN=0:=by
  have aZ:=Nat.div_add_mod (cJ*a+aV) cN
  have d:=Nat.div_add_mod (c9*a) cN
  rw [t.l9] at aZ;rw [t.rd] at d
  have R:(cJ+c9)*a+(aV - r)=cN*((cJ*a+aV) / cN+c9*a / cN):=by rw [Nat.mul_add,Nat.add_mul];omega
  rw [R,Nat.mul_mod_right]
 refine⟨by have:=t.gY;omega,t.iH,by omega,t.Hi,t.rd,c,fun aC aX aZ=>?_,fun aC aX aZ=>?_⟩
 ·by_cases b:aC < cJ+c9
  ·exact t.e6 aC aX b
  ·obtain⟨S,rfl⟩:∃ S,aC=S+c9:=⟨aC - c9,by omega⟩
   have:=t.eM S (by have:=t.gY;omega) (by omega)
   rw [Nat.add_mul,AQ rfl t.rd (by omega)];omega
 ·by_cases b:aC < cJ+c9
  ·have:=t.eM aC aX b;omega
  ·obtain⟨S,rfl⟩:∃ S,aC=S+c9:=⟨aC - c9,by omega⟩
   have:=t.eM S (by have:=t.gY;omega) (by omega)
   rw [Nat.add_mul,AQ rfl t.rd (by omega)];omega
theorem jQ.CY{cN a c9 r:Nat}(b:0 < cN):∀ (S:Nat) {cJ aV:Nat},jQ cN a cJ c9 aV r→r*S < aV→jQ cN a (cJ+S*c9) c9 (aV - r*S) r
 | 0,cJ,aV,t,_=>by simpa using t
 | S+1,cJ,aV,t,Z=>by
  rw [Nat.mul_add,Nat.mul_one] at Z
  have:=jQ.CY b S (t.CM b (by omega)) (by omega)
  rw [show cJ+(S+1)*c9=cJ+c9+S*c9 by rw [Nat.add_mul];omega,show aV - r*(S+1)=aV - r - r*S by rw [Nat.mul_add];omega]
  exact this
structure nR(cN a aS n O N cJ:Nat):Prop where
 uO:(aS+O*a) % cN=N
 a4:O < n
 pre:∀ aC,aC≤O→N≤(aS+aC*a) % cN
 c:∀ aC,0 < aC→aC < cJ→N+(aC*a) % cN < cN
def yQ(cN a aS n O N:Nat):Prop:=O < n∧(aS+O*a) % cN=N∧∀ aC,aC < n→N≤(aS+aC*a) % cN
theorem nR.fin{cN a aS n O N cJ:Nat}(aH:nR cN a aS n O N cJ)(Z:∀ aC,0 < aC→O+aC < n→N+(aC*a) % cN < cN):yQ cN a aS n O N:=by
 refine⟨aH.a4,aH.uO,fun aC b=>?_⟩
 by_cases c:aC≤O
 ·exact aH.pre aC c
 ·obtain⟨S,rfl⟩:∃ S,aC=O+S:=⟨aC - O,by omega⟩
  rw [Nat.add_mul,← Nat.add_assoc,AQ aH.uO rfl (Z S (by omega) b)];omega
theorem nR.O5{cN a aS n O N cJ aV:Nat}(aH:nR cN a aS n O N cJ)(b:0 < cN)(gY:0 < cJ)(l9:(cJ*a+aV) % cN=0)(Z:aV≤N)(a4:O+cJ < n):nR cN a aS n (O+cJ) (N - aV) cJ:=by
 refine⟨?_,a4,fun aC f=>?_,fun aC aX aZ=>by have:=aH.c aC aX aZ;omega⟩
 ·rw [Nat.add_mul,← Nat.add_assoc];exact yP b aH.uO l9 Z
 ·by_cases d:aC≤O
  ·have:=aH.pre aC d;omega
  ·obtain⟨S,rfl⟩:∃ S,aC=O+S:=⟨aC - O,by omega⟩
   by_cases e:S=cJ
   ·subst e;rw [Nat.add_mul,← Nat.add_assoc,yP b aH.uO l9 Z];omega
   ·rw [Nat.add_mul,← Nat.add_assoc,AQ aH.uO rfl (aH.c S (by omega) (by omega))];omega
theorem nR.Hk{cN a aS n cJ aV:Nat}(b:0 < cN)(gY:0 < cJ)(l9:(cJ*a+aV) % cN=0):∀ (S:Nat) {O N:Nat},nR cN a aS n O N cJ→aV*S≤N→O+S*cJ < n→nR cN a aS n (O+S*cJ) (N - aV*S) cJ
 | 0,O,N,aH,_,_=>by simpa using aH
 | S+1,O,N,aH,Z,a4=>by
  rw [Nat.mul_add,Nat.mul_one] at Z
  rw [Nat.add_mul,Nat.one_mul] at a4
  have:=nR.Hk b gY l9 S (aH.O5 b gY l9 (by omega) (by omega)) (by omega) (by omega)
  rw [show O+(S+1)*cJ=O+cJ+S*cJ by rw [Nat.add_mul];omega,show N - aV*(S+1)=N - aV - aV*S by rw [Nat.mul_add];omega]
  exact this
theorem period{cN a p N:Nat}(e:N < cN)(aX:(p*a) % cN=0)(b:0 < p)(Z:∀ aC,0 < aC→aC < p→N+(aC*a) % cN < cN):∀ aC,N+(aC*a) % cN < cN:=by
 intro aC
 have R:=Nat.div_add_mod aC p
 have c:(aC*a) % cN=(aC % p*a) % cN:=by
  have:aC*a=aC % p*a+cN*(p*a / cN*(aC / p)):=by
   have aZ:=Nat.div_add_mod (p*a) cN
   rw [aX,Nat.add_zero] at aZ
   rw [← Nat.mul_assoc,aZ]
   calc aC*a=(p*(aC / p)+aC % p)*a:=by rw [R]
    _=aC % p*a+p*a*(aC / p):=by rw [Nat.add_mul,Nat.mul_right_comm];omega
  rw [this,Nat.add_mul_mod_self_left]
 rw [c]
 by_cases d:aC % p=0
 ·rw [d,Nat.zero_mul,Nat.zero_mod];omega
 ·exact Z _ (by omega) (Nat.mod_lt _ b)
theorem O6{cN a aS n:Nat}(g:0 < cN){bU:Nat→Nat→Nat→Nat→Nat→Nat→Option (Nat × Nat)}
  (w:∀ N O aV cJ r c9,nR cN a aS n O N cJ→jQ cN a cJ c9 aV r→0 < aV→∀ p,bU N O aV cJ r c9=some p→yQ cN a aS n p.1 p.2)
  {N O aV cJ r c9:Nat} (aH:nR cN a aS n O N cJ) (i:jQ cN a cJ c9 aV r) (d0:0 < aV) {p:Nat × Nat} (Z:r6 n bU N O aV cJ r c9=some p):yQ cN a aS n p.1 p.2:=by
 unfold r6 at Z
 simp only [Cq,nL,hB,lO] at Z
 have a4:=aH.a4
 have gY:=i.gY
 have iH:=i.iH
 generalize J:min (min (N / aV) n) ((n - 1 - O) / cJ)=t at Z
 have t1:aV*t≤N:=Nat.le_trans (Nat.mul_le_mul_left aV (show t≤N / aV by omega)) (Nat.mul_div_le N aV)
 have t2:t*cJ≤n - 1 - O:=(Nat.le_div_iff_mul_le gY).mp (by omega)
 have e:=nR.Hk g gY i.l9 t aH t1 (by omega)
 have P:N - aV*t < aV∨n - 1 < O+t*cJ+cJ:=by
  by_cases c:t=N / aV
  ·left
   have:=Nat.div_add_mod N aV
   have:=Nat.mod_lt N d0
   rw [c];omega
  ·right
   have bG:t=(n - 1 - O) / cJ:=by
    have:(n - 1 - O) / cJ≤n - 1 - O:=Nat.div_le_self _ _
    omega
   have:=Nat.lt_mul_div_succ (n - 1 - O) gY
   rw [← bG,Nat.mul_add,Nat.mul_comm cJ t] at this;omega
 have o:N - aV*t < cN:=by have:=Nat.mod_lt (aS+O*a) g;rw [aH.uO] at this;omega
 generalize N - aV*t=aP at *
 generalize O+t*cJ=S at *
 cases aG:(Nat.blt (n - 1) (S+cJ) || (Nat.beq aP 0 || Nat.ble aV aP)) with
 | true=>
  rw [aG,cond_true] at Z
  obtain rfl:=Option.some.inj Z
  simp only [Bool.or_eq_true,Nat.blt_eq,Nat.beq_eq,Nat.ble_eq] at aG
  refine e.fin fun aC d j=>?_
  by_cases Q:aP=0
  ·have:=Nat.mod_lt (aC*a) g;omega
  ·exact e.c aC d (by omega)
 | false=>
  rw [aG,cond_false] at Z
  replace aG:=ne_true_of_eq_false aG
  simp only [Bool.or_eq_true,Nat.blt_eq,Nat.beq_eq,Nat.ble_eq,not_or] at aG
  obtain⟨T,V,Pt⟩:=aG
  generalize hu:min (r / aV) n=cU at Z
  have eE:aV*cU≤r:=Nat.le_trans (Nat.mul_le_mul_left aV (show cU≤r / aV by omega)) (Nat.mul_div_le r aV)
  have f:=jQ.Hj g cU i eE
  have k:(bif Nat.beq cU 0 then c9 else min (c9+cU*cJ) (n+1))=min (c9+cU*cJ) (n+1)∨cU=0∧(bif Nat.beq cU 0 then c9 else min (c9+cU*cJ) (n+1))=c9:=by
   cases R:Nat.beq cU 0 with
   | true=>exact Or.inr ⟨by simpa using R,rfl⟩
   | false=>exact Or.inl rfl
  generalize (bif Nat.beq cU 0 then c9 else min (c9+cU*cJ) (n+1))=b at *
  have x:cU < n→r - aV*cU < aV:=by
   intro y
   have:=Nat.div_add_mod r aV
   have:=Nat.mod_lt r d0
   rw [show cU=r / aV by omega];omega
  have z:¬ cU < n→n < b:=by
   intro y
   have:cU*1≤cU*cJ:=Nat.mul_le_mul_left cU gY
   rcases k with R | ⟨l,q⟩
   ·omega
   ·omega
  have A:n < b→n < c9+cU*cJ:=by
   intro s
   rcases k with R | ⟨l,q⟩
   ·omega
   ·have:=Nat.zero_le (cU*cJ);omega
  have B:¬ n < b→b=c9+cU*cJ:=by
   intro s
   rcases k with R | ⟨l,q⟩
   ·omega
   ·subst l;rw [Nat.zero_mul];omega
  generalize r - aV*cU=aE at *
  cases bG:(Nat.beq aE 0 || Nat.blt n b) with
  | true=>
   rw [bG,cond_true] at Z
   obtain rfl:=Option.some.inj Z
   simp only [Bool.or_eq_true,Nat.blt_eq,Nat.beq_eq] at bG
   refine e.fin fun aC d j=>?_
   rcases bG with R | R
   ·subst R
    refine period o f.rd f.iH (fun aC d j=>?_) aC
    have:=f.eM aC d (by omega);omega
   ·have:=f.eM aC d (by have:=A R;omega);omega
  | false=>
   rw [bG,cond_false] at Z
   replace bG:=ne_true_of_eq_false bG
   simp only [Bool.or_eq_true,Nat.blt_eq,Nat.beq_eq,not_or] at bG
   obtain⟨Pu,u⟩:=bG
   obtain rfl:=B u
   have Pv:=x (by refine Nat.lt_of_not_le fun s=>?_;exact u (z (by omega)))
   generalize c9+cU*cJ=b at *
   generalize bW:min ((aV - aP) / aE) n=v at Z
   have Pw:aE*v≤aV - aP:=Nat.le_trans (Nat.mul_le_mul_left aE (show v≤(aV - aP) / aE by omega)) (Nat.mul_div_le (aV - aP) aE)
   generalize h:(bif Nat.blt (aE*v) (aV - aP) then v+1 else v)=aB at Z
   have C:aB ≠ 0→aE*(aB - 1) < aV - aP:=by
    intro iE
    cases R:Nat.blt (aE*v) (aV - aP) with
    | true=>rw [R,cond_true] at h;rw [Nat.blt_eq] at R;rw [← h,Nat.add_sub_cancel];exact R
    | false=>
     rw [R,cond_false] at h
     subst h
     have:aE*v=aE*(v - 1)+aE:=by
      conv=>lhs;rw [show v=v - 1+1 by omega]
      rw [Nat.mul_add,Nat.mul_one]
     omega
   generalize Px:min aB (min (aV / aE) n)=bI at Z
   have Py:aE*bI≤aV:=Nat.le_trans (Nat.mul_le_mul_left aE (show bI≤aV / aE by omega)) (Nat.mul_div_le aV aE)
   cases cR:Nat.beq bI 0 with
   | true=>
    exfalso
    rw [Nat.beq_eq] at cR
    have:0 < aV / aE:=Nat.div_pos (by omega) (by omega)
    have iE:aB=0:=by omega
    cases R:Nat.blt (aE*v) (aV - aP) with
    | true=>rw [R,cond_true] at h;omega
    | false=>
     rw [R,cond_false] at h
     have D:¬ aE*v < aV - aP:=by rw [← Nat.blt_eq,R];decide
     rw [show v=0 by omega,Nat.mul_zero] at D;omega
   | false=>
    rw [cR,cond_false] at Z
    have Pz:bI ≠ 0:=by intro R;rw [R] at cR;cases cR
    have iE:aB ≠ 0:=by omega
    have PA:aE*(bI - 1) < aV - aP:=Nat.lt_of_le_of_lt (Nat.mul_le_mul_left aE (by omega)) (C iE)
    have PB:aE*bI=aE*(bI - 1)+aE:=by
     conv=>lhs;rw [show bI=bI - 1+1 by omega]
     rw [Nat.mul_add,Nat.mul_one]
    have E:bI*b=(bI - 1)*b+b:=by
     conv=>lhs;rw [show bI=bI - 1+1 by omega]
     rw [Nat.add_mul,Nat.one_mul]
    have m:=jQ.CY g (bI - 1) f (by omega)
    have eF:∀ aC,0 < aC→aC < cJ+bI*b→aP+(aC*a) % cN < cN:=by
     intro aC d j
     have:=m.eM aC d (by omega);omega
    have PC:=f.iH
    cases bO:(Nat.beq (aV - aE*bI) 0 || Nat.blt n (min (cJ+bI*b) (n+1))) with
    | true=>
     rw [bO,cond_true] at Z
     obtain rfl:=Option.some.inj Z
     simp only [Bool.or_eq_true,Nat.blt_eq,Nat.beq_eq] at bO
     refine e.fin fun aC d j=>?_
     rcases bO with R | R
     ·have dM:aV - aE*(bI - 1)=aE:=by omega
      have F:((cJ+bI*b)*a) % cN=0:=by
       have aZ:=Nat.div_add_mod ((cJ+(bI - 1)*b)*a+(aV - aE*(bI - 1))) cN
       rw [m.l9] at aZ
       have G:=Nat.div_add_mod (b*a) cN
       rw [m.rd] at G
       have H:(cJ+bI*b)*a=cN*(((cJ+(bI - 1)*b)*a+(aV - aE*(bI - 1))) / cN+b*a / cN):=by
        rw [E,← Nat.add_assoc,Nat.add_mul,Nat.mul_add];omega
       rw [H,Nat.mul_mod_right]
      exact period o F (by omega) eF aC
     ·exact eF aC d (by omega)
    | false=>
     rw [bO,cond_false] at Z
     replace bO:=ne_true_of_eq_false bO
     simp only [Bool.or_eq_true,Nat.blt_eq,Nat.beq_eq,not_or] at bO
     obtain⟨PD,PE⟩:=bO
     have R:min (cJ+bI*b) (n+1)=cJ+bI*b:=by omega
     rw [R] at Z
     have I:=jQ.CY g bI f (by omega)
     exact w _ _ _ _ _ _ ⟨e.uO,e.a4,e.pre,eF⟩ I (by omega) p Z
theorem Hl{cN a aS n:Nat}(b:0 < cN):∀ (f:Nat) (N O aV cJ r c9:Nat),nR cN a aS n O N cJ→jQ cN a cJ c9 aV r→0 < aV→∀ p,As n f N O aV cJ r c9=some p→yQ cN a aS n p.1 p.2
 | 0,_,_,_,_,_,_,_,_,_,_,Z=>by cases Z
 | f+1,N,O,aV,cJ,r,c9,aH,c,d0,p,Z=>O6 b (Hl b f) aH c d0 Z
noncomputable def hE{cX:Type}(n:Nat)(f:Nat→cX):cX:=Nat.rec (f 0) (fun S _=>f (Nat.succ S)) n
theorem k6{cX:Type}(n:Nat)(f:Nat→cX):hE n f=f n:=by cases n <;> rfl
noncomputable def Hm(n:Nat)(bU:Nat→Nat→Nat→Nat→Nat→Nat→Option (Nat × Nat))(N O aV cJ r c9:Nat):Option (Nat × Nat):=
 hE (Nat.div (Nat.sub (Nat.add aV r) (Nat.succ N)) r) fun t=>hE (Nat.div aV r) fun t2=>hE (Nat.sub t (Nat.sub t t2)) fun t=>hE (Nat.sub aV (Nat.mul r t)) fun aV=>hE (Nat.add cJ (Nat.mul t c9)) fun cJ=>
 cond (Nat.ble aV 0) (some (O,N)) <| cond (Nat.ble cJ n) (bU N O aV cJ r c9) (some (O,N))
noncomputable def Hn(n:Nat)(bU:Nat→Nat→Nat→Nat→Nat→Nat→Option (Nat × Nat))(N O aV cJ r c9:Nat):Option (Nat × Nat):=
 hE (Nat.add c9 (Nat.mul (Nat.div r aV) cJ)) fun c9=>cond (Nat.ble c9 n) (hE (Nat.mod r aV) fun r=>cond (Nat.ble r 0) (some (O,N)) (Hm n bU N O aV cJ r c9)) (some (O,N))
noncomputable def CZ(n:Nat)(bU:Nat→Nat→Nat→Nat→Nat→Nat→Option (Nat × Nat))(N O aV cJ r c9:Nat):Option (Nat × Nat):=
 hE (Nat.div N aV) fun t=>hE (Nat.sub t (Nat.sub t (Nat.div (Nat.sub (Nat.sub n 1) O) cJ))) fun t=>hE (Nat.sub N (Nat.mul aV t)) fun N=>hE (Nat.add O (Nat.mul t cJ)) fun O=>
 cond (Nat.ble n (Nat.add O cJ)) (some (O,N)) <| cond (Nat.ble N 0) (some (O,N)) <| Hn n bU N O aV cJ r c9
noncomputable def Ho(n:Nat)(f:Nat):Nat→Nat→Nat→Nat→Nat→Nat→Option (Nat × Nat):=
 Nat.rec (fun _ _ _ _ _ _=>none) (fun _ bU=>CZ n bU) f
theorem O7(a L:Nat):a - (a - L)=min a L:=by omega
theorem qY{cX:Type}(a L:Nat)(N aP:cX):cond (Nat.ble a L) N aP=if a≤L then N else aP:=by
 cases Z:Nat.ble a L with
 | true=>rw [if_pos (Nat.le_of_ble_eq_true Z)];rfl
 | false=>rw [if_neg (fun b=>by rw [Nat.ble_eq_true_of_le b] at Z;cases Z)];rfl
theorem O8{g r:Nat}(a:0 < r)(b:0 < g):(bif Nat.blt (r*(g / r)) g then g / r+1 else g / r)=(g+r - 1) / r:=by
 have aZ:=Nat.div_add_mod g r
 have c:=Nat.mod_lt g a
 cases Z:Nat.blt (r*(g / r)) g with
 | true=>
  rw [Nat.blt_eq] at Z
  show g / r+1=_
  have R:g+r - 1=(g % r - 1)+r*(g / r+1):=by rw [Nat.mul_add,Nat.mul_one];omega
  rw [R,Nat.add_mul_div_left _ _ a,Nat.div_eq_of_lt (show g % r - 1 < r by omega)];omega
 | false=>
  replace Z:=ne_true_of_eq_false Z
  rw [Nat.blt_eq] at Z
  show g / r=_
  have R:g+r - 1=(r - 1)+r*(g / r):=by omega
  rw [R,Nat.add_mul_div_left _ _ a,Nat.div_eq_of_lt (show r - 1 < r by omega)];omega
theorem Cs(a L:Nat):Nat.div a L=a / L:=rfl
theorem x2(a L:Nat):Nat.mod a L=a % L:=rfl
theorem O9{n:Nat}{bU h:Nat→Nat→Nat→Nat→Nat→Nat→Option (Nat × Nat)}(i:∀ N O aV cJ r c9 p,0 < aV→0 < cJ→0 < c9→O < n→bU N O aV cJ r c9=some p→h N O aV cJ r c9=some p)
  {N O aV cJ r c9:Nat} (d0:0 < aV) (gY:0 < cJ) (iH:0 < c9) (a4:O < n) {p:Nat × Nat} (Z:CZ n bU N O aV cJ r c9=some p):r6 n h N O aV cJ r c9=some p:=by
 unfold r6
 simp only [Cq,nL,hB,lO]
 unfold CZ Hn Hm at Z
 simp only [k6,qY,Nat.sub_eq,Nat.add_eq,Nat.mul_eq,Cs,x2,O7,Nat.succ_eq_add_one] at Z
 have w:(n - 1 - O) / cJ≤n - 1 - O:=Nat.div_le_self _ _
 have j:min (min (N / aV) n) ((n - 1 - O) / cJ)=min (N / aV) ((n - 1 - O) / cJ):=by omega
 rw [j]
 have x:N - aV*min (N / aV) ((n - 1 - O) / cJ) < aV∨n - 1 < O+min (N / aV) ((n - 1 - O) / cJ)*cJ+cJ:=by
  by_cases c:min (N / aV) ((n - 1 - O) / cJ)=N / aV
  ·left
   have:=Nat.div_add_mod N aV
   have:=Nat.mod_lt N d0
   rw [c];omega
  ·right
   have bG:min (N / aV) ((n - 1 - O) / cJ)=(n - 1 - O) / cJ:=by omega
   have:=Nat.lt_mul_div_succ (n - 1 - O) gY
   rw [bG]
   rw [Nat.mul_add,Nat.mul_comm cJ ((n - 1 - O) / cJ)] at this;omega
 have t2:min (N / aV) ((n - 1 - O) / cJ)*cJ≤n - 1 - O:=(Nat.le_div_iff_mul_le gY).mp (by omega)
 generalize min (N / aV) ((n - 1 - O) / cJ)=t at *
 have k:O+t*cJ < n:=by omega
 generalize N - aV*t=aP at *
 generalize O+t*cJ=S at *
 have a:∀ {L:Bool} {b bC:Option (Nat × Nat)},L=true→(bif L then b else bC)=b:=fun R=>by rw [R];rfl
 have d:∀ {L:Bool} {b bC:Option (Nat × Nat)},¬ L=true→(bif L then b else bC)=bC:=fun R=>by
  rw [Bool.not_eq_true] at R;rw [R];rfl
 by_cases aG:n≤S+cJ
 ·rw [if_pos aG] at Z
  rw [a (by simp only [Bool.or_eq_true,Nat.blt_eq,Nat.beq_eq,Nat.ble_eq];left;omega)];exact Z
 rw [if_neg aG] at Z
 by_cases bG:aP≤0
 ·rw [if_pos bG] at Z
  rw [a (by simp only [Bool.or_eq_true,Nat.blt_eq,Nat.beq_eq,Nat.ble_eq];right;left;omega)];exact Z
 rw [if_neg bG] at Z
 rw [d (by simp only [Bool.or_eq_true,Nat.blt_eq,Nat.beq_eq,Nat.ble_eq];omega)]
 have y:r / aV*1≤r / aV*cJ:=Nat.mul_le_mul_left _ gY
 have z:n*1≤n*cJ:=Nat.mul_le_mul_left _ gY
 have l:∀ cU,(bif Nat.beq cU 0 then c9 else min (c9+cU*cJ) (n+1))=if cU=0 then c9 else min (c9+cU*cJ) (n+1):=by
  intro cU
  by_cases hu:cU=0
  ·subst hu;rfl
  ·rw [if_neg hu];cases cU with
   | zero=>exact absurd rfl hu
   | succ cU=>rfl
 rw [l]
 by_cases cR:¬ c9+r / aV*cJ≤n
 ·rw [if_neg cR] at Z
  rw [a]
  ·exact Z
  ·simp only [Bool.or_eq_true,Nat.blt_eq,Nat.beq_eq]
   right
   by_cases hu:r / aV≤n
   ·rw [Nat.min_eq_left hu]
    split
    ·rename_i R;rw [R,Nat.zero_mul] at cR;omega
    ·omega
   ·rw [Nat.min_eq_right (by omega)]
    split <;> omega
 replace cR:=Decidable.not_not.mp cR
 rw [if_pos cR] at Z
 have hu:min (r / aV) n=r / aV:=by omega
 rw [hu]
 have m:(if r / aV=0 then c9 else min (c9+r / aV*cJ) (n+1))=c9+r / aV*cJ:=by
  split
  ·rename_i R;rw [R,Nat.zero_mul];rfl
  ·omega
 rw [m]
 have o:r - aV*(r / aV)=r % aV:=by have:=Nat.div_add_mod r aV;omega
 rw [o]
 have A:=Nat.mod_lt r d0
 have e:0 < c9+r / aV*cJ:=by omega
 generalize c9+r / aV*cJ=f at *
 generalize r % aV=aE at *
 by_cases eF:aE≤0
 ·rw [if_pos eF] at Z
  rw [a (by simp only [Bool.or_eq_true,Nat.blt_eq,Nat.beq_eq];left;omega)];exact Z
 rw [if_neg eF] at Z
 rw [d (by simp only [Bool.or_eq_true,Nat.blt_eq,Nat.beq_eq];omega)]
 have q:min (bif Nat.blt (aE*min ((aV - aP) / aE) n) (aV - aP) then min ((aV - aP) / aE) n+1 else min ((aV - aP) / aE) n) (min (aV / aE) n)=min (min ((aV+aE - (aP+1)) / aE) (aV / aE)) n:=by
  have s:aV+aE - (aP+1)=aV - aP+aE - 1:=by omega
  have u:=O8 (g:=aV - aP) (r:=aE) (by omega) (by omega)
  have B:(aV - aP) / aE≤aV / aE:=Nat.div_le_div_right (by omega)
  rw [s,← u]
  by_cases bW:(aV - aP) / aE≤n
  ·rw [Nat.min_eq_left bW];omega
  ·rw [Nat.min_eq_right (show n≤(aV - aP) / aE by omega)]
   cases C:Nat.blt (aE*n) (aV - aP) <;> cases D:Nat.blt (aE*((aV - aP) / aE)) (aV - aP) <;> simp only [cond_true,cond_false] <;> omega
 rw [q]
 have E:0 < min ((aV+aE - (aP+1)) / aE) (aV / aE):=by
  have aJ:0 < (aV+aE - (aP+1)) / aE:=Nat.div_pos (by omega) (by omega)
  have bJ:0 < aV / aE:=Nat.div_pos (by omega) (by omega)
  omega
 generalize min ((aV+aE - (aP+1)) / aE) (aV / aE)=bI at *
 rw [d (by simp only [Nat.beq_eq];omega)]
 by_cases v:bI≤n
 ·rw [Nat.min_eq_left v]
  by_cases bO:aV - aE*bI≤0
  ·rw [if_pos bO] at Z
   rw [a (by simp only [Bool.or_eq_true,Nat.blt_eq,Nat.beq_eq];left;omega)];exact Z
  rw [if_neg bO] at Z
  by_cases a9:cJ+bI*f≤n
  ·rw [if_pos a9] at Z
   rw [d (by simp only [Bool.or_eq_true,Nat.blt_eq,Nat.beq_eq];omega),Nat.min_eq_left (by omega)]
   exact i _ _ _ _ _ _ _ (by omega) (by omega) e k Z
  ·rw [if_neg a9] at Z
   rw [a (by simp only [Bool.or_eq_true,Nat.blt_eq,Nat.beq_eq];right;omega)];exact Z
 ·rw [Nat.min_eq_right (by omega)]
  have F:n*1≤n*f:=Nat.mul_le_mul_left _ e
  have G:bI*1≤bI*f:=Nat.mul_le_mul_left _ e
  rw [a (by simp only [Bool.or_eq_true,Nat.blt_eq,Nat.beq_eq];right;omega)]
  by_cases bO:aV - aE*bI≤0
  ·rw [if_pos bO] at Z;exact Z
  ·rw [if_neg bO,if_neg (by omega)] at Z;exact Z
theorem Hp(n:Nat):∀ (f N O aV cJ r c9:Nat) (p:Nat × Nat),0 < aV→0 < cJ→0 < c9→O < n→Ho n f N O aV cJ r c9=some p→As n f N O aV cJ r c9=some p
 | 0,_,_,_,_,_,_,_,_,_,_,_,Z=>by cases Z
 | f+1,N,O,aV,cJ,r,c9,p,d0,gY,iH,a4,Z=>O9 (Hp n f) d0 gY iH a4 Z
noncomputable def x1(cN a aS n f:Nat):Option (Nat × Nat):=Ho n f aS 0 (cN - a) 1 a 1
theorem Gk{cN a aS n f:Nat}(c:a < cN)(b:0 < n){p:Nat × Nat}(Z:x1 cN a aS n f=some p):As n f aS 0 (cN - a) 1 a 1=some p:=
 Hp n f _ _ _ _ _ _ p (by omega) (by decide) (by decide) b Z
theorem x3{cN a aS n f:Nat}(b:a < cN)(c:aS < cN)(d:0 < n){p:Nat × Nat}(Z:x1 cN a aS n f=some p):yQ cN a aS n p.1 p.2:=by
 refine Hl (by omega) f _ _ _ _ _ _ ⟨?_,d,fun aC e=>?_,fun aC aX aZ=>by omega⟩ ⟨by decide,by decide,by omega,b,?_,?_,fun aC aX aZ=>?_,fun aC aX aZ=>?_⟩ (by omega) p (Gk b d Z)
 ·rw [Nat.zero_mul,Nat.add_zero,Nat.mod_eq_of_lt c]
 ·obtain rfl:aC=0:=by omega
  rw [Nat.zero_mul,Nat.add_zero,Nat.mod_eq_of_lt c];exact Nat.le_refl _
 ·rw [Nat.one_mul,Nat.mod_eq_of_lt b]
 ·rw [Nat.one_mul,show a+(cN - a)=cN by omega,Nat.mod_self]
 ·obtain rfl:aC=1:=by omega
  rw [Nat.one_mul,Nat.mod_eq_of_lt b];exact Nat.le_refl _
 ·obtain rfl:aC=1:=by omega
  rw [Nat.one_mul,Nat.mod_eq_of_lt b];omega
noncomputable def force{cX:Type}(n:Nat)(f:Nat→cX):cX:=Nat.rec (f 0) (fun S _=>f (S+1)) n
theorem force_eq{cX:Type}(n:Nat)(f:Nat→cX):force n f=f n:=by cases n <;> rfl
noncomputable def oX(m:Nat)(S:Nat):Nat→Nat→Nat→Nat→Nat:=
 Nat.rec (fun _ _ a L=>a - L) (fun _ bU t O a L=>force t fun t=>force O fun O=>force a fun a=>force L fun L=>bU (t / m) (O+2) L (a+t / O)) S
theorem Pa(m S t O a L:Nat):oX m (S+1) t O a L=oX m S (t / m) (O+2) L (a+t / O):=by
 show(force t fun t=>force O fun O=>force a fun a=>force L fun L=>oX m S (t / m) (O+2) L (a+t / O))=_
 simp only [force_eq]
def fB(n aB aC:Nat):Nat:=2 ^ aB / n ^ (2*aC+1)
def iA(n aB aC:Nat):Nat:=fB n aB aC / (2*aC+1)
def dT(n aB:Nat):Nat→Nat
 | 0=>0
 | S+1=>dT n aB S+if S % 2=0 then iA n aB S else 0
def dU(n aB:Nat):Nat→Nat
 | 0=>0
 | S+1=>dU n aB S+if S % 2=0 then 0 else iA n aB S
theorem yR(n aB S:Nat):dT n aB (S+1)=dT n aB S+if S % 2=0 then iA n aB S else 0:=rfl
theorem yS(n aB S:Nat):dU n aB (S+1)=dU n aB S+if S % 2=0 then 0 else iA n aB S:=rfl
theorem Cl(n aB:Nat):fB n aB 0=2 ^ aB / n:=by simp [fB]
theorem xV(n aB aC:Nat):fB n aB (aC+1)=fB n aB aC / (n*n):=by
 unfold fB
 rw [Nat.div_div_eq_div_mul,show 2*(aC+1)+1=(2*aC+1)+1+1 by omega,Nat.pow_succ,Nat.pow_succ,Nat.mul_assoc]
theorem tR(n aC:Nat){aB bH:Nat}(Z:aB≤bH):fB n aB aC=fB n bH aC / 2 ^ (bH - aB):=by
 unfold fB
 rw [Nat.div_div_eq_div_mul,Nat.mul_comm (n ^ _),← Nat.div_div_eq_div_mul]
 congr 1
 rw [show 2 ^ bH=2 ^ aB*2 ^ (bH - aB) by rw [← Nat.pow_add];congr 1;omega,Nat.mul_div_cancel _ (Nat.pow_pos (by decide))]
theorem Pb(n aC:Nat){aB bH:Nat}(Z:aB≤bH):iA n aB aC=iA n bH aC / 2 ^ (bH - aB):=by
 unfold iA
 rw [tR n aC Z,Nat.div_div_eq_div_mul,Nat.mul_comm (2 ^ _),← Nat.div_div_eq_div_mul]
theorem Hq(n aB aC:Nat):fB n aB (aC+1)≤fB n aB aC:=by rw [xV];exact Nat.div_le_self _ _
theorem FV{n aB aF:Nat}(Z:fB n aB aF=0):∀ S,aF≤S→fB n aB S=0:=by
 intro S a
 induction a with
 | refl=>exact Z
 | step _ bU=>have:=Hq n aB (by assumption:Nat);rw [xV,bU,Nat.zero_div]
theorem Pc{n aB aF:Nat}(Z:fB n aB aF=0)(S:Nat)(a:aF≤S):iA n aB S=0:=by unfold iA;rw [FV Z S a,Nat.zero_div]
theorem Pd(n aB aC:Nat):iA n aB (aC+1)≤iA n aB aC:=by
 unfold iA
 exact Nat.le_trans (Nat.div_le_div_right (Hq n aB aC)) (Nat.div_le_div_left (by omega) (by omega))
theorem Aj{n aB aF:Nat}(Z:fB n aB aF=0):∀ S,aF≤S→dT n aB S=dT n aB aF∧dU n aB S=dU n aB aF:=by
 intro S a
 induction a with
 | refl=>exact⟨rfl,rfl⟩
 | @step S a bU=>
  have:=Pc Z S a
  rw [yR,yS,this,bU.1,bU.2]
  split <;> exact⟨rfl,rfl⟩
theorem Pe(n aB:Nat):∀ S,dU n aB (2*S)≤dT n aB (2*S)∧dU n aB (2*S+1)≤dT n aB (2*S+1):=by
 intro S
 induction S with
 | zero=>simp [dT,dU]
 | succ S bU=>
  have Z:=Pd n aB (2*S)
  have e:dT n aB (2*S+1)=dT n aB (2*S)+iA n aB (2*S):=by rw [dT,if_pos (by omega)]
  have f:dU n aB (2*S+1)=dU n aB (2*S):=by rw [dU,if_pos (by omega)];rfl
  have a:dT n aB (2*S+1+1)=dT n aB (2*S+1):=by rw [dT,if_neg (by omega)];rfl
  have b:dU n aB (2*S+1+1)=dU n aB (2*S+1)+iA n aB (2*S+1):=by rw [dU,if_neg (by omega)]
  have c:dT n aB (2*(S+1)+1)=dT n aB (2*S+1+1)+iA n aB (2*S+1+1):=by
   rw [show 2*(S+1)+1=(2*S+1+1)+1 by omega,dT,if_pos (by omega)]
  have d:dU n aB (2*(S+1)+1)=dU n aB (2*S+1+1):=by
   rw [show 2*(S+1)+1=(2*S+1+1)+1 by omega,dU,if_pos (by omega)];rfl
  rw [c,d,show 2*(S+1)=2*S+1+1 by omega,a,b]
  omega
theorem pX(n aB S:Nat):dU n aB S≤dT n aB S:=by
 have:=Pe n aB (S / 2)
 rcases Nat.mod_two_eq_zero_or_one S with Z | Z
 ·have R:2*(S / 2)=S:=by omega
  rw [R] at this;exact this.1
 ·have R:2*(S / 2)+1=S:=by omega
  rw [R] at this;exact this.2
theorem xS(n:Nat){aB bH:Nat}(Z:aB≤bH):∀ S,2 ^ (bH - aB)*dT n aB S≤dT n bH S∧dT n bH S≤2 ^ (bH - aB)*dT n aB S+S*2 ^ (bH - aB)
  ∧2 ^ (bH - aB)*dU n aB S≤dU n bH S∧dU n bH S≤2 ^ (bH - aB)*dU n aB S+S*2 ^ (bH - aB):=by
 intro S
 have a:0 < 2 ^ (bH - aB):=Nat.pow_pos (by decide)
 induction S with
 | zero=>simp [dT,dU]
 | succ S bU=>
  have R:=Pb n S Z
  have aZ:=Nat.div_add_mod (iA n bH S) (2 ^ (bH - aB))
  have b:=Nat.mod_lt (iA n bH S) a
  rw [← R] at aZ
  simp only [yR,yS]
  split <;> (simp only [Nat.mul_add,Nat.add_mul,Nat.add_zero,Nat.one_mul];omega)
theorem Li(n aB:Nat):∀ S,dT n aB S≤S*2 ^ aB∧dU n aB S≤S*2 ^ aB:=by
 intro S
 induction S with
 | zero=>simp [dT,dU]
 | succ S bU=>
  have Z:iA n aB S≤2 ^ aB:=Nat.le_trans (Nat.div_le_self _ _) (Nat.div_le_self _ _)
  rw [yR,yS,Nat.add_mul,Nat.one_mul]
  split <;> omega
theorem FY{n aB aF:Nat}(a:2≤n)(Z:fB n aB aF ≠ 0):2*aF+1≤aB:=by
 have aZ:n ^ (2*aF+1)≤2 ^ aB:=by
  refine Nat.le_of_not_lt fun b=>Z ?_
  exact Nat.div_eq_of_lt b
 have c:2 ^ (2*aF+1)≤2 ^ aB:=Nat.le_trans (Nat.pow_le_pow_left a _) aZ
 exact(Nat.pow_le_pow_iff_right (by decide)).mp c
theorem Pf(n aB:Nat):∀ S aC,(S+aC) % 2=0→
  oX (n*n) S (fB n aB aC) (2*aC+1) (if aC % 2=0 then dT n aB aC else dU n aB aC) (if aC % 2=0 then dU n aB aC else dT n aB aC)=dT n aB (S+aC) - dU n aB (S+aC):=by
 intro S
 induction S with
 | zero=>intro aC a;rw [if_pos (by omega),if_pos (by omega),Nat.zero_add];rfl
 | succ S bU=>
  intro aC a
  rw [Pa,← xV,show 2*aC+1+2=2*(aC+1)+1 by omega,show S+1+aC=S+(aC+1) by omega,← bU (aC+1) (by omega)]
  show oX _ _ _ _ _ (_+iA n aB aC)=_
  congr 1
  ·rw [yR,yS]
   by_cases Z:aC % 2=0
   ·rw [if_pos Z,if_neg (by omega),if_pos Z];rfl
   ·rw [if_neg Z,if_pos (by omega),if_neg Z];rfl
  ·rw [yR,yS]
   by_cases Z:aC % 2=0
   ·rw [if_pos Z,if_neg (by omega),if_pos Z]
   ·rw [if_neg Z,if_pos (by omega),if_neg Z]
theorem xT(n aB S:Nat)(a:S % 2=0):dT n aB S - dU n aB S=oX (n*n) S (2 ^ aB / n) 1 0 0:=by
 have:=Pf n aB S 0 (by omega)
 rw [Cl] at this
 exact this.symm
abbrev hI:Nat:=106937688940968101568520295731801138857827202830006851169677272293281241180647803776394266198720996189227803738202197106355534191726285760255998505757921947470486233670987095309194285862467539685567002432331647719934610556214708844537733521449215131135642479809455669842373022771309008761174914697077727284628078295399460836614913637844856395348020305303283184612531000050028878489998218776580040522951052306626129921444676578840184819479601266297863183475716650308634937685742705956127373178271076338116354264367681865696775216337451629603011018563118456482097899144797648290469531483378193239773416318668461446652679025891468115771441450339219653379304093926428506513445733525485231516666345627449879163775729653748279900012441806277675766758556323979153132732506815220085641198124173114968854511217214171941165580070203341091613636813385438732888053955974411223181060985126433148058920900568754439793344638937332940535664350231711721792110690384387506204155115611984391616160985489822569077049076788883832218810415649660786935547168893297397675957341601609444080446891164538769590734201026369559368709899442315784294126628596807970073288428217799468042507438050531342533826870680255312053701910154466904824800215373734767755912008641298294462837563540487529470858782034282301635839068644196269790653005385246521689620224148
abbrev q6:Nat:=21670106438950044027773753661373242548581047271588309570413166894835566577140857200135624621822271826638536135301136973301956193406880783960766443342878681622045816875120351634207680817682143410289669618836876705565386791753913111301177925466984244819214418012209177156079983026305949774311270476509575972093260258813152043809267550211575980000823076312422471329920795567537507052882390151702700059416933748932668843918894114832868929314904823999839499607480906959541879324163869349312548084089290499614303814940889675780628640131840544258158067910198921408614211635263684626866779927041084164334776856136755444449861644887102953942274545757779808898736864123068605005441004092453171332530233795734973734238724019915910782768382028018638098929823389394080370222840356417805260745439146761210184139532204224321417248712695707878680092962226833650364208925543567265045795140423994246756181226587182374416729266842792140591118635239974324759519732905098315508295645468944444621563352761610585029630423398866059363403896220467401797793682768518992165314795003068281779687923152175652401510564536513297916200481370051477209594500405362033978301153961978710222988482112321845134589885057161606595381688591558836393546986136919136679572864606985540309331056000904405647726116515970544747669053093432287536570227874414715749694447386
theorem Pg:16*oX (5*5) 950 (2 ^ 4400 / 5) 1 0 0 - 4*oX (239*239) 280 (2 ^ 4400 / 239) 1 0 0=hI:=by kernel_rfl
theorem Ph:fB 5 4400 950=0:=by kernel_rfl
theorem Cg:fB 239 4400 280=0:=by kernel_rfl
def dG(aB:Nat):Nat:=hI / 2 ^ (4400 - aB)
theorem Pj{aB aF b:Nat}(c:aB≤4400)(f:fB 5 aB aF=0)(g:fB 239 aB b=0):
  4*(dT 239 aB b - dU 239 aB b)≤16*(dT 5 aB aF - dU 5 aB aF)+17400
  ∧16*(dT 5 aB aF - dU 5 aB aF)≤dG aB+17400+4*(dT 239 aB b - dU 239 aB b)
  ∧dG aB+4*(dT 239 aB b - dU 239 aB b)≤16*(dT 5 aB aF - dU 5 aB aF)+17400:=by
 have bP:fB 5 aB 950=0:=by rw [tR 5 950 c,Ph,Nat.zero_div]
 have h:fB 239 aB 280=0:=by rw [tR 239 280 c,Cg,Nat.zero_div]
 have same:∀ n S,fB n aB S=0→∀ m,fB n aB m=0→dT n aB S=dT n aB m∧dU n aB S=dU n aB m:=by
  intro n S i m d
  rcases Nat.le_total S m with Z | Z
  ·have:=Aj i m Z;exact⟨this.1.symm,this.2.symm⟩
  ·exact Aj d S Z
 obtain⟨j,k⟩:=same 5 aF f 950 bP
 obtain⟨l,o⟩:=same 239 b g 280 h
 rw [j,k,l,o]
 have p:0 < 2 ^ (4400 - aB):=Nat.pow_pos (by decide)
 have q:=xS 5 c 950
 have r:=xS 239 c 280
 have s:=pX 5 aB 950
 have t:=pX 239 aB 280
 have u:=pX 5 4400 950
 have w:=pX 239 4400 280
 have e:=Pg
 rw [← xT 5 4400 950 rfl,← xT 239 4400 280 rfl] at e
 have x:=Nat.div_add_mod hI (2 ^ (4400 - aB))
 have d:=Nat.mod_lt hI p
 have y:4*(dT 239 4400 280 - dU 239 4400 280)≤16*(dT 5 4400 950 - dU 5 4400 950):=by
  refine Nat.le_of_lt (Nat.lt_of_sub_pos ?_)
  rw [e];decide
 unfold dG
 generalize hI / 2 ^ (4400 - aB)=a2 at *
 generalize hI % 2 ^ (4400 - aB)=bK at *
 generalize hI=P at *
 generalize 2 ^ (4400 - aB)=D at *
 generalize dT 5 4400 950=z at *
 generalize dU 5 4400 950=A at *
 generalize dT 239 4400 280=bC at *
 generalize dU 239 4400 280=B at *
 generalize dT 5 aB 950=a at *
 generalize dU 5 aB 950=C at *
 generalize dT 239 aB 280=L at *
 generalize dU 239 aB 280=E at *
 obtain⟨cU,rfl⟩:=Nat.le.dest s
 obtain⟨v,rfl⟩:=Nat.le.dest t
 rw [Nat.add_sub_cancel_left,Nat.add_sub_cancel_left]
 simp only [Nat.mul_add] at q r
 have key:∀ N aP:Nat,D*N≤D*aP+(D - 1)→N≤aP:=by
  intro N aP Z
  refine Nat.le_of_not_lt fun F=>?_
  have:=Nat.mul_le_mul_left D (show aP+1≤N by omega)
  rw [Nat.mul_add] at this;omega
 refine⟨key _ _ ?_,key _ _ ?_,key _ _ ?_⟩ <;> (simp only [Nat.mul_add,Nat.mul_left_comm D];omega)
structure tS(aB bY a4:Nat):Prop where
 le:bY≤a4
 Pn:dG aB≤bY+262144
 F2:bY≤dG aB+262144
 JU:dG aB≤a4+262144
 s0:a4≤dG aB+262144
theorem Ll{aB aF a:Nat}(b:aB≤4400)(c:fB 5 aB aF=0)(d:fB 239 aB a=0)(S:2*aF≤aB+1)(l:2*a≤aB+1):
  4*(dT 239 aB a - dU 239 aB a)≤16*(dT 5 aB aF - dU 5 aB aF)+17400∧
  tS aB (16*(dT 5 aB aF - dU 5 aB aF) - 4*(dT 239 aB a - dU 239 aB a) - (16*(2+3*aF)+4*(2+3*a)))
   (16*(dT 5 aB aF - dU 5 aB aF) - 4*(dT 239 aB a - dU 239 aB a)+(16*(2+3*aF)+4*(2+3*a))):=by
 obtain⟨aX,aZ,e⟩:=Pj b c d
 generalize 16*(dT 5 aB aF - dU 5 aB aF)=f at *
 generalize 4*(dT 239 aB a - dU 239 aB a)=bC at *
 exact⟨aX,⟨by omega,by omega,by omega,by omega,by omega⟩⟩
noncomputable def tT(f:Nat→Bool)(n:Nat):Bool:=Nat.rec true (fun S bU=>f S && bU) n
theorem xU{f:Nat→Bool}{n:Nat}(Z:tT f n=true):∀ S,S < n→f S=true:=by
 induction n with
 | zero=>intro S b;omega
 | succ n bU=>
  intro S b
  have K:(f n && tT f n)=true:=Z
  rw [Bool.and_eq_true] at K
  rcases Nat.lt_or_ge S n with a | a
  ·exact bU K.2 S a
  ·rw [show S=n by omega];exact K.1
theorem Ak(aB g:Nat)(Z:aB+g≤4400):dG (aB+g) / 2 ^ g=dG aB:=by
 unfold dG
 rw [Nat.div_div_eq_div_mul,← Nat.pow_add];congr 2;omega
def Hr(p:Nat):Bool:=Nat.ble 262144 (hI / 2 ^ (4352 - p) % 281474976710656) && Nat.ble (hI / 2 ^ (4352 - p) % 281474976710656) 281474976448511
theorem Pk:tT Hr 4200=true:=by kernel_rfl
theorem Lm{p bY a4:Nat}(a:p < 4200)(m:tS (p+48) bY a4):bY / 281474976710656=dG p∧a4 / 281474976710656=dG p:=by
 have Z:=xU Pk p a
 simp only [Hr,Bool.and_eq_true,Nat.ble_eq] at Z
 have R:hI / 2 ^ (4352 - p)=dG (p+48):=by unfold dG;congr 2;omega
 rw [R] at Z
 have b:=Ak p 48 (by omega)
 rw [show(2:Nat) ^ 48=281474976710656 by decide] at b
 obtain⟨c,d,e,f,g⟩:=m
 omega
def p0(p:Nat):Nat:=q6 / 2 ^ (4400 - p)
def Hs(p:Nat):Bool:=
 Nat.ble (q6 / 2 ^ (4400 - p)*(hI / 2 ^ (4352 - p)+262144)) (2 ^ (2*p+49)) && Nat.blt (2 ^ (2*p+49)) ((q6 / 2 ^ (4400 - p)+1)*(hI / 2 ^ (4352 - p) - 262144))
theorem Pl:tT Hs 1500=true:=by kernel_rfl
theorem uG{aB:Nat}(a:aB≤4400):3*2 ^ aB≤dG aB:=by
 unfold dG
 rw [Nat.le_div_iff_mul_le (Nat.pow_pos (by decide)),Nat.mul_assoc,← Nat.pow_add,show aB+(4400 - aB)=4400 by omega]
 exact Nat.le_of_ble_eq_true (by kernel_rfl)
theorem Lo{p bY a4:Nat}(c:p < 1500)(m:tS (p+48) bY a4):bY ≠ 0∧2 ^ (2*p+49) / bY=p0 p∧2 ^ (2*p+49) / a4=p0 p:=by
 have Z:=xU Pl p c
 simp only [Hs,Bool.and_eq_true,Nat.ble_eq,Nat.blt_eq] at Z
 have R:hI / 2 ^ (4352 - p)=dG (p+48):=by unfold dG;congr 2;omega
 have d:q6 / 2 ^ (4400 - p)=p0 p:=rfl
 rw [R,d] at Z
 have h:=uG (show p+48≤4400 by omega)
 have e:2 ^ 48≤2 ^ (p+48):=Nat.pow_le_pow_right (by decide) (by omega)
 rw [show(2:Nat) ^ 48=281474976710656 by decide] at e
 obtain⟨i,j,k,l,n⟩:=m
 generalize 2 ^ (2*p+49)=T at *
 generalize p0 p=v at *
 generalize 2 ^ (p+48)=Q at *
 generalize dG (p+48)=a2 at *
 have f:0 < bY:=by omega
 have key:∀ bI,a2 - 262144≤bI→bI≤a2+262144→0 < bI→T / bI=v:=by
  intro bI aZ g b
  have a:=Nat.mul_le_mul_left v g
  have L:=Nat.mul_le_mul_left (v+1) aZ
  refine Nat.le_antisymm ?_ ?_
  ·exact Nat.le_of_lt_succ ((Nat.div_lt_iff_lt_mul b).mpr (show T < (v+1)*bI by omega))
  ·exact(Nat.le_div_iff_mul_le b).mpr (by omega)
 exact⟨by omega,key bY (by omega) (by omega) f,key a4 (by omega) (by omega) (by omega)⟩
def b1:Nat:=2135987035920910082395021706169552114602704522356652769947041607822219725780640550022962086936576
def hD(N:Nat):Nat:=cond (Nat.beq N 0) 0 (Nat.sub b1 N)
noncomputable def oC(f a bY a4:Nat)(up:Bool):Option (Nat × Nat):=
 hE (Nat.mod a b1) fun b=>hE (Nat.mod (Nat.mul b bY) b1) fun at_=>hE (cond up (hD b) b) fun b=>hE (cond up (hD at_) at_) fun at_=>hE (Nat.succ (Nat.sub a4 bY)) fun n=>
 match x1 b1 b at_ n f with
 | some (O,v)=>some (Nat.add bY O,v)
 | none=>none
def oD(a bY a4:Nat):Nat:=cond (Nat.ble b1 (Nat.mul bY a)) bY (cond (Nat.ble b1 (Nat.mul a4 a)) (Nat.div (Nat.sub (Nat.add b1 a) 1) a) (Nat.succ a4))
def iC(a m:Nat)(up:Bool):Nat:=Nat.add (Nat.div (Nat.mul m a) b1) (cond up 1 0)
noncomputable def q0(f a bY a4:Nat):Option (Nat × Bool):=
 match oC f a bY a4 true with
 | none=>none
 | some (m,N)=>hE (oD a bY a4) fun aN=>cond (Nat.ble aN a4) (match oC f a aN a4 false with
  | none=>none
  | some (n,aP)=>cond (Nat.ble N aP) (some (m,true)) (some (n,false))) (some (m,true))
def eQ(R:Nat):Nat:=Nat.div q6 (Nat.pow 2 (Nat.sub 4144 R))
noncomputable def Aw(cU v a L:Nat):Bool:=
 hE a fun a=>hE L fun L=>cond (Nat.ble (Nat.succ (Nat.xor a L)) (Nat.land a L)) (cond (Nat.ble (Nat.pow 2 cU) a) (Nat.ble a (Nat.pow 2 v)) false) false
noncomputable def x4(n N S:Nat):Bool:=
 hE (Nat.mul S (Nat.div hI (Nat.pow 2 n))) fun l=>hE (Nat.add l S) fun Z=>
 cond (Nat.ble (Nat.succ Z) N) (Aw 1201 1470 (Nat.sub N l) (Nat.sub N Z)) (cond (Nat.ble (Nat.succ N) l) (Aw 1201 1470 (Nat.sub l N) (Nat.sub Z N)) false)
noncomputable def v7(a:Nat):Bool:=
 match x1 b1 a a 18014398509481983 80 with
 | none=>false
 | some (O,v)=>Nat.ble (Nat.pow 2 150) v
noncomputable def Pm(l N:Nat):Bool:=
 hE (Nat.add (Nat.sub N l) (Nat.sub l N)) fun G=>hE (Nat.sub G (Nat.pow 2 1086)) fun cU=>hE (Nat.add G (Nat.pow 2 1086)) fun v=>
 cond (Nat.ble (Nat.succ (Nat.xor cU v)) (Nat.land cU v)) (cond (Nat.ble (Nat.pow 2 1200) G) (Nat.ble (Nat.succ v) (Nat.pow 2 1402)) false) false
noncomputable def CO(a R L:Nat):Bool:=
 match q0 80 a (Nat.pow 2 L) (Nat.sub (Nat.pow 2 (Nat.succ L)) 1) with
 | none=>false
 | some (m,up)=>hE (iC a m up) fun S=>hE (Nat.mul m (Nat.pow 2 (Nat.add R 1337))) fun N=>cond (x4 3000 N S) (Pm (Nat.mul S (Nat.div hI (Nat.pow 2 3000))) N) false
noncomputable def AL(a R:Nat):Bool:=Nat.beq (Nat.div (Nat.div (Nat.pow 2 (Nat.add (Nat.mul 2 (Nat.add R 320)) 1)) (Nat.div hI (Nat.pow 2 (Nat.sub 4400 (Nat.add R 320))))) (Nat.pow 2 64)) a
noncomputable def wH(R:Nat):Bool:=
 hE (eQ R) fun a=>cond (tT (fun L=>CO a R L) 53) (hE (Nat.mod a b1) fun aH=>cond (v7 aH) (cond (v7 (hD aH)) (AL a R) false) false) false
noncomputable def q7(bY n:Nat):Bool:=tT (fun S=>wH (Nat.add bY S)) n
end Go.Proofs.YtjijdlkpmngolaaGreat.G
