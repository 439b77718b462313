import Derived.Test.YtjijdlkpmngolaaGreatKA
set_option linter.unusedVariables false
namespace Go.Gv
theorem wrap_i64{L:Int}(a1:-9223372036854775808≤L)(d:L < 9223372036854775808):IntKind.i64.wrap L=L:=by
 have b:(2:Int) ^ 64=18446744073709551616:=by decide
 have c:(2:Int) ^ (64 - 1)=9223372036854775808:=by decide
 simp only [IntKind.wrap,IntKind.bits,IntKind.signed,Bool.true_and,b,c]
 by_cases a:L % 18446744073709551616≥9223372036854775808
 ·rw [if_pos (by simpa using a)];omega
 ·rw [if_neg (by simpa using a)];omega
theorem wrap_u64(L:Int):IntKind.u64.wrap L=L % 18446744073709551616:=by
 simp [IntKind.wrap,IntKind.bits,IntKind.signed]
theorem CC{L:Int}(a1:0≤L)(a:L < 18446744073709551616):IntKind.u64.wrap L=L:=by
 rw [wrap_u64];omega
structure bK(Z aB:U):Prop where
 le:Z.size≤aB.size
 pre:e4 Z.size Z aB
theorem bK.refl(Z:U):bK Z Z:=⟨Nat.le_refl _,fun _ _=>rfl⟩
theorem bK.trans{a K c:U}(L:bK a K)(aT:bK K c):bK a c:=
 ⟨Nat.le_trans L.le aT.le,fun O a8=>(aT.pre O (Nat.lt_of_lt_of_le a8 L.le)).trans (L.pre O a8)⟩
theorem uX{Z:U}{aI:Addr}{v:Value}(N:hB Z aI=some v):aI.block < Z.size:=by
 unfold hB at N
 split at N
 ·next a1=>exact(Array.getElem?_eq_some_iff.mp a1).1
 ·cases N
theorem bK.cell{Z aB:U}(R:bK Z aB){aI:Addr}{v:Value}(N:hB Z aI=some v):hB aB aI=some v:=by
 rw [qM (R.pre _ (uX N))];exact N
theorem add_add(p:Addr)(O aD:Nat):(p.add O).add aD=p.add (O+aD):=by
 unfold Addr.add
 by_cases a8:O=0 <;> by_cases a:aD=0 <;> simp [a8,a,Nat.add_assoc]
theorem cB(K O:Nat):(⟨K,0,none⟩:Addr).add O=⟨K,O,none⟩:=by
 unfold Addr.add
 by_cases a8:O=0 <;> simp [a8]
abbrev hR(L:Nat):Value:=.int .u64 (L:Int)
structure cJ(Z:U)(a:S)(c:Nat)(aC:List Nat):Prop where
 len:aC.length≤35184372088828
 cap:aC.length≤c
 words:∀ L ∈ aC,L < 18446744073709551616
 at_:∀ O,O < aC.length→∃ p,a=some p∧hB Z (p.add O)=some (hR (aC.getD O 0))
theorem cJ.aU{Z aB:U}{a:S}{c:Nat}{aC:List Nat}(r:cJ Z a c aC)(R:bK Z aB):cJ aB a c aC:=
 ⟨r.len,r.cap,r.words,fun O a8=>let ⟨p,N,g⟩:=r.at_ O a8;⟨p,N,R.cell g⟩⟩
theorem cJ.nil(Z:U)(a:S)(c:Nat):cJ Z a c []:=⟨by simp,by simp,by simp,fun O a8=>absurd a8 (by simp)⟩
theorem Ay{aC:List Nat}(a:∀ L ∈ aC,L < 18446744073709551616)(O:Nat):aC.getD O 0 < 18446744073709551616:=by
 by_cases a8:O < aC.length
 ·have N:aC.getD O 0=aC[O]:=by simp [List.getD,a8]
  rw [N];exact a _ (List.getElem_mem a8)
 ·have N:aC.getD O 0=0:=by simp [List.getD,Nat.le_of_not_lt a8]
  rw [N];decide
theorem cJ.word{Z:U}{a:S}{c:Nat}{aC:List Nat}(r:cJ Z a c aC)(O:Nat):aC.getD O 0 < 18446744073709551616:=Ay r.words O
theorem cJ.take{Z:U}{a:S}{c:Nat}{aC:List Nat}(r:cJ Z a c aC)(n:Nat):cJ Z a c (aC.take n):=by
 refine⟨?_,?_,fun L b=>r.words L (List.mem_of_mem_take b),fun O a8=>?_⟩
 ·have:=r.len;rw [List.length_take];omega
 ·have:=r.cap;rw [List.length_take];omega
 ·rw [List.length_take] at a8
  obtain⟨p,N,g⟩:=r.at_ O (by omega)
  refine⟨p,N,?_⟩
  have d:(aC.take n).getD O 0=aC.getD O 0:=by
   simp only [List.getD,List.getElem?_take]
   rw [if_pos (by omega)]
  rw [d];exact g
theorem cJ.s7{Z:U}{a:S}{c dI:Nat}{aC:List Nat}(r:cJ Z a c aC)(b:aC.length≤dI):cJ Z a dI aC:=⟨r.len,b,r.words,r.at_⟩
theorem cJ.drop{Z:U}{a:S}{c:Nat}{aC:List Nat}(r:cJ Z a c aC)(n:Nat)(e:n≤aC.length):cJ Z (jT a c n 1) (c - n) (aC.drop n):=by
 have a1:=r.len;have f:=r.cap
 refine⟨?_,?_,fun L b=>r.words L (List.mem_of_mem_drop b),fun O a8=>?_⟩
 ·rw [List.length_drop];omega
 ·rw [List.length_drop];omega
 ·rw [List.length_drop] at a8
  obtain⟨p,N,g⟩:=r.at_ (n+O) (by omega)
  have d:(aC.drop n).getD O 0=aC.getD (n+O) 0:=by simp only [List.getD,List.getElem?_drop]
  refine⟨p.add n,?_,by rw [add_add,d];exact g⟩
  rw [N];unfold jT
  rw [if_neg (by omega)];simp
theorem gJ{Z:U}{a:S}{c l:Nat}{aC:List Nat}(r:cJ Z a c aC){O:Int}{aD:Nat}(a8:O=(aD:Int))(b:l=aC.length)(d:aD < aC.length){aH:Int→Prop}
  (g:aH (aC.getD aD 0:Nat)):c6 a l O 1 fun aI=>fZ Z aI fun v=>a0 .u64 v aH:=by
 subst a8;subst b
 obtain⟨p,N,e⟩:=r.at_ aD d
 subst N
 refine⟨⟨by omega,by omega⟩,?_⟩
 show fZ Z (p.add ((aD:Int).toNat*1)) _
 have f:(aD:Int).toNat*1=aD:=by omega
 rw [f]
 unfold fZ;rw [e];exact g
structure Own(Z:U)(K:Nat)(aC:List Nat):Prop where
 len:aC.length≤35184372088828
 words:∀ L ∈ aC,L < 18446744073709551616
 at_:∃ N,Z[K]?=some (.cells (aC.map hR).toArray N (0,0))
theorem Own.lt{Z:U}{K:Nat}{aC:List Nat}(aQ:Own Z K aC):K < Z.size:=by
 obtain⟨N,g⟩:=aQ.at_;exact(Array.getElem?_eq_some_iff.mp g).1
theorem Own.cell{Z:U}{K:Nat}{aC:List Nat}(aQ:Own Z K aC){O:Nat}(a8:O < aC.length):hB Z ⟨K,O,none⟩=some (hR (aC.getD O 0)):=by
 obtain⟨N,g⟩:=aQ.at_
 unfold hB
 simp only [g,Option.isSome_none,Bool.false_eq_true,if_false]
 simp [List.getD,a8]
theorem Own.frozen{Z:U}{K:Nat}{aC:List Nat}(aQ:Own Z K aC)(O:Nat):mS Z ⟨K,O,none⟩=false:=by
 obtain⟨N,g⟩:=aQ.at_
 unfold mS
 simp [g]
theorem Own.rd{Z:U}{K:Nat}{aC:List Nat}(aQ:Own Z K aC){c:Nat}(a:aC.length≤c):cJ Z (some ⟨K,0,none⟩) c aC:=
 ⟨aQ.len,a,aQ.words,fun O a8=>⟨_,rfl,by rw [cB];exact aQ.cell a8⟩⟩
theorem Ck{Z:U}{aI:Addr}{v:Value}{K:Nat}(a3:K ≠ aI.block):(gO Z aI v)[K]?=Z[K]?:=by
 unfold gO
 rw [Array.getElem?_modify]
 rw [if_neg (fun N=>a3 N.symm)]
theorem Cj{Z:U}{aI:Addr}{v:Value}:(gO Z aI v).size=Z.size:=by unfold gO;simp
theorem Own.set{Z:U}{K:Nat}{aC:List Nat}(aQ:Own Z K aC)(O:Nat){v:Nat}(b5:v < 18446744073709551616):Own (gO Z ⟨K,O,none⟩ (hR v)) K (aC.set O v):=by
 refine⟨by rw [List.length_set];exact aQ.len,fun L a=>?_,?_⟩
 ·rcases List.mem_or_eq_of_mem_set a with a1 | a1
  ·exact aQ.words L a1
  ·subst a1;exact b5
 ·obtain⟨N,g⟩:=aQ.at_
  refine⟨N,?_⟩
  unfold gO
  rw [Array.getElem?_modify]
  simp only [if_true,g,Option.map_some]
  simp [List.map_set]
theorem bK.set{Z aB:U}(R:bK Z aB){K O:Nat}{v:Value}(a3:Z.size≤K):bK Z (gO aB ⟨K,O,none⟩ v):=
 ⟨by rw [Cj];exact R.le,fun aD a=>by rw [Ck (by show aD ≠ K;omega)];exact R.pre aD a⟩
theorem Own.aU{Z aB:U}{K:Nat}{aC:List Nat}(aQ:Own Z K aC)(R:bK Z aB):Own aB K aC:=by
 obtain⟨N,g⟩:=aQ.at_
 exact⟨aQ.len,aQ.words,N,by rw [R.pre K aQ.lt];exact g⟩
theorem mY{Z:U}{K l:Nat}{aC:List Nat}(aQ:Own Z K aC){O:Int}{aD:Nat}(a8:O=(aD:Int))(a:l=aC.length)(b:aD < aC.length){L:Int}{v:Nat}(c:L=(v:Int))(b5:v < 18446744073709551616){aH:U→Prop}
  (g:Own (gO Z ⟨K,aD,none⟩ (hR v)) K (aC.set aD v)→aH (gO Z ⟨K,aD,none⟩ (hR v))):c6 (some ⟨K,0,none⟩) l O 1 fun aI=>cM Z aI (.int .u64 L) aH:=by
 subst a8;subst a;subst c
 refine⟨⟨by omega,by omega⟩,?_⟩
 show cM Z ((⟨K,0,none⟩:Addr).add ((aD:Int).toNat*1)) _ _
 have d:(aD:Int).toNat*1=aD:=by omega
 rw [d,cB]
 exact⟨⟨⟨_,aQ.cell b⟩,aQ.frozen aD⟩,g (aQ.set aD b5)⟩
theorem AH(n:Nat)(bS:Value):iD [bS] n=List.replicate n bS:=by
 induction n with
 | zero=>rfl
 | succ n bZ=>show [bS] ++ iD [bS] n=_;rw [bZ,List.replicate_succ];rfl
theorem oD{Z:U}{N:TypeId}{O:dW}{n m:Int}(R:Nat)(a:O.a9=[hR 0])(a3:O.bytes=8)(b:n=(R:Int))(c:m=(R:Int))(d:R≤35184372088828){aH:Addr→U→Prop}
  (g:∀ aB,Own aB Z.size (List.replicate R 0)→bK Z aB→aH ⟨Z.size,0,none⟩ aB):iS Z N O n m aH:=by
 subst b;subst c
 refine⟨⟨by omega,by omega,by omega,by rw [a3];omega⟩,g _ ⟨by simpa using d,?_,N,?_⟩ ⟨by simp,fun K a3=>?_⟩⟩
 ·intro L e;have:=List.eq_of_mem_replicate e;omega
 ·rw [a,AH];simp
 ·rw [Array.getElem?_push];rw [if_neg (by omega)]
theorem xC{Z:U}{N:TypeId}{dR:List Value}(aC:List Nat)(a:dR=aC.map hR)(b:aC.length≤35184372088828)(c:∀ L ∈ aC,L < 18446744073709551616){aH:Addr→U→Prop}
  (g:∀ aB,Own aB Z.size aC→bK Z aB→aH ⟨Z.size,0,none⟩ aB):dX Z N dR aH:=by
 subst a
 refine g _ ⟨b,c,N,?_⟩ ⟨by simp,fun K a3=>?_⟩
 ·simp
 ·rw [Array.getElem?_push];rw [if_neg (by omega)]
theorem CX{Z:U}{p:Addr}:∀ {b8:List Nat} {O:Nat},(∀ aD,aD < b8.length→hB Z (p.add (O+aD))=some (hR (b8.getD aD 0)))→qD Z p O (b8.map hR)
 | [],_,_=>trivial
 | v :: b8,O,g=>by
  refine⟨by have:=g 0 (by simp);simpa using this,CX fun aD a=>?_⟩
  have:=g (aD+1) (by simpa using a)
  rw [show O+1+aD=O+(aD+1) by omega]
  simpa using this
theorem CY{Z:U}{p:Addr}:∀ {n O:Nat},(∀ aD,aD < n→(∃ v,hB Z (p.add (O+aD))=some v)∧mS Z (p.add (O+aD))=false)→pO Z p O n
 | 0,_,_=>trivial
 | n+1,O,g=>⟨by have:=g 0 (by omega);simpa using this,CY fun aD a=>by rw [show O+1+aD=O+(aD+1) by omega];exact g (aD+1) (by omega)⟩
theorem CZ{K:Nat}:∀ {b8:List Nat} {Z a2:U} {aC:List Nat} {O:Nat},Own Z K aC→(∀ L ∈ b8,L < 18446744073709551616)→O+b8.length≤aC.length→(a2.size≤K)→bK a2 Z→
  Own (jB Z ⟨K,0,none⟩ O (b8.map hR)) K (aC.take O ++ (b8 ++ aC.drop (O+b8.length)))∧bK a2 (jB Z ⟨K,0,none⟩ O (b8.map hR))
 | [],Z,a2,aC,O,aQ,_,_,_,R=>by simpa [jB] using ⟨aQ,R⟩
 | v :: b8,Z,a2,aC,O,aQ,a,b,a3,R=>by
  simp only [List.length_cons] at b
  have N:jB Z ⟨K,0,none⟩ O ((v :: b8).map hR)=jB (gO Z ⟨K,O,none⟩ (hR v)) ⟨K,0,none⟩ (O+1) (b8.map hR):=by
   show jB (gO Z ((⟨K,0,none⟩:Addr).add O) (hR v)) _ _ _=_
   rw [cB]
  rw [N]
  have:=CZ (b8:=b8) (O:=O+1) (aQ.set O (a v (by simp))) (fun L c=>a L (by simp [c])) (by rw [List.length_set];omega) a3 (R.set (v:=hR v) (O:=O) a3)
  refine⟨?_,this.2⟩
  have d:(aC.set O v).take (O+1) ++ (b8 ++ (aC.set O v).drop (O+1+b8.length))=aC.take O ++ (v :: b8 ++ aC.drop (O+(v :: b8).length)):=by
   rw [List.drop_set_of_lt (by omega),List.length_cons,show O+1+b8.length=O+(b8.length+1) by omega]
   rw [List.take_add_one,List.take_set_of_le (Nat.le_refl O)]
   simp [show O < aC.length by omega]
  rw [← d];exact this.1
theorem AL{Z:U}{K l b3 bN:Nat}{aC aX:List Nat}{a:S}{a2:U}(aQ:Own Z K aC)(r:cJ Z a bN aX)(d:l=aC.length)(e:b3=aX.length)(a3:a2.size≤K)(R:bK a2 Z){aH:Int→U→Prop}
  (g:∀ aB,Own aB K (aX.take aC.length ++ aC.drop aX.length)→bK a2 aB→aH ((Nat.min aX.length aC.length:Nat):Int) aB):n5 Z 1 (some ⟨K,0,none⟩) l (.slice a b3 bN) aH:=by
 subst d;subst e
 have b:(aX.take aC.length).length=Nat.min aX.length aC.length:=by
  rw [List.length_take];exact Nat.min_comm _ _
 have j:Nat.min aX.length aC.length≤aC.length:=Nat.min_le_right _ _
 refine⟨aX.length,(aX.take aC.length).map hR,rfl,⟨by rw [List.length_map,b];omega,?_,?_⟩,?_,?_⟩
 ·intro v b5
  obtain⟨L,_,N⟩:=List.mem_map.mp b5
  subst N;rfl
 ·cases a with
  | none=>
   show(aX.take aC.length).map hR=[]
   cases aX with
   | nil=>simp
   | cons aT aX=>obtain⟨p,N,_⟩:=r.at_ 0 (by simp);cases N
  | some p=>
   refine CX fun aD c=>?_
   obtain⟨k,N,f⟩:=(r.take aC.length).at_ aD c
   cases N
   rw [Nat.zero_add];exact f
 ·refine CY fun aD c=>?_
  rw [Nat.zero_add,cB]
  rw [List.length_map,b] at c
  exact⟨⟨_,aQ.cell (by omega)⟩,aQ.frozen aD⟩
 ·have:=CZ (b8:=aX.take aC.length) (O:=0) aQ (fun L h=>r.words L (List.mem_of_mem_take h)) (by rw [b];omega) a3 R
  refine g _ ?_ this.2
  have N:aC.take 0 ++ (aX.take aC.length ++ aC.drop (0+(aX.take aC.length).length))=aX.take aC.length ++ aC.drop aX.length:=by
   rw [List.take_zero,List.nil_append,Nat.zero_add,b]
   congr 1
   by_cases i:aX.length≤aC.length
   ·rw [show Nat.min aX.length aC.length=aX.length from Nat.min_eq_left i]
   ·rw [show Nat.min aX.length aC.length=aC.length from Nat.min_eq_right (by omega),List.drop_of_length_le (Nat.le_refl _),List.drop_of_length_le (by omega)]
  rw [← N];exact this.1
theorem w4{a:S}{l c:Nat}{L:Int}{n:Nat}(b:L=(n:Int))(d:n≤c){aH:S→Nat→Nat→Prop}(g:aH a n c):iR 1 a l c none (some (.int .i64 L)) none aH:=by
 subst b
 show(0≤(n:Int)∧(n:Int)≤(c:Int))∧aH (jT a c 0 1) ((n:Int).toNat - 0) (c - 0)
 refine⟨⟨by omega,by omega⟩,?_⟩
 have N:jT a c 0 1=a:=by
  unfold jT
  split
  ·rfl
  ·cases a <;> simp [Addr.add]
 rw [N];simpa using g
theorem FB{a:S}{l c:Nat}{L:Int}{n:Nat}(b:L=(n:Int))(d:n≤l){aH:S→Nat→Nat→Prop}(g:aH (jT a c n 1) (l - n) (c - n)):iR 1 a l c (some (.int .i64 L)) none none aH:=by
 subst b
 exact⟨⟨by omega,by omega⟩,by simpa using g⟩
theorem cD{P:Program}{f:FuncId}{args:Array Value}{Z:U}{c8 aH:Value→U→Prop}(a:n1 P f args Z c8)(g:∀ v aB,c8 v aB→aH v aB):n1 P f args Z aH:=a.mono g
def val:List Nat→Nat
 | []=>0
 | L :: aC=>L+18446744073709551616*val aC
def aN(n:Nat):List Nat:=if Z:n=0 then [] else n % 18446744073709551616 :: aN (n / 18446744073709551616)
 termination_by n
 decreasing_by omega
def eA:List Nat→List Nat
 | []=>[]
 | L :: aC=>if L=0∧eA aC=[] then [] else L :: eA aC
def Words(aC:List Nat):Prop:=∀ L ∈ aC,L < 18446744073709551616
theorem Words.cons{L:Nat}{aC:List Nat}(Z:Words (L :: aC)):L < 18446744073709551616∧Words aC:=⟨Z L (by simp),fun aT a=>Z aT (by simp [a])⟩
theorem e0:aN 0=[]:=by unfold aN;simp
theorem k2{n:Nat}(Z:n ≠ 0):aN n=n % 18446744073709551616 :: aN (n / 18446744073709551616):=by
 rw [aN];simp [Z]
theorem qP(n:Nat):Words (aN n):=by
 induction n using Nat.strongRecOn with
 | ind n bZ=>
  by_cases Z:n=0
  ·subst Z;rw [e0];intro L a;cases a
  ·rw [k2 Z];intro L a
   rcases List.mem_cons.mp a with N | N
   ·omega
   ·exact bZ _ (by omega) L N
theorem e9(n:Nat):val (aN n)=n:=by
 induction n using Nat.strongRecOn with
 | ind n bZ=>
  by_cases Z:n=0
  ·subst Z;rw [e0];rfl
  ·rw [k2 Z];show n % _+_*val (aN _)=n
   rw [bZ _ (by omega)];omega
theorem qQ{aC:List Nat}:eA aC=[]↔val aC=0:=by
 induction aC with
 | nil=>simp [eA,val]
 | cons L aC bZ=>
  simp only [eA,val]
  split
  ·next Z=>simp only [true_iff];have:=bZ.mp Z.2;omega
  ·next Z=>
   simp only [reduceCtorEq,false_iff]
   intro N
   exact Z ⟨by omega,bZ.mpr (by omega)⟩
theorem mU{aC:List Nat}(a:Words aC):aN (val aC)=eA aC:=by
 induction aC with
 | nil=>simp [val,eA,e0]
 | cons L aC bZ=>
  have b:=a.cons
  simp only [eA,val]
  split
  ·next Z=>rw [Z.1,qQ.mp Z.2];exact e0
  ·next Z=>
   have c:L+18446744073709551616*val aC ≠ 0:=fun N=>Z ⟨by omega,qQ.mpr (by omega)⟩
   rw [k2 c]
   have d:(L+18446744073709551616*val aC) % 18446744073709551616=L:=by omega
   have e:(L+18446744073709551616*val aC) / 18446744073709551616=val aC:=by omega
   rw [d,e,bZ b.2]
theorem sN(aC:List Nat):val (eA aC)=val aC:=by
 induction aC with
 | nil=>rfl
 | cons L aC bZ=>
  simp only [eA]
  split
  ·next Z=>simp only [val];rw [Z.1,qQ.mp Z.2]
  ·simp only [val];rw [bZ]
theorem rH(n:Nat):eA (aN n)=aN n:=by rw [← mU (qP n),e9]
theorem CB(aC:List Nat):eA (eA aC)=eA aC:=by
 induction aC with
 | nil=>rfl
 | cons L aC bZ=>
  simp only [eA]
  split
  ·rfl
  ·next Z=>simp only [eA,bZ];rw [if_neg Z]
theorem w7(aC:List Nat):(eA aC).length≤aC.length:=by
 induction aC with
 | nil=>simp [eA]
 | cons L aC bZ=>
  simp only [eA]
  split
  ·simp
  ·simpa using bZ
theorem w5(aC:List Nat):eA (aC ++ [0])=eA aC:=by
 induction aC with
 | nil=>simp [eA]
 | cons L aC bZ=>simp only [List.cons_append,eA,bZ]
theorem yU(aC:List Nat){L:Nat}(a:L ≠ 0):eA (aC ++ [L])=aC ++ [L]:=by
 induction aC with
 | nil=>simp [eA,a]
 | cons aT aC bZ=>
  simp only [List.cons_append,eA,bZ]
  rw [if_neg (by simp)]
theorem mV{aC:List Nat}{n:Nat}(Z:n < aC.length):aC.take (n+1)=aC.take n ++ [aC.getD n 0]:=by
 rw [List.take_add_one];simp [List.getD,Z]
theorem w6{aC:List Nat}:eA aC=aC↔(aC=[]∨aC.getD (aC.length - 1) 0 ≠ 0):=by
 by_cases Z:aC.length=0
 ·have N:aC=[]:=List.length_eq_zero_iff.mp Z
  subst N;simp [eA]
 ·obtain⟨n,a⟩:∃ n,aC.length=n+1:=⟨aC.length - 1,by omega⟩
  have N:aC=aC.take n ++ [aC.getD n 0]:=by rw [← mV (by omega),← a,List.take_length]
  have c:aC ≠ []:=fun N=>by subst N;simp at a
  rw [a];simp only [Nat.add_sub_cancel]
  constructor
  ·intro b
   refine Or.inr fun a2=>?_
   rw [a2] at N
   rw [N,w5] at b
   have:=w7 (aC.take n)
   rw [b] at this;simp at this;omega
  ·rintro(a1 | a1)
   ·exact absurd a1 c
   ·rw [N];exact yU _ a1
def fW(n:Nat):List Nat × Int:=if (aN n).length≤8192 then(aN n,0) else([],5)
def jM(aC:List Nat):Prop:=aC.length≤8192∧eA aC=aC
instance (aC:List Nat):Decidable (jM aC):=by unfold jM;infer_instance
theorem jM.aN{aC:List Nat}(Z:jM aC)(a:Words aC):Gv.aN (val aC)=aC:=by rw [mU a,Z.2]
theorem jM.fW{aC:List Nat}(Z:jM aC)(a:Words aC):Gv.fW (val aC)=(aC,0):=by
 unfold Gv.fW;rw [Z.aN a,if_pos Z.1]
theorem o1{n m:Nat}(Z:n≤m):(aN n).length≤(aN m).length:=by
 induction m using Nat.strongRecOn generalizing n with
 | ind m bZ=>
  by_cases a:n=0
  ·subst a;rw [e0];simp
  ·rw [k2 a,k2 (n:=m) (by omega)]
   simp only [List.length_cons]
   exact Nat.succ_le_succ (bZ (m / 18446744073709551616) (by omega) (Nat.div_le_div_right Z))
theorem qV{aG:List Nat}{aD t:Nat}(Z:aD < aG.length):(aG.set aD t).take (aD+1)=aG.take aD ++ [t]:=by
 rw [List.take_add_one,List.take_set_of_le (Nat.le_refl aD)];simp [Z]
theorem jD{aC:List Nat}{aD:Nat}(Z:aD < aC.length):aC.drop aD=aC.getD aD 0 :: aC.drop (aD+1):=by
 rw [List.drop_eq_getElem_cons Z];simp [List.getD,Z]
theorem AW(aC:List Nat)(aD:Nat):(aC.drop aD).headD 0=aC.getD aD 0:=by
 simp [List.getD,List.headD_eq_head?_getD,List.head?_drop]
def rN:List Nat→List Nat→Nat→List Nat
 | [],_,c=>[c]
 | L :: aC,aX,c=>(L+aX.headD 0+c) % 18446744073709551616 :: rN aC aX.tail ((L+aX.headD 0+c) / 18446744073709551616)
theorem AA(aX:List Nat):val aX=aX.headD 0+18446744073709551616*val aX.tail:=by cases aX <;> simp [val]
theorem FO:∀ (aC aX:List Nat) (c:Nat),aX.length≤aC.length→val (rN aC aX c)=val aC+val aX+c
 | [],aX,c,Z=>by
  have N:aX=[]:=List.length_eq_zero_iff.mp (by simpa using Z)
  subst N;simp [rN,val]
 | L :: aC,aX,c,Z=>by
  simp only [rN,val]
  rw [FO aC aX.tail _ (by simp at Z ⊢;omega)]
  have:=AA aX
  omega
def pV:List Nat→List Nat→Nat→List Nat
 | [],_,_=>[]
 | L :: aC,aX,c=>(L+18446744073709551616 - aX.headD 0 - c) % 18446744073709551616 :: pV aC aX.tail (if L < aX.headD 0+c then 1 else 0)
theorem CN:∀ (aC aX:List Nat) (c:Nat),Words aC→Words aX→aX.length≤aC.length→c≤1→val aX+c≤val aC→val (pV aC aX c)+(val aX+c)=val aC
 | [],aX,c,_,_,Z,_,b5=>by
  have N:aX=[]:=List.length_eq_zero_iff.mp (by simpa using Z)
  subst N;simp [pV,val] at b5 ⊢;omega
 | L :: aC,aX,c,a,b,Z,f,b5=>by
  have a3:aX.headD 0 < 18446744073709551616:=by cases aX with
   | nil=>decide
   | cons aT aX=>exact b.cons.1
  have d:Words aX.tail:=by cases aX with
   | nil=>exact b
   | cons aT aX=>exact b.cons.2
  have g:=a.cons.1
  have:=AA aX
  simp only [pV,val] at b5 ⊢
  have e:aX.tail.length≤aC.length:=by simp at Z ⊢;omega
  by_cases dC:L < aX.headD 0+c
  ·rw [if_pos dC]
   have:=CN aC aX.tail 1 a.cons.2 d e (by omega) (by omega)
   omega
  ·rw [if_neg dC]
   have:=CN aC aX.tail 0 a.cons.2 d e (by omega) (by omega)
   omega
theorem uZ:∀ {aC aX:List Nat} {aD:Nat},Words aC→Words aX→aC.length=aX.length→aD < aC.length→aC.drop (aD+1)=aX.drop (aD+1)→aC.getD aD 0 < aX.getD aD 0→val aC < val aX
 | [],_,_,_,_,_,a,_,_=>absurd a (by simp)
 | L :: aC,[],_,_,_,b,_,_,_=>absurd b (by simp)
 | L :: aC,aT :: aX,0,c,d,b,a,aW,Z=>by
  have N:aC=aX:=by simpa using aW
  subst N
  simp only [List.getD_cons_zero] at Z
  simp only [val];omega
 | L :: aC,aT :: aX,aD+1,c,d,b,a,aW,Z=>by
  have:=uZ (aC:=aC) (aX:=aX) (aD:=aD) c.cons.2 d.cons.2 (by simpa using b) (by simpa using a) (by simpa using aW) (by simpa using Z)
  have a1:=c.cons.1
  have e:=d.cons.1
  simp only [val];omega
theorem AB{aT:Nat}{aX:List Nat}(Z:eA (aT :: aX)=aT :: aX):eA aX=aX:=by
 simp only [eA] at Z
 split at Z
 ·cases Z
 ·exact List.tail_eq_of_cons_eq Z
theorem sO:∀ {aC aX:List Nat},Words aC→eA aX=aX→aC.length < aX.length→val aC < val aX
 | _,[],_,_,Z=>absurd Z (by simp)
 | [],aT :: aX,_,a,_=>by
  have:val (aT :: aX) ≠ 0:=fun N=>by rw [qQ.mpr N] at a;cases a
  simp only [val] at this ⊢;omega
 | L :: aC,aT :: aX,b,a,Z=>by
  have:=sO (aC:=aC) (aX:=aX) b.cons.2 (AB a) (by simpa using Z)
  have a1:=b.cons.1
  simp only [val];omega
def fU(m n:Nat):Int:=if m < n then -1 else if m=n then 0 else 1
theorem h5(aC aX:List Nat):val (aC ++ aX)=val aC+2 ^ (64*aC.length)*val aX:=by
 induction aC with
 | nil=>simp [val]
 | cons L aC bZ=>
  simp only [List.cons_append,val,bZ,List.length_cons]
  have N:2 ^ (64*(aC.length+1))=18446744073709551616*2 ^ (64*aC.length):=by
   rw [show 64*(aC.length+1)=64+64*aC.length by omega,Nat.pow_add]
  rw [N,Nat.mul_add,Nat.mul_assoc];omega
theorem iK{aC:List Nat}(a:Words aC):val aC < 2 ^ (64*aC.length):=by
 induction aC with
 | nil=>simp [val]
 | cons L aC bZ=>
  have N:2 ^ (64*(aC.length+1))=18446744073709551616*2 ^ (64*aC.length):=by
   rw [show 64*(aC.length+1)=64+64*aC.length by omega,Nat.pow_add]
  rw [List.length_cons,N];simp only [val]
  have a1:=a.cons.1
  have b:=bZ a.cons.2
  omega
def eJ(n:Nat):Nat:=if n=0 then 0 else Nat.log2 n+1
theorem iL{n R:Nat}:eJ n≤R↔n < 2 ^ R:=by
 unfold eJ
 by_cases Z:n=0
 ·subst Z;simp [Nat.pow_pos]
 ·rw [if_neg Z];exact Nat.log2_lt Z
theorem Qc{n m:Nat}(Z:∀ R,eJ n≤R↔m≤R):eJ n=m:=Nat.le_antisymm ((Z m).mpr (Nat.le_refl _)) ((Z _).mp (Nat.le_refl _))
theorem u0(n aG:Nat):eJ (n / 2 ^ aG)=eJ n - aG:=by
 refine Qc fun R=>?_
 rw [iL,Nat.div_lt_iff_lt_mul (Nat.pow_pos (by decide)),← Nat.pow_add,← iL];omega
theorem Fw:eJ 0=0:=rfl
theorem rI{n:Nat}(Z:n ≠ 0):0 < eJ n:=by unfold eJ;rw [if_neg Z];omega
theorem yN{aC:List Nat}(a:Words aC){n:Nat}(b:aC.length=n+1)(a2:aC.getD n 0 ≠ 0):eJ (val aC)=64*n+eJ (aC.getD n 0):=by
 have N:aC=aC.take n ++ [aC.getD n 0]:=by rw [← mV (by omega),← b,List.take_length]
 have b5:val aC=val (aC.take n)+2 ^ (64*n)*aC.getD n 0:=by
  conv=>lhs;rw [N]
  rw [h5];simp [val,show min n aC.length=n by omega]
 have dC:val (aC.take n) < 2 ^ (64*n):=by
  have:=iK (aC:=aC.take n) (fun L c=>a L (List.mem_of_mem_take c))
  rwa [List.length_take,show min n aC.length=n by omega] at this
 have aW:val aC / 2 ^ (64*n)=aC.getD n 0:=by
  rw [b5,Nat.add_mul_div_left _ _ (Nat.pow_pos (by decide)),Nat.div_eq_of_lt dC,Nat.zero_add]
 have:=u0 (val aC) (64*n)
 rw [aW] at this
 have:=rI a2
 omega
theorem gZ{n R:Nat}:(aN n).length≤R↔n < 2 ^ (64*R):=by
 constructor
 ·intro Z
  have:=iK (qP n)
  rw [e9] at this
  exact Nat.lt_of_lt_of_le this (Nat.pow_le_pow_right (by decide) (by omega))
 ·intro Z
  induction R generalizing n with
  | zero=>
   have:n=0:=by simpa using Z
   subst this;rw [e0];simp
  | succ R bZ=>
   by_cases a2:n=0
   ·subst a2;rw [e0];simp
   ·rw [k2 a2,List.length_cons]
    have N:2 ^ (64*(R+1))=2 ^ (64*R)*18446744073709551616:=by
     rw [show 64*(R+1)=64*R+64 by omega,Nat.pow_add]
    rw [N] at Z
    have:=bZ (n:=n / 18446744073709551616) (Nat.div_lt_of_lt_mul (by rw [Nat.mul_comm];exact Z))
    omega
theorem AD{a7 bQ R:Nat}(a:(aN a7).length≤R)(b:(aN bQ).length≤R):(aN (a7+bQ)).length≤R+1:=by
 refine gZ.mpr ?_
 have a1:=gZ.mp a
 have c:=gZ.mp b
 have N:2 ^ (64*(R+1))=2 ^ (64*R)*18446744073709551616:=by
  rw [show 64*(R+1)=64*R+64 by omega,Nat.pow_add]
 rw [N];generalize 2 ^ (64*R)=p at *;omega
theorem AV{v:Nat}(n:Nat)(Z:v ≠ 0):eJ (v*2 ^ n)=eJ v+n:=by
 have a1:=u0 (v*2 ^ n) n
 rw [Nat.mul_div_cancel _ (Nat.pow_pos (by decide))] at a1
 have a:=rI Z
 omega
theorem AE{v:Nat}(R:Nat):eJ v≤64*R↔(aN v).length≤R:=by
 rw [gZ,iL]
theorem FU{v:Nat}:eJ v≤524288↔(aN v).length≤8192:=AE 8192
theorem Ku{v:Nat}(Z:¬ eJ v≤524288):fW v=([],5):=by
 unfold fW;rw [if_neg (fun a=>Z (FU.mpr a))]
theorem lW{aC:List Nat}(a:Words aC)(m:Nat):val (aC.drop m)=val aC / 2 ^ (64*m):=by
 by_cases b:m≤aC.length
 ·have N:val aC=val (aC.take m)+2 ^ (64*m)*val (aC.drop m):=by
   conv=>lhs;rw [← List.take_append_drop m aC]
   rw [h5,List.length_take,Nat.min_eq_left b]
  have dC:=iK (aC:=aC.take m) (fun L c=>a L (List.mem_of_mem_take c))
  rw [List.length_take,Nat.min_eq_left b] at dC
  rw [N,Nat.add_mul_div_left _ _ (Nat.pow_pos (by decide)),Nat.div_eq_of_lt dC,Nat.zero_add]
 ·rw [List.drop_of_length_le (by omega)]
  have:=iK a
  have d:2 ^ (64*aC.length)≤2 ^ (64*m):=Nat.pow_le_pow_right (by decide) (by omega)
  rw [Nat.div_eq_of_lt (by omega)];rfl
theorem nF{R:Nat}(a:R < 64):2 ^ R*2 ^ (64 - R)=18446744073709551616:=by
 rw [← Nat.pow_add,show R+(64 - R)=64 by omega]
theorem CO{R:Nat}(b:R < 64):2 ^ R < 18446744073709551616:=by
 have:=Nat.pow_lt_pow_right (a:=2) (by decide) b
 exact Nat.lt_of_lt_of_le this (by decide)
theorem Cn{aC:List Nat}(a:Words aC){m R:Nat}(b:m < aC.length)(c:R < 64):val (aC.take m ++ [aC.getD m 0 % 2 ^ R])=val aC % 2 ^ (64*m+R):=by
 have N:val aC=val (aC.take m)+2 ^ (64*m)*val (aC.drop m):=by
  conv=>lhs;rw [← List.take_append_drop m aC]
  rw [h5,List.length_take,Nat.min_eq_left (by omega)]
 have dC:=iK (aC:=aC.take m) (fun L d=>a L (List.mem_of_mem_take d))
 rw [List.length_take,Nat.min_eq_left (by omega)] at dC
 rw [h5,List.length_take,Nat.min_eq_left (by omega),Nat.pow_add,Nat.mod_mul,N,Nat.add_mul_mod_self_left,Nat.mod_eq_of_lt dC,Nat.add_mul_div_left _ _ (Nat.pow_pos (by decide)),Nat.div_eq_of_lt dC,Nat.zero_add,jD b]
 simp only [val,Nat.mul_zero,Nat.add_zero]
 congr 2
 rw [← nF c,Nat.mul_assoc,Nat.add_mul_mod_self_left]
end Go.Gv
namespace Go.Proofs.YtjijdlkpmngolaaGreat.G
open Go.Gv
set_option linter.unusedVariables false
noncomputable def pN{dF:Type}(n:Nat)(f:Nat→dF):dF:=Nat.rec (f 0) (fun R _=>f (R+1)) n
theorem Dm{dF:Type}(n:Nat)(f:Nat→dF):pN n f=f n:=by cases n <;> rfl
def nU(a K:Nat):Nat:=bif Nat.ble a K then a else K
theorem oP(a K:Nat):nU a K=min a K:=by
 unfold nU
 cases Z:Nat.ble a K with
 | true=>have:=Nat.le_of_ble_eq_true Z;simp only [cond_true];omega
 | false=>
  have:¬ a≤K:=fun b=>by rw [Nat.ble_eq_true_of_le b] at Z;cases Z
  simp only [cond_false];omega
def hL(a K n:Nat):Nat:=nU (a / K) n
def mK(a t K n:Nat):Nat:=nU (a+t*K) (n+1)
noncomputable def tG(n:Nat)(bZ:Nat→Nat→Nat→Nat→Nat→Nat→Option (Nat × Nat))(L O aZ cN r dE:Nat):Option (Nat × Nat):=
 pN (nU (hL L aZ n) ((n - 1 - O) / cN)) fun t=>pN (L - aZ*t) fun L=>pN (O+t*cN) fun O=>
 bif Nat.blt (n - 1) (O+cN) || (Nat.beq L 0 || Nat.ble aZ L) then some (O,L) else
 pN (hL r aZ n) fun t=>pN (r - aZ*t) fun r=>pN (bif Nat.beq t 0 then dE else mK dE t cN n) fun dE=>
 bif Nat.beq r 0 || Nat.blt n dE then some (O,L) else
 pN (hL (aZ - L) r n) fun t=>pN (bif Nat.blt (r*t) (aZ - L) then t+1 else t) fun t=>pN (nU t (hL aZ r n)) fun t=>
 bif Nat.beq t 0 then some (O,L) else
 pN (aZ - r*t) fun aZ=>pN (mK cN t dE n) fun cN=>
 bif Nat.beq aZ 0 || Nat.blt n cN then some (O,L) else bZ L O aZ cN r dE
noncomputable def Bk(n:Nat)(f:Nat):Nat→Nat→Nat→Nat→Nat→Nat→Option (Nat × Nat):=
 Nat.rec (fun _ _ _ _ _ _=>none) (fun _ bZ=>tG n bZ) f
structure kF(cI a cN dE aZ r:Nat):Prop where
 g9:0 < cN
 iX:0 < dE
 uM:aZ≤cI
 Ih:r < cI
 rd:(dE*a) % cI=r
 nC:(cN*a+aZ) % cI=0
 fD:∀ aD,0 < aD→aD < cN+dE→r≤(aD*a) % cI
 eV:∀ aD,0 < aD→aD < cN+dE→aZ+(aD*a) % cI≤cI
theorem z7{cI aT aZ aE L:Nat}(a:0 < cI)(c:aT % cI=L)(aW:(aE+aZ) % cI=0)(Z:aZ≤L):(aT+aE) % cI=L - aZ:=by
 have a1:=Nat.div_add_mod aT cI
 have b:=Nat.div_add_mod (aE+aZ) cI
 have d:=Nat.mod_lt aT a
 rw [aW] at b
 have N:aT+aE=L - aZ+cI*(aT / cI+(aE+aZ) / cI):=by rw [Nat.mul_add];omega
 rw [N,Nat.add_mul_mod_self_left,Nat.mod_eq_of_lt (by omega)]
theorem BO{cI aT aE L r:Nat}(a:aT % cI=L)(b:aE % cI=r)(Z:L+r < cI):(aT+aE) % cI=L+r:=by
 rw [Nat.add_mod,a,b,Nat.mod_eq_of_lt Z]
theorem kF.up{cI a cN dE aZ r:Nat}(t:kF cI a cN dE aZ r)(b:0 < cI)(Z:aZ≤r):kF cI a cN (dE+cN) aZ (r - aZ):=by
 have d:=t.Ih
 refine⟨t.g9,by have:=t.iX;omega,t.uM,by omega,?_,t.nC,fun aD a2 a1=>?_,fun aD a2 a1=>?_⟩
 ·rw [Nat.add_mul];exact z7 b t.rd t.nC Z
 ·by_cases c:aD < cN+dE
  ·have:=t.fD aD a2 c;omega
  ·obtain⟨R,rfl⟩:∃ R,aD=R+cN:=⟨aD - cN,by omega⟩
   have:=t.fD R (by have:=t.iX;omega) (by omega)
   rw [Nat.add_mul,z7 b rfl t.nC (by omega)];omega
 ·by_cases c:aD < cN+dE
  ·exact t.eV aD a2 c
  ·obtain⟨R,rfl⟩:∃ R,aD=R+cN:=⟨aD - cN,by omega⟩
   have:=t.fD R (by have:=t.iX;omega) (by omega)
   have:=Nat.mod_lt (R*a) b
   rw [Nat.add_mul,z7 b rfl t.nC (by omega)];omega
theorem kF.Ii{cI a cN aZ:Nat}(b:0 < cI):∀ (R:Nat) {dE r:Nat},kF cI a cN dE aZ r→aZ*R≤r→kF cI a cN (dE+R*cN) aZ (r - aZ*R)
 | 0,dE,r,t,_=>by simpa using t
 | R+1,dE,r,t,Z=>by
  rw [Nat.mul_add,Nat.mul_one] at Z
  have:=kF.Ii b R (t.up b (by omega)) (by omega)
  rw [show dE+(R+1)*cN=dE+cN+R*cN by rw [Nat.add_mul];omega,show r - aZ*(R+1)=r - aZ - aZ*R by rw [Nat.mul_add];omega]
  exact this
theorem kF.DM{cI a cN dE aZ r:Nat}(t:kF cI a cN dE aZ r)(e:0 < cI)(Z:r < aZ):kF cI a (cN+dE) dE (aZ - r) r:=by
 have aW:=t.uM
 have c:((cN+dE)*a+(aZ - r)) % cI=0:=by
  have a1:=Nat.div_add_mod (cN*a+aZ) cI
  have d:=Nat.div_add_mod (dE*a) cI
  rw [t.nC] at a1;rw [t.rd] at d
  have N:(cN+dE)*a+(aZ - r)=cI*((cN*a+aZ) / cI+dE*a / cI):=by rw [Nat.mul_add,Nat.add_mul];omega
  rw [N,Nat.mul_mod_right]
 refine⟨by have:=t.g9;omega,t.iX,by omega,t.Ih,t.rd,c,fun aD a2 a1=>?_,fun aD a2 a1=>?_⟩
 ·by_cases b:aD < cN+dE
  ·exact t.fD aD a2 b
  ·obtain⟨R,rfl⟩:∃ R,aD=R+dE:=⟨aD - dE,by omega⟩
   have:=t.eV R (by have:=t.g9;omega) (by omega)
   rw [Nat.add_mul,BO rfl t.rd (by omega)];omega
 ·by_cases b:aD < cN+dE
  ·have:=t.eV aD a2 b;omega
  ·obtain⟨R,rfl⟩:∃ R,aD=R+dE:=⟨aD - dE,by omega⟩
   have:=t.eV R (by have:=t.g9;omega) (by omega)
   rw [Nat.add_mul,BO rfl t.rd (by omega)];omega
theorem kF.DX{cI a dE r:Nat}(b:0 < cI):∀ (R:Nat) {cN aZ:Nat},kF cI a cN dE aZ r→r*R < aZ→kF cI a (cN+R*dE) dE (aZ - r*R) r
 | 0,cN,aZ,t,_=>by simpa using t
 | R+1,cN,aZ,t,Z=>by
  rw [Nat.mul_add,Nat.mul_one] at Z
  have:=kF.DX b R (t.DM b (by omega)) (by omega)
  rw [show cN+(R+1)*dE=cN+dE+R*dE by rw [Nat.add_mul];omega,show aZ - r*(R+1)=aZ - r - r*R by rw [Nat.mul_add];omega]
  exact this
structure oU(cI a aY n O L cN:Nat):Prop where
 wE:(aY+O*a) % cI=L
 a8:O < n
 pre:∀ aD,aD≤O→L≤(aY+aD*a) % cI
 c:∀ aD,0 < aD→aD < cN→L+(aD*a) % cI < cI
def z8(cI a aY n O L:Nat):Prop:=O < n∧(aY+O*a) % cI=L∧∀ aD,aD < n→L≤(aY+aD*a) % cI
theorem oU.fin{cI a aY n O L cN:Nat}(aG:oU cI a aY n O L cN)(Z:∀ aD,0 < aD→O+aD < n→L+(aD*a) % cI < cI):z8 cI a aY n O L:=by
 refine⟨aG.a8,aG.wE,fun aD b=>?_⟩
 by_cases c:aD≤O
 ·exact aG.pre aD c
 ·obtain⟨R,rfl⟩:∃ R,aD=O+R:=⟨aD - O,by omega⟩
  rw [Nat.add_mul,← Nat.add_assoc,BO aG.wE rfl (Z R (by omega) b)];omega
theorem oU.Qd{cI a aY n O L cN aZ:Nat}(aG:oU cI a aY n O L cN)(b:0 < cI)(g9:0 < cN)(nC:(cN*a+aZ) % cI=0)(Z:aZ≤L)(a8:O+cN < n):oU cI a aY n (O+cN) (L - aZ) cN:=by
 refine⟨?_,a8,fun aD f=>?_,fun aD a2 a1=>by have:=aG.c aD a2 a1;omega⟩
 ·rw [Nat.add_mul,← Nat.add_assoc];exact z7 b aG.wE nC Z
 ·by_cases d:aD≤O
  ·have:=aG.pre aD d;omega
  ·obtain⟨R,rfl⟩:∃ R,aD=O+R:=⟨aD - O,by omega⟩
   by_cases e:R=cN
   ·subst e;rw [Nat.add_mul,← Nat.add_assoc,z7 b aG.wE nC Z];omega
   ·rw [Nat.add_mul,← Nat.add_assoc,BO aG.wE rfl (aG.c R (by omega) (by omega))];omega
theorem oU.Ij{cI a aY n cN aZ:Nat}(b:0 < cI)(g9:0 < cN)(nC:(cN*a+aZ) % cI=0):∀ (R:Nat) {O L:Nat},oU cI a aY n O L cN→aZ*R≤L→O+R*cN < n→oU cI a aY n (O+R*cN) (L - aZ*R) cN
 | 0,O,L,aG,_,_=>by simpa using aG
 | R+1,O,L,aG,Z,a8=>by
  rw [Nat.mul_add,Nat.mul_one] at Z
  rw [Nat.add_mul,Nat.one_mul] at a8
  have:=oU.Ij b g9 nC R (aG.Qd b g9 nC (by omega) (by omega)) (by omega) (by omega)
  rw [show O+(R+1)*cN=O+cN+R*cN by rw [Nat.add_mul];omega,show L - aZ*(R+1)=L - aZ - aZ*R by rw [Nat.mul_add];omega]
  exact this
theorem period{cI a p L:Nat}(e:L < cI)(a2:(p*a) % cI=0)(b:0 < p)(Z:∀ aD,0 < aD→aD < p→L+(aD*a) % cI < cI):∀ aD,L+(aD*a) % cI < cI:=by
 intro aD
 have N:=Nat.div_add_mod aD p
 have c:(aD*a) % cI=(aD % p*a) % cI:=by
  have:aD*a=aD % p*a+cI*(p*a / cI*(aD / p)):=by
   have a1:=Nat.div_add_mod (p*a) cI
   rw [a2,Nat.add_zero] at a1
   rw [← Nat.mul_assoc,a1]
   calc aD*a=(p*(aD / p)+aD % p)*a:=by rw [N]
    _=aD % p*a+p*a*(aD / p):=by rw [Nat.add_mul,Nat.mul_right_comm];omega
  rw [this,Nat.add_mul_mod_self_left]
 rw [c]
 by_cases d:aD % p=0
 ·rw [d,Nat.zero_mul,Nat.zero_mod];omega
 ·exact Z _ (by omega) (Nat.mod_lt _ b)
theorem Qe{cI a aY n:Nat}(g:0 < cI){bZ:Nat→Nat→Nat→Nat→Nat→Nat→Option (Nat × Nat)}
  (w:∀ L O aZ cN r dE,oU cI a aY n O L cN→kF cI a cN dE aZ r→0 < aZ→∀ p,bZ L O aZ cN r dE=some p→z8 cI a aY n p.1 p.2)
  {L O aZ cN r dE:Nat} (aG:oU cI a aY n O L cN) (i:kF cI a cN dE aZ r) (d0:0 < aZ) {p:Nat × Nat} (Z:tG n bZ L O aZ cN r dE=some p):z8 cI a aY n p.1 p.2:=by
 unfold tG at Z
 simp only [Dm,oP,hL,mK] at Z
 have a8:=aG.a8
 have g9:=i.g9
 have iX:=i.iX
 generalize J:min (min (L / aZ) n) ((n - 1 - O) / cN)=t at Z
 have t1:aZ*t≤L:=Nat.le_trans (Nat.mul_le_mul_left aZ (show t≤L / aZ by omega)) (Nat.mul_div_le L aZ)
 have t2:t*cN≤n - 1 - O:=(Nat.le_div_iff_mul_le g9).mp (by omega)
 have e:=oU.Ij g g9 i.nC t aG t1 (by omega)
 have P:L - aZ*t < aZ∨n - 1 < O+t*cN+cN:=by
  by_cases c:t=L / aZ
  ·left
   have:=Nat.div_add_mod L aZ
   have:=Nat.mod_lt L d0
   rw [c];omega
  ·right
   have bN:t=(n - 1 - O) / cN:=by
    have:(n - 1 - O) / cN≤n - 1 - O:=Nat.div_le_self _ _
    omega
   have:=Nat.lt_mul_div_succ (n - 1 - O) g9
   rw [← bN,Nat.mul_add,Nat.mul_comm cN t] at this;omega
 have o:L - aZ*t < cI:=by have:=Nat.mod_lt (aY+O*a) g;rw [aG.wE] at this;omega
 generalize L - aZ*t=aT at *
 generalize O+t*cN=R at *
 cases aK:(Nat.blt (n - 1) (R+cN) || (Nat.beq aT 0 || Nat.ble aZ aT)) with
 | true=>
  rw [aK,cond_true] at Z
  obtain rfl:=Option.some.inj Z
  simp only [Bool.or_eq_true,Nat.blt_eq,Nat.beq_eq,Nat.ble_eq] at aK
  refine e.fin fun aD d j=>?_
  by_cases Q:aT=0
  ·have:=Nat.mod_lt (aD*a) g;omega
  ·exact e.c aD d (by omega)
 | false=>
  rw [aK,cond_false] at Z
  replace aK:=ne_true_of_eq_false aK
  simp only [Bool.or_eq_true,Nat.blt_eq,Nat.beq_eq,Nat.ble_eq,not_or] at aK
  obtain⟨T,V,Qx⟩:=aK
  generalize hu:min (r / aZ) n=cY at Z
  have eL:aZ*cY≤r:=Nat.le_trans (Nat.mul_le_mul_left aZ (show cY≤r / aZ by omega)) (Nat.mul_div_le r aZ)
  have f:=kF.Ii g cY i eL
  have k:(bif Nat.beq cY 0 then dE else min (dE+cY*cN) (n+1))=min (dE+cY*cN) (n+1)∨cY=0∧(bif Nat.beq cY 0 then dE else min (dE+cY*cN) (n+1))=dE:=by
   cases N:Nat.beq cY 0 with
   | true=>exact Or.inr ⟨by simpa using N,rfl⟩
   | false=>exact Or.inl rfl
  generalize (bif Nat.beq cY 0 then dE else min (dE+cY*cN) (n+1))=b at *
  have x:cY < n→r - aZ*cY < aZ:=by
   intro y
   have:=Nat.div_add_mod r aZ
   have:=Nat.mod_lt r d0
   rw [show cY=r / aZ by omega];omega
  have z:¬ cY < n→n < b:=by
   intro y
   have:cY*1≤cY*cN:=Nat.mul_le_mul_left cY g9
   rcases k with N | ⟨l,q⟩
   ·omega
   ·omega
  have A:n < b→n < dE+cY*cN:=by
   intro s
   rcases k with N | ⟨l,q⟩
   ·omega
   ·have:=Nat.zero_le (cY*cN);omega
  have B:¬ n < b→b=dE+cY*cN:=by
   intro s
   rcases k with N | ⟨l,q⟩
   ·omega
   ·subst l;rw [Nat.zero_mul];omega
  generalize r - aZ*cY=aI at *
  cases bN:(Nat.beq aI 0 || Nat.blt n b) with
  | true=>
   rw [bN,cond_true] at Z
   obtain rfl:=Option.some.inj Z
   simp only [Bool.or_eq_true,Nat.blt_eq,Nat.beq_eq] at bN
   refine e.fin fun aD d j=>?_
   rcases bN with N | N
   ·subst N
    refine period o f.rd f.iX (fun aD d j=>?_) aD
    have:=f.eV aD d (by omega);omega
   ·have:=f.eV aD d (by have:=A N;omega);omega
  | false=>
   rw [bN,cond_false] at Z
   replace bN:=ne_true_of_eq_false bN
   simp only [Bool.or_eq_true,Nat.blt_eq,Nat.beq_eq,not_or] at bN
   obtain⟨Qy,u⟩:=bN
   obtain rfl:=B u
   have Qz:=x (by refine Nat.lt_of_not_le fun s=>?_;exact u (z (by omega)))
   generalize dE+cY*cN=b at *
   generalize b5:min ((aZ - aT) / aI) n=v at Z
   have QA:aI*v≤aZ - aT:=Nat.le_trans (Nat.mul_le_mul_left aI (show v≤(aZ - aT) / aI by omega)) (Nat.mul_div_le (aZ - aT) aI)
   generalize h:(bif Nat.blt (aI*v) (aZ - aT) then v+1 else v)=aE at Z
   have C:aE ≠ 0→aI*(aE - 1) < aZ - aT:=by
    intro lJ
    cases N:Nat.blt (aI*v) (aZ - aT) with
    | true=>rw [N,cond_true] at h;rw [Nat.blt_eq] at N;rw [← h,Nat.add_sub_cancel];exact N
    | false=>
     rw [N,cond_false] at h
     subst h
     have:aI*v=aI*(v - 1)+aI:=by
      conv=>lhs;rw [show v=v - 1+1 by omega]
      rw [Nat.mul_add,Nat.mul_one]
     omega
   generalize QB:min aE (min (aZ / aI) n)=bS at Z
   have QC:aI*bS≤aZ:=Nat.le_trans (Nat.mul_le_mul_left aI (show bS≤aZ / aI by omega)) (Nat.mul_div_le aZ aI)
   cases cZ:Nat.beq bS 0 with
   | true=>
    exfalso
    rw [Nat.beq_eq] at cZ
    have:0 < aZ / aI:=Nat.div_pos (by omega) (by omega)
    have lJ:aE=0:=by omega
    cases N:Nat.blt (aI*v) (aZ - aT) with
    | true=>rw [N,cond_true] at h;omega
    | false=>
     rw [N,cond_false] at h
     have D:¬ aI*v < aZ - aT:=by rw [← Nat.blt_eq,N];decide
     rw [show v=0 by omega,Nat.mul_zero] at D;omega
   | false=>
    rw [cZ,cond_false] at Z
    have QD:bS ≠ 0:=by intro N;rw [N] at cZ;cases cZ
    have lJ:aE ≠ 0:=by omega
    have QE:aI*(bS - 1) < aZ - aT:=Nat.lt_of_le_of_lt (Nat.mul_le_mul_left aI (by omega)) (C lJ)
    have QF:aI*bS=aI*(bS - 1)+aI:=by
     conv=>lhs;rw [show bS=bS - 1+1 by omega]
     rw [Nat.mul_add,Nat.mul_one]
    have E:bS*b=(bS - 1)*b+b:=by
     conv=>lhs;rw [show bS=bS - 1+1 by omega]
     rw [Nat.add_mul,Nat.one_mul]
    have m:=kF.DX g (bS - 1) f (by omega)
    have eN:∀ aD,0 < aD→aD < cN+bS*b→aT+(aD*a) % cI < cI:=by
     intro aD d j
     have:=m.eV aD d (by omega);omega
    have QG:=f.iX
    cases bD:(Nat.beq (aZ - aI*bS) 0 || Nat.blt n (min (cN+bS*b) (n+1))) with
    | true=>
     rw [bD,cond_true] at Z
     obtain rfl:=Option.some.inj Z
     simp only [Bool.or_eq_true,Nat.blt_eq,Nat.beq_eq] at bD
     refine e.fin fun aD d j=>?_
     rcases bD with N | N
     ·have dV:aZ - aI*(bS - 1)=aI:=by omega
      have F:((cN+bS*b)*a) % cI=0:=by
       have a1:=Nat.div_add_mod ((cN+(bS - 1)*b)*a+(aZ - aI*(bS - 1))) cI
       rw [m.nC] at a1
       have G:=Nat.div_add_mod (b*a) cI
       rw [m.rd] at G
       have H:(cN+bS*b)*a=cI*(((cN+(bS - 1)*b)*a+(aZ - aI*(bS - 1))) / cI+b*a / cI):=by
        rw [E,← Nat.add_assoc,Nat.add_mul,Nat.mul_add];omega
       rw [H,Nat.mul_mod_right]
      exact period o F (by omega) eN aD
     ·exact eN aD d (by omega)
    | false=>
     rw [bD,cond_false] at Z
     replace bD:=ne_true_of_eq_false bD
     simp only [Bool.or_eq_true,Nat.blt_eq,Nat.beq_eq,not_or] at bD
     obtain⟨QH,QI⟩:=bD
     have N:min (cN+bS*b) (n+1)=cN+bS*b:=by omega
     rw [N] at Z
     have I:=kF.DX g bS f (by omega)
     exact w _ _ _ _ _ _ ⟨e.wE,e.a8,e.pre,eN⟩ I (by omega) p Z
theorem Ik{cI a aY n:Nat}(b:0 < cI):∀ (f:Nat) (L O aZ cN r dE:Nat),oU cI a aY n O L cN→kF cI a cN dE aZ r→0 < aZ→∀ p,Bk n f L O aZ cN r dE=some p→z8 cI a aY n p.1 p.2
 | 0,_,_,_,_,_,_,_,_,_,_,Z=>by cases Z
 | f+1,L,O,aZ,cN,r,dE,aG,c,d0,p,Z=>Qe b (Ik b f) aG c d0 Z
noncomputable def hQ{dF:Type}(n:Nat)(f:Nat→dF):dF:=Nat.rec (f 0) (fun R _=>f (Nat.succ R)) n
theorem l2{dF:Type}(n:Nat)(f:Nat→dF):hQ n f=f n:=by cases n <;> rfl
noncomputable def Il(n:Nat)(bZ:Nat→Nat→Nat→Nat→Nat→Nat→Option (Nat × Nat))(L O aZ cN r dE:Nat):Option (Nat × Nat):=
 hQ (Nat.div (Nat.sub (Nat.add aZ r) (Nat.succ L)) r) fun t=>hQ (Nat.div aZ r) fun t2=>hQ (Nat.sub t (Nat.sub t t2)) fun t=>hQ (Nat.sub aZ (Nat.mul r t)) fun aZ=>hQ (Nat.add cN (Nat.mul t dE)) fun cN=>
 cond (Nat.ble aZ 0) (some (O,L)) <| cond (Nat.ble cN n) (bZ L O aZ cN r dE) (some (O,L))
noncomputable def Im(n:Nat)(bZ:Nat→Nat→Nat→Nat→Nat→Nat→Option (Nat × Nat))(L O aZ cN r dE:Nat):Option (Nat × Nat):=
 hQ (Nat.add dE (Nat.mul (Nat.div r aZ) cN)) fun dE=>cond (Nat.ble dE n) (hQ (Nat.mod r aZ) fun r=>cond (Nat.ble r 0) (some (O,L)) (Il n bZ L O aZ cN r dE)) (some (O,L))
noncomputable def DY(n:Nat)(bZ:Nat→Nat→Nat→Nat→Nat→Nat→Option (Nat × Nat))(L O aZ cN r dE:Nat):Option (Nat × Nat):=
 hQ (Nat.div L aZ) fun t=>hQ (Nat.sub t (Nat.sub t (Nat.div (Nat.sub (Nat.sub n 1) O) cN))) fun t=>hQ (Nat.sub L (Nat.mul aZ t)) fun L=>hQ (Nat.add O (Nat.mul t cN)) fun O=>
 cond (Nat.ble n (Nat.add O cN)) (some (O,L)) <| cond (Nat.ble L 0) (some (O,L)) <| Im n bZ L O aZ cN r dE
noncomputable def Io(n:Nat)(f:Nat):Nat→Nat→Nat→Nat→Nat→Nat→Option (Nat × Nat):=
 Nat.rec (fun _ _ _ _ _ _=>none) (fun _ bZ=>DY n bZ) f
theorem Qf(a K:Nat):a - (a - K)=min a K:=by omega
theorem rZ{dF:Type}(a K:Nat)(L aT:dF):cond (Nat.ble a K) L aT=if a≤K then L else aT:=by
 cases Z:Nat.ble a K with
 | true=>rw [if_pos (Nat.le_of_ble_eq_true Z)];rfl
 | false=>rw [if_neg (fun b=>by rw [Nat.ble_eq_true_of_le b] at Z;cases Z)];rfl
theorem Qg{g r:Nat}(a:0 < r)(b:0 < g):(bif Nat.blt (r*(g / r)) g then g / r+1 else g / r)=(g+r - 1) / r:=by
 have a1:=Nat.div_add_mod g r
 have c:=Nat.mod_lt g a
 cases Z:Nat.blt (r*(g / r)) g with
 | true=>
  rw [Nat.blt_eq] at Z
  show g / r+1=_
  have N:g+r - 1=(g % r - 1)+r*(g / r+1):=by rw [Nat.mul_add,Nat.mul_one];omega
  rw [N,Nat.add_mul_div_left _ _ a,Nat.div_eq_of_lt (show g % r - 1 < r by omega)];omega
 | false=>
  replace Z:=ne_true_of_eq_false Z
  rw [Nat.blt_eq] at Z
  show g / r=_
  have N:g+r - 1=(r - 1)+r*(g / r):=by omega
  rw [N,Nat.add_mul_div_left _ _ a,Nat.div_eq_of_lt (show r - 1 < r by omega)];omega
theorem Dp(a K:Nat):Nat.div a K=a / K:=rfl
theorem zL(a K:Nat):Nat.mod a K=a % K:=rfl
theorem Qh{n:Nat}{bZ h:Nat→Nat→Nat→Nat→Nat→Nat→Option (Nat × Nat)}(i:∀ L O aZ cN r dE p,0 < aZ→0 < cN→0 < dE→O < n→bZ L O aZ cN r dE=some p→h L O aZ cN r dE=some p)
  {L O aZ cN r dE:Nat} (d0:0 < aZ) (g9:0 < cN) (iX:0 < dE) (a8:O < n) {p:Nat × Nat} (Z:DY n bZ L O aZ cN r dE=some p):tG n h L O aZ cN r dE=some p:=by
 unfold tG
 simp only [Dm,oP,hL,mK]
 unfold DY Im Il at Z
 simp only [l2,rZ,Nat.sub_eq,Nat.add_eq,Nat.mul_eq,Dp,zL,Qf,Nat.succ_eq_add_one] at Z
 have w:(n - 1 - O) / cN≤n - 1 - O:=Nat.div_le_self _ _
 have j:min (min (L / aZ) n) ((n - 1 - O) / cN)=min (L / aZ) ((n - 1 - O) / cN):=by omega
 rw [j]
 have x:L - aZ*min (L / aZ) ((n - 1 - O) / cN) < aZ∨n - 1 < O+min (L / aZ) ((n - 1 - O) / cN)*cN+cN:=by
  by_cases c:min (L / aZ) ((n - 1 - O) / cN)=L / aZ
  ·left
   have:=Nat.div_add_mod L aZ
   have:=Nat.mod_lt L d0
   rw [c];omega
  ·right
   have bN:min (L / aZ) ((n - 1 - O) / cN)=(n - 1 - O) / cN:=by omega
   have:=Nat.lt_mul_div_succ (n - 1 - O) g9
   rw [bN]
   rw [Nat.mul_add,Nat.mul_comm cN ((n - 1 - O) / cN)] at this;omega
 have t2:min (L / aZ) ((n - 1 - O) / cN)*cN≤n - 1 - O:=(Nat.le_div_iff_mul_le g9).mp (by omega)
 generalize min (L / aZ) ((n - 1 - O) / cN)=t at *
 have k:O+t*cN < n:=by omega
 generalize L - aZ*t=aT at *
 generalize O+t*cN=R at *
 have a:∀ {K:Bool} {b bA:Option (Nat × Nat)},K=true→(bif K then b else bA)=b:=fun N=>by rw [N];rfl
 have d:∀ {K:Bool} {b bA:Option (Nat × Nat)},¬ K=true→(bif K then b else bA)=bA:=fun N=>by
  rw [Bool.not_eq_true] at N;rw [N];rfl
 by_cases aK:n≤R+cN
 ·rw [if_pos aK] at Z
  rw [a (by simp only [Bool.or_eq_true,Nat.blt_eq,Nat.beq_eq,Nat.ble_eq];left;omega)];exact Z
 rw [if_neg aK] at Z
 by_cases bN:aT≤0
 ·rw [if_pos bN] at Z
  rw [a (by simp only [Bool.or_eq_true,Nat.blt_eq,Nat.beq_eq,Nat.ble_eq];right;left;omega)];exact Z
 rw [if_neg bN] at Z
 rw [d (by simp only [Bool.or_eq_true,Nat.blt_eq,Nat.beq_eq,Nat.ble_eq];omega)]
 have y:r / aZ*1≤r / aZ*cN:=Nat.mul_le_mul_left _ g9
 have z:n*1≤n*cN:=Nat.mul_le_mul_left _ g9
 have l:∀ cY,(bif Nat.beq cY 0 then dE else min (dE+cY*cN) (n+1))=if cY=0 then dE else min (dE+cY*cN) (n+1):=by
  intro cY
  by_cases hu:cY=0
  ·subst hu;rfl
  ·rw [if_neg hu];cases cY with
   | zero=>exact absurd rfl hu
   | succ cY=>rfl
 rw [l]
 by_cases cZ:¬ dE+r / aZ*cN≤n
 ·rw [if_neg cZ] at Z
  rw [a]
  ·exact Z
  ·simp only [Bool.or_eq_true,Nat.blt_eq,Nat.beq_eq]
   right
   by_cases hu:r / aZ≤n
   ·rw [Nat.min_eq_left hu]
    split
    ·rename_i N;rw [N,Nat.zero_mul] at cZ;omega
    ·omega
   ·rw [Nat.min_eq_right (by omega)]
    split <;> omega
 replace cZ:=Decidable.not_not.mp cZ
 rw [if_pos cZ] at Z
 have hu:min (r / aZ) n=r / aZ:=by omega
 rw [hu]
 have m:(if r / aZ=0 then dE else min (dE+r / aZ*cN) (n+1))=dE+r / aZ*cN:=by
  split
  ·rename_i N;rw [N,Nat.zero_mul];rfl
  ·omega
 rw [m]
 have o:r - aZ*(r / aZ)=r % aZ:=by have:=Nat.div_add_mod r aZ;omega
 rw [o]
 have A:=Nat.mod_lt r d0
 have e:0 < dE+r / aZ*cN:=by omega
 generalize dE+r / aZ*cN=f at *
 generalize r % aZ=aI at *
 by_cases eN:aI≤0
 ·rw [if_pos eN] at Z
  rw [a (by simp only [Bool.or_eq_true,Nat.blt_eq,Nat.beq_eq];left;omega)];exact Z
 rw [if_neg eN] at Z
 rw [d (by simp only [Bool.or_eq_true,Nat.blt_eq,Nat.beq_eq];omega)]
 have q:min (bif Nat.blt (aI*min ((aZ - aT) / aI) n) (aZ - aT) then min ((aZ - aT) / aI) n+1 else min ((aZ - aT) / aI) n) (min (aZ / aI) n)=min (min ((aZ+aI - (aT+1)) / aI) (aZ / aI)) n:=by
  have s:aZ+aI - (aT+1)=aZ - aT+aI - 1:=by omega
  have u:=Qg (g:=aZ - aT) (r:=aI) (by omega) (by omega)
  have B:(aZ - aT) / aI≤aZ / aI:=Nat.div_le_div_right (by omega)
  rw [s,← u]
  by_cases b5:(aZ - aT) / aI≤n
  ·rw [Nat.min_eq_left b5];omega
  ·rw [Nat.min_eq_right (show n≤(aZ - aT) / aI by omega)]
   cases a3:Nat.blt (aI*n) (aZ - aT) <;> cases C:Nat.blt (aI*((aZ - aT) / aI)) (aZ - aT) <;> simp only [cond_true,cond_false] <;> omega
 rw [q]
 have D:0 < min ((aZ+aI - (aT+1)) / aI) (aZ / aI):=by
  have aM:0 < (aZ+aI - (aT+1)) / aI:=Nat.div_pos (by omega) (by omega)
  have bO:0 < aZ / aI:=Nat.div_pos (by omega) (by omega)
  omega
 generalize min ((aZ+aI - (aT+1)) / aI) (aZ / aI)=bS at *
 rw [d (by simp only [Nat.beq_eq];omega)]
 by_cases v:bS≤n
 ·rw [Nat.min_eq_left v]
  by_cases bD:aZ - aI*bS≤0
  ·rw [if_pos bD] at Z
   rw [a (by simp only [Bool.or_eq_true,Nat.blt_eq,Nat.beq_eq];left;omega)];exact Z
  rw [if_neg bD] at Z
  by_cases bI:cN+bS*f≤n
  ·rw [if_pos bI] at Z
   rw [d (by simp only [Bool.or_eq_true,Nat.blt_eq,Nat.beq_eq];omega),Nat.min_eq_left (by omega)]
   exact i _ _ _ _ _ _ _ (by omega) (by omega) e k Z
  ·rw [if_neg bI] at Z
   rw [a (by simp only [Bool.or_eq_true,Nat.blt_eq,Nat.beq_eq];right;omega)];exact Z
 ·rw [Nat.min_eq_right (by omega)]
  have E:n*1≤n*f:=Nat.mul_le_mul_left _ e
  have F:bS*1≤bS*f:=Nat.mul_le_mul_left _ e
  rw [a (by simp only [Bool.or_eq_true,Nat.blt_eq,Nat.beq_eq];right;omega)]
  by_cases bD:aZ - aI*bS≤0
  ·rw [if_pos bD] at Z;exact Z
  ·rw [if_neg bD,if_neg (by omega)] at Z;exact Z
theorem Ip(n:Nat):∀ (f L O aZ cN r dE:Nat) (p:Nat × Nat),0 < aZ→0 < cN→0 < dE→O < n→Io n f L O aZ cN r dE=some p→Bk n f L O aZ cN r dE=some p
 | 0,_,_,_,_,_,_,_,_,_,_,_,Z=>by cases Z
 | f+1,L,O,aZ,cN,r,dE,p,d0,g9,iX,a8,Z=>Qh (Ip n f) d0 g9 iX a8 Z
noncomputable def zK(cI a aY n f:Nat):Option (Nat × Nat):=Io n f aY 0 (cI - a) 1 a 1
theorem Hc{cI a aY n f:Nat}(c:a < cI)(b:0 < n){p:Nat × Nat}(Z:zK cI a aY n f=some p):Bk n f aY 0 (cI - a) 1 a 1=some p:=
 Ip n f _ _ _ _ _ _ p (by omega) (by decide) (by decide) b Z
theorem zM{cI a aY n f:Nat}(b:a < cI)(c:aY < cI)(d:0 < n){p:Nat × Nat}(Z:zK cI a aY n f=some p):z8 cI a aY n p.1 p.2:=by
 refine Ik (by omega) f _ _ _ _ _ _ ⟨?_,d,fun aD e=>?_,fun aD a2 a1=>by omega⟩ ⟨by decide,by decide,by omega,b,?_,?_,fun aD a2 a1=>?_,fun aD a2 a1=>?_⟩ (by omega) p (Hc b d Z)
 ·rw [Nat.zero_mul,Nat.add_zero,Nat.mod_eq_of_lt c]
 ·obtain rfl:aD=0:=by omega
  rw [Nat.zero_mul,Nat.add_zero,Nat.mod_eq_of_lt c];exact Nat.le_refl _
 ·rw [Nat.one_mul,Nat.mod_eq_of_lt b]
 ·rw [Nat.one_mul,show a+(cI - a)=cI by omega,Nat.mod_self]
 ·obtain rfl:aD=1:=by omega
  rw [Nat.one_mul,Nat.mod_eq_of_lt b];exact Nat.le_refl _
 ·obtain rfl:aD=1:=by omega
  rw [Nat.one_mul,Nat.mod_eq_of_lt b];omega
noncomputable def force{dF:Type}(n:Nat)(f:Nat→dF):dF:=Nat.rec (f 0) (fun R _=>f (R+1)) n
theorem force_eq{dF:Type}(n:Nat)(f:Nat→dF):force n f=f n:=by cases n <;> rfl
noncomputable def p1(m:Nat)(R:Nat):Nat→Nat→Nat→Nat→Nat:=
 Nat.rec (fun _ _ a K=>a - K) (fun _ bZ t O a K=>force t fun t=>force O fun O=>force a fun a=>force K fun K=>bZ (t / m) (O+2) K (a+t / O)) R
theorem Qi(m R t O a K:Nat):p1 m (R+1) t O a K=p1 m R (t / m) (O+2) K (a+t / O):=by
 show(force t fun t=>force O fun O=>force a fun a=>force K fun K=>p1 m R (t / m) (O+2) K (a+t / O))=_
 simp only [force_eq]
def fG(n aE aD:Nat):Nat:=2 ^ aE / n ^ (2*aD+1)
def iN(n aE aD:Nat):Nat:=fG n aE aD / (2*aD+1)
def eB(n aE:Nat):Nat→Nat
 | 0=>0
 | R+1=>eB n aE R+if R % 2=0 then iN n aE R else 0
def eC(n aE:Nat):Nat→Nat
 | 0=>0
 | R+1=>eC n aE R+if R % 2=0 then 0 else iN n aE R
theorem z9(n aE R:Nat):eB n aE (R+1)=eB n aE R+if R % 2=0 then iN n aE R else 0:=rfl
theorem Aa(n aE R:Nat):eC n aE (R+1)=eC n aE R+if R % 2=0 then 0 else iN n aE R:=rfl
theorem Dh(n aE:Nat):fG n aE 0=2 ^ aE / n:=by simp [fG]
theorem zE(n aE aD:Nat):fG n aE (aD+1)=fG n aE aD / (n*n):=by
 unfold fG
 rw [Nat.div_div_eq_div_mul,show 2*(aD+1)+1=(2*aD+1)+1+1 by omega,Nat.pow_succ,Nat.pow_succ,Nat.mul_assoc]
theorem vM(n aD:Nat){aE bR:Nat}(Z:aE≤bR):fG n aE aD=fG n bR aD / 2 ^ (bR - aE):=by
 unfold fG
 rw [Nat.div_div_eq_div_mul,Nat.mul_comm (n ^ _),← Nat.div_div_eq_div_mul]
 congr 1
 rw [show 2 ^ bR=2 ^ aE*2 ^ (bR - aE) by rw [← Nat.pow_add];congr 1;omega,Nat.mul_div_cancel _ (Nat.pow_pos (by decide))]
theorem Qj(n aD:Nat){aE bR:Nat}(Z:aE≤bR):iN n aE aD=iN n bR aD / 2 ^ (bR - aE):=by
 unfold iN
 rw [vM n aD Z,Nat.div_div_eq_div_mul,Nat.mul_comm (2 ^ _),← Nat.div_div_eq_div_mul]
theorem Iq(n aE aD:Nat):fG n aE (aD+1)≤fG n aE aD:=by rw [zE];exact Nat.div_le_self _ _
theorem GM{n aE aH:Nat}(Z:fG n aE aH=0):∀ R,aH≤R→fG n aE R=0:=by
 intro R a
 induction a with
 | refl=>exact Z
 | step _ bZ=>have:=Iq n aE (by assumption:Nat);rw [zE,bZ,Nat.zero_div]
theorem Qk{n aE aH:Nat}(Z:fG n aE aH=0)(R:Nat)(a:aH≤R):iN n aE R=0:=by unfold iN;rw [GM Z R a,Nat.zero_div]
theorem Ql(n aE aD:Nat):iN n aE (aD+1)≤iN n aE aD:=by
 unfold iN
 exact Nat.le_trans (Nat.div_le_div_right (Iq n aE aD)) (Nat.div_le_div_left (by omega) (by omega))
theorem Bb{n aE aH:Nat}(Z:fG n aE aH=0):∀ R,aH≤R→eB n aE R=eB n aE aH∧eC n aE R=eC n aE aH:=by
 intro R a
 induction a with
 | refl=>exact⟨rfl,rfl⟩
 | @step R a bZ=>
  have:=Qk Z R a
  rw [z9,Aa,this,bZ.1,bZ.2]
  split <;> exact⟨rfl,rfl⟩
theorem Qm(n aE:Nat):∀ R,eC n aE (2*R)≤eB n aE (2*R)∧eC n aE (2*R+1)≤eB n aE (2*R+1):=by
 intro R
 induction R with
 | zero=>simp [eB,eC]
 | succ R bZ=>
  have Z:=Ql n aE (2*R)
  have e:eB n aE (2*R+1)=eB n aE (2*R)+iN n aE (2*R):=by rw [eB,if_pos (by omega)]
  have f:eC n aE (2*R+1)=eC n aE (2*R):=by rw [eC,if_pos (by omega)];rfl
  have a:eB n aE (2*R+1+1)=eB n aE (2*R+1):=by rw [eB,if_neg (by omega)];rfl
  have b:eC n aE (2*R+1+1)=eC n aE (2*R+1)+iN n aE (2*R+1):=by rw [eC,if_neg (by omega)]
  have c:eB n aE (2*(R+1)+1)=eB n aE (2*R+1+1)+iN n aE (2*R+1+1):=by
   rw [show 2*(R+1)+1=(2*R+1+1)+1 by omega,eB,if_pos (by omega)]
  have d:eC n aE (2*(R+1)+1)=eC n aE (2*R+1+1):=by
   rw [show 2*(R+1)+1=(2*R+1+1)+1 by omega,eC,if_pos (by omega)];rfl
  rw [c,d,show 2*(R+1)=2*R+1+1 by omega,a,b]
  omega
theorem qZ(n aE R:Nat):eC n aE R≤eB n aE R:=by
 have:=Qm n aE (R / 2)
 rcases Nat.mod_two_eq_zero_or_one R with Z | Z
 ·have N:2*(R / 2)=R:=by omega
  rw [N] at this;exact this.1
 ·have N:2*(R / 2)+1=R:=by omega
  rw [N] at this;exact this.2
theorem zB(n:Nat){aE bR:Nat}(Z:aE≤bR):∀ R,2 ^ (bR - aE)*eB n aE R≤eB n bR R∧eB n bR R≤2 ^ (bR - aE)*eB n aE R+R*2 ^ (bR - aE)
  ∧2 ^ (bR - aE)*eC n aE R≤eC n bR R∧eC n bR R≤2 ^ (bR - aE)*eC n aE R+R*2 ^ (bR - aE):=by
 intro R
 have a:0 < 2 ^ (bR - aE):=Nat.pow_pos (by decide)
 induction R with
 | zero=>simp [eB,eC]
 | succ R bZ=>
  have N:=Qj n R Z
  have a1:=Nat.div_add_mod (iN n bR R) (2 ^ (bR - aE))
  have b:=Nat.mod_lt (iN n bR R) a
  rw [← N] at a1
  simp only [z9,Aa]
  split <;> (simp only [Nat.mul_add,Nat.add_mul,Nat.add_zero,Nat.one_mul];omega)
theorem L7(n aE:Nat):∀ R,eB n aE R≤R*2 ^ aE∧eC n aE R≤R*2 ^ aE:=by
 intro R
 induction R with
 | zero=>simp [eB,eC]
 | succ R bZ=>
  have Z:iN n aE R≤2 ^ aE:=Nat.le_trans (Nat.div_le_self _ _) (Nat.div_le_self _ _)
  rw [z9,Aa,Nat.add_mul,Nat.one_mul]
  split <;> omega
theorem GP{n aE aH:Nat}(a:2≤n)(Z:fG n aE aH ≠ 0):2*aH+1≤aE:=by
 have a1:n ^ (2*aH+1)≤2 ^ aE:=by
  refine Nat.le_of_not_lt fun b=>Z ?_
  exact Nat.div_eq_of_lt b
 have c:2 ^ (2*aH+1)≤2 ^ aE:=Nat.le_trans (Nat.pow_le_pow_left a _) a1
 exact(Nat.pow_le_pow_iff_right (by decide)).mp c
theorem Qn(n aE:Nat):∀ R aD,(R+aD) % 2=0→
  p1 (n*n) R (fG n aE aD) (2*aD+1) (if aD % 2=0 then eB n aE aD else eC n aE aD) (if aD % 2=0 then eC n aE aD else eB n aE aD)=eB n aE (R+aD) - eC n aE (R+aD):=by
 intro R
 induction R with
 | zero=>intro aD a;rw [if_pos (by omega),if_pos (by omega),Nat.zero_add];rfl
 | succ R bZ=>
  intro aD a
  rw [Qi,← zE,show 2*aD+1+2=2*(aD+1)+1 by omega,show R+1+aD=R+(aD+1) by omega,← bZ (aD+1) (by omega)]
  show p1 _ _ _ _ _ (_+iN n aE aD)=_
  congr 1
  ·rw [z9,Aa]
   by_cases Z:aD % 2=0
   ·rw [if_pos Z,if_neg (by omega),if_pos Z];rfl
   ·rw [if_neg Z,if_pos (by omega),if_neg Z];rfl
  ·rw [z9,Aa]
   by_cases Z:aD % 2=0
   ·rw [if_pos Z,if_neg (by omega),if_pos Z]
   ·rw [if_neg Z,if_pos (by omega),if_neg Z]
theorem zC(n aE R:Nat)(a:R % 2=0):eB n aE R - eC n aE R=p1 (n*n) R (2 ^ aE / n) 1 0 0:=by
 have:=Qn n aE R 0 (by omega)
 rw [Dh] at this
 exact this.symm
abbrev hW:Nat:=106937688940968101568520295731801138857827202830006851169677272293281241180647803776394266198720996189227803738202197106355534191726285760255998505757921947470486233670987095309194285862467539685567002432331647719934610556214708844537733521449215131135642479809455669842373022771309008761174914697077727284628078295399460836614913637844856395348020305303283184612531000050028878489998218776580040522951052306626129921444676578840184819479601266297863183475716650308634937685742705956127373178271076338116354264367681865696775216337451629603011018563118456482097899144797648290469531483378193239773416318668461446652679025891468115771441450339219653379304093926428506513445733525485231516666345627449879163775729653748279900012441806277675766758556323979153132732506815220085641198124173114968854511217214171941165580070203341091613636813385438732888053955974411223181060985126433148058920900568754439793344638937332940535664350231711721792110690384387506204155115611984391616160985489822569077049076788883832218810415649660786935547168893297397675957341601609444080446891164538769590734201026369559368709899442315784294126628596807970073288428217799468042507438050531342533826870680255312053701910154466904824800215373734767755912008641298294462837563540487529470858782034282301635839068644196269790653005385246521689620224148
abbrev sB:Nat:=21670106438950044027773753661373242548581047271588309570413166894835566577140857200135624621822271826638536135301136973301956193406880783960766443342878681622045816875120351634207680817682143410289669618836876705565386791753913111301177925466984244819214418012209177156079983026305949774311270476509575972093260258813152043809267550211575980000823076312422471329920795567537507052882390151702700059416933748932668843918894114832868929314904823999839499607480906959541879324163869349312548084089290499614303814940889675780628640131840544258158067910198921408614211635263684626866779927041084164334776856136755444449861644887102953942274545757779808898736864123068605005441004092453171332530233795734973734238724019915910782768382028018638098929823389394080370222840356417805260745439146761210184139532204224321417248712695707878680092962226833650364208925543567265045795140423994246756181226587182374416729266842792140591118635239974324759519732905098315508295645468944444621563352761610585029630423398866059363403896220467401797793682768518992165314795003068281779687923152175652401510564536513297916200481370051477209594500405362033978301153961978710222988482112321845134589885057161606595381688591558836393546986136919136679572864606985540309331056000904405647726116515970544747669053093432287536570227874414715749694447386
theorem Qo:16*p1 (5*5) 950 (2 ^ 4400 / 5) 1 0 0 - 4*p1 (239*239) 280 (2 ^ 4400 / 239) 1 0 0=hW:=by kernel_rfl
theorem Qp:fG 5 4400 950=0:=by kernel_rfl
theorem Dc:fG 239 4400 280=0:=by kernel_rfl
def dN(aE:Nat):Nat:=hW / 2 ^ (4400 - aE)
theorem Qq{aE aH b:Nat}(c:aE≤4400)(f:fG 5 aE aH=0)(g:fG 239 aE b=0):
  4*(eB 239 aE b - eC 239 aE b)≤16*(eB 5 aE aH - eC 5 aE aH)+17400
  ∧16*(eB 5 aE aH - eC 5 aE aH)≤dN aE+17400+4*(eB 239 aE b - eC 239 aE b)
  ∧dN aE+4*(eB 239 aE b - eC 239 aE b)≤16*(eB 5 aE aH - eC 5 aE aH)+17400:=by
 have bE:fG 5 aE 950=0:=by rw [vM 5 950 c,Qp,Nat.zero_div]
 have h:fG 239 aE 280=0:=by rw [vM 239 280 c,Dc,Nat.zero_div]
 have same:∀ n R,fG n aE R=0→∀ m,fG n aE m=0→eB n aE R=eB n aE m∧eC n aE R=eC n aE m:=by
  intro n R i m d
  rcases Nat.le_total R m with Z | Z
  ·have:=Bb i m Z;exact⟨this.1.symm,this.2.symm⟩
  ·exact Bb d R Z
 obtain⟨j,k⟩:=same 5 aH f 950 bE
 obtain⟨l,o⟩:=same 239 b g 280 h
 rw [j,k,l,o]
 have p:0 < 2 ^ (4400 - aE):=Nat.pow_pos (by decide)
 have q:=zB 5 c 950
 have r:=zB 239 c 280
 have s:=qZ 5 aE 950
 have t:=qZ 239 aE 280
 have u:=qZ 5 4400 950
 have w:=qZ 239 4400 280
 have e:=Qo
 rw [← zC 5 4400 950 rfl,← zC 239 4400 280 rfl] at e
 have aW:=Nat.div_add_mod hW (2 ^ (4400 - aE))
 have d:=Nat.mod_lt hW p
 have x:4*(eB 239 4400 280 - eC 239 4400 280)≤16*(eB 5 4400 950 - eC 5 4400 950):=by
  refine Nat.le_of_lt (Nat.lt_of_sub_pos ?_)
  rw [e];decide
 unfold dN
 generalize hW / 2 ^ (4400 - aE)=a7 at *
 generalize hW % 2 ^ (4400 - aE)=bQ at *
 generalize hW=P at *
 generalize 2 ^ (4400 - aE)=D at *
 generalize eB 5 4400 950=y at *
 generalize eC 5 4400 950=z at *
 generalize eB 239 4400 280=bA at *
 generalize eC 239 4400 280=hX at *
 generalize eB 5 aE 950=a at *
 generalize eC 5 aE 950=A at *
 generalize eB 239 aE 280=K at *
 generalize eC 239 aE 280=B at *
 obtain⟨cY,rfl⟩:=Nat.le.dest s
 obtain⟨v,rfl⟩:=Nat.le.dest t
 rw [Nat.add_sub_cancel_left,Nat.add_sub_cancel_left]
 simp only [Nat.mul_add] at q r
 have key:∀ L aT:Nat,D*L≤D*aT+(D - 1)→L≤aT:=by
  intro L aT Z
  refine Nat.le_of_not_lt fun C=>?_
  have:=Nat.mul_le_mul_left D (show aT+1≤L by omega)
  rw [Nat.mul_add] at this;omega
 refine⟨key _ _ ?_,key _ _ ?_,key _ _ ?_⟩ <;> (simp only [Nat.mul_add,Nat.mul_left_comm D];omega)
structure vN(aE bW a8:Nat):Prop where
 le:bW≤a8
 Qv:dN aE≤bW+262144
 GU:bW≤dN aE+262144
 KH:dN aE≤a8+262144
 y6:a8≤dN aE+262144
theorem Ma{aE aH a:Nat}(b:aE≤4400)(c:fG 5 aE aH=0)(d:fG 239 aE a=0)(R:2*aH≤aE+1)(l:2*a≤aE+1):
  4*(eB 239 aE a - eC 239 aE a)≤16*(eB 5 aE aH - eC 5 aE aH)+17400∧
  vN aE (16*(eB 5 aE aH - eC 5 aE aH) - 4*(eB 239 aE a - eC 239 aE a) - (16*(2+3*aH)+4*(2+3*a)))
   (16*(eB 5 aE aH - eC 5 aE aH) - 4*(eB 239 aE a - eC 239 aE a)+(16*(2+3*aH)+4*(2+3*a))):=by
 obtain⟨a2,a1,e⟩:=Qq b c d
 generalize 16*(eB 5 aE aH - eC 5 aE aH)=f at *
 generalize 4*(eB 239 aE a - eC 239 aE a)=bA at *
 exact⟨a2,⟨by omega,by omega,by omega,by omega,by omega⟩⟩
noncomputable def vO(f:Nat→Bool)(n:Nat):Bool:=Nat.rec true (fun R bZ=>f R && bZ) n
theorem zD{f:Nat→Bool}{n:Nat}(Z:vO f n=true):∀ R,R < n→f R=true:=by
 induction n with
 | zero=>intro R b;omega
 | succ n bZ=>
  intro R b
  have aB:(f n && vO f n)=true:=Z
  rw [Bool.and_eq_true] at aB
  rcases Nat.lt_or_ge R n with a | a
  ·exact bZ aB.2 R a
  ·rw [show R=n by omega];exact aB.1
theorem Bc(aE g:Nat)(Z:aE+g≤4400):dN (aE+g) / 2 ^ g=dN aE:=by
 unfold dN
 rw [Nat.div_div_eq_div_mul,← Nat.pow_add];congr 2;omega
def Ir(p:Nat):Bool:=Nat.ble 262144 (hW / 2 ^ (4352 - p) % 281474976710656) && Nat.ble (hW / 2 ^ (4352 - p) % 281474976710656) 281474976448511
theorem Qr:vO Ir 4200=true:=by kernel_rfl
theorem Mb{p bW a8:Nat}(a:p < 4200)(m:vN (p+48) bW a8):bW / 281474976710656=dN p∧a8 / 281474976710656=dN p:=by
 have Z:=zD Qr p a
 simp only [Ir,Bool.and_eq_true,Nat.ble_eq] at Z
 have N:hW / 2 ^ (4352 - p)=dN (p+48):=by unfold dN;congr 2;omega
 rw [N] at Z
 have b:=Bc p 48 (by omega)
 rw [show(2:Nat) ^ 48=281474976710656 by decide] at b
 obtain⟨c,d,e,f,g⟩:=m
 omega
def q2(p:Nat):Nat:=sB / 2 ^ (4400 - p)
def Is(p:Nat):Bool:=
 Nat.ble (sB / 2 ^ (4400 - p)*(hW / 2 ^ (4352 - p)+262144)) (2 ^ (2*p+49)) && Nat.blt (2 ^ (2*p+49)) ((sB / 2 ^ (4400 - p)+1)*(hW / 2 ^ (4352 - p) - 262144))
theorem Qs:vO Is 1500=true:=by kernel_rfl
theorem v7{aE:Nat}(a:aE≤4400):3*2 ^ aE≤dN aE:=by
 unfold dN
 rw [Nat.le_div_iff_mul_le (Nat.pow_pos (by decide)),Nat.mul_assoc,← Nat.pow_add,show aE+(4400 - aE)=4400 by omega]
 exact Nat.le_of_ble_eq_true (by kernel_rfl)
theorem Md{p bW a8:Nat}(c:p < 1500)(m:vN (p+48) bW a8):bW ≠ 0∧2 ^ (2*p+49) / bW=q2 p∧2 ^ (2*p+49) / a8=q2 p:=by
 have Z:=zD Qs p c
 simp only [Is,Bool.and_eq_true,Nat.ble_eq,Nat.blt_eq] at Z
 have N:hW / 2 ^ (4352 - p)=dN (p+48):=by unfold dN;congr 2;omega
 have d:sB / 2 ^ (4400 - p)=q2 p:=rfl
 rw [N,d] at Z
 have a3:=v7 (show p+48≤4400 by omega)
 have e:2 ^ 48≤2 ^ (p+48):=Nat.pow_le_pow_right (by decide) (by omega)
 rw [show(2:Nat) ^ 48=281474976710656 by decide] at e
 obtain⟨h,i,j,k,l⟩:=m
 generalize 2 ^ (2*p+49)=T at *
 generalize q2 p=v at *
 generalize 2 ^ (p+48)=Q at *
 generalize dN (p+48)=a7 at *
 have f:0 < bW:=by omega
 have key:∀ bS,a7 - 262144≤bS→bS≤a7+262144→0 < bS→T / bS=v:=by
  intro bS a1 g b
  have a:=Nat.mul_le_mul_left v g
  have K:=Nat.mul_le_mul_left (v+1) a1
  refine Nat.le_antisymm ?_ ?_
  ·exact Nat.le_of_lt_succ ((Nat.div_lt_iff_lt_mul b).mpr (show T < (v+1)*bS by omega))
  ·exact(Nat.le_div_iff_mul_le b).mpr (by omega)
 exact⟨by omega,key bW (by omega) (by omega) f,key a8 (by omega) (by omega) (by omega)⟩
def b4:Nat:=2135987035920910082395021706169552114602704522356652769947041607822219725780640550022962086936576
def hP(L:Nat):Nat:=cond (Nat.beq L 0) 0 (Nat.sub b4 L)
noncomputable def pG(f a bW a8:Nat)(up:Bool):Option (Nat × Nat):=
 hQ (Nat.mod a b4) fun b=>hQ (Nat.mod (Nat.mul b bW) b4) fun at_=>hQ (cond up (hP b) b) fun b=>hQ (cond up (hP at_) at_) fun at_=>hQ (Nat.succ (Nat.sub a8 bW)) fun n=>
 match zK b4 b at_ n f with
 | some (O,v)=>some (Nat.add bW O,v)
 | none=>none
def pI(a bW a8:Nat):Nat:=cond (Nat.ble b4 (Nat.mul bW a)) bW (cond (Nat.ble b4 (Nat.mul a8 a)) (Nat.div (Nat.sub (Nat.add b4 a) 1) a) (Nat.succ a8))
def iP(a m:Nat)(up:Bool):Nat:=Nat.add (Nat.div (Nat.mul m a) b4) (cond up 1 0)
noncomputable def r1(f a bW a8:Nat):Option (Nat × Bool):=
 match pG f a bW a8 true with
 | none=>none
 | some (m,L)=>hQ (pI a bW a8) fun aQ=>cond (Nat.ble aQ a8) (match pG f a aQ a8 false with
  | none=>none
  | some (n,aT)=>cond (Nat.ble L aT) (some (m,true)) (some (n,false))) (some (m,true))
def e1(N:Nat):Nat:=Nat.div sB (Nat.pow 2 (Nat.sub 4144 N))
noncomputable def Bo(cY v a K:Nat):Bool:=
 hQ a fun a=>hQ K fun K=>cond (Nat.ble (Nat.succ (Nat.xor a K)) (Nat.land a K)) (cond (Nat.ble (Nat.pow 2 cY) a) (Nat.ble a (Nat.pow 2 v)) false) false
noncomputable def zO(n L R:Nat):Bool:=
 hQ (Nat.mul R (Nat.div hW (Nat.pow 2 n))) fun l=>hQ (Nat.add l R) fun Z=>
 cond (Nat.ble (Nat.succ Z) L) (Bo 1201 1470 (Nat.sub L l) (Nat.sub L Z)) (cond (Nat.ble (Nat.succ L) l) (Bo 1201 1470 (Nat.sub l L) (Nat.sub Z L)) false)
noncomputable def xQ(a:Nat):Bool:=
 match zK b4 a a 18014398509481983 80 with
 | none=>false
 | some (O,v)=>Nat.ble (Nat.pow 2 150) v
noncomputable def Qt(l L:Nat):Bool:=
 hQ (Nat.add (Nat.sub L l) (Nat.sub l L)) fun G=>hQ (Nat.sub G (Nat.pow 2 1086)) fun cY=>hQ (Nat.add G (Nat.pow 2 1086)) fun v=>
 cond (Nat.ble (Nat.succ (Nat.xor cY v)) (Nat.land cY v)) (cond (Nat.ble (Nat.pow 2 1200) G) (Nat.ble (Nat.succ v) (Nat.pow 2 1402)) false) false
noncomputable def DO(a N K:Nat):Bool:=
 match r1 80 a (Nat.pow 2 K) (Nat.sub (Nat.pow 2 (Nat.succ K)) 1) with
 | none=>false
 | some (m,up)=>hQ (iP a m up) fun R=>hQ (Nat.mul m (Nat.pow 2 (Nat.add N 1337))) fun L=>cond (zO 3000 L R) (Qt (Nat.mul R (Nat.div hW (Nat.pow 2 3000))) L) false
noncomputable def BF(a N:Nat):Bool:=Nat.beq (Nat.div (Nat.div (Nat.pow 2 (Nat.add (Nat.mul 2 (Nat.add N 320)) 1)) (Nat.div hW (Nat.pow 2 (Nat.sub 4400 (Nat.add N 320))))) (Nat.pow 2 64)) a
noncomputable def x3(N:Nat):Bool:=
 hQ (e1 N) fun a=>cond (vO (fun K=>DO a N K) 53) (hQ (Nat.mod a b4) fun aG=>cond (xQ aG) (cond (xQ (hP aG)) (BF a N) false) false) false
noncomputable def sC(bW n:Nat):Bool:=vO (fun R=>x3 (Nat.add bW R)) n
end Go.Proofs.YtjijdlkpmngolaaGreat.G
