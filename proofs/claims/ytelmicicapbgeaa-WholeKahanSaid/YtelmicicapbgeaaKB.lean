import Derived.Carry
import Derived.ChangeSlices
import Derived.WalkKit
import Derived.ProofKit
import Derived.OpenShut
import Derived.ShutString
import Derived.ChangeOld
import Derived.Below
import Derived.SizedLaws
import Derived.ChangeArms
import Derived.Laws.Append
import Derived.Test.YtelmicicapbgeaaKA
namespace Go.Gv
theorem wrap_i64{Q:Int}(aI:-9223372036854775808≤Q)(d:Q < 9223372036854775808):IntKind.i64.wrap Q=Q:=by
 have b:(2:Int) ^ 64=18446744073709551616:=by decide
 have c:(2:Int) ^ (64 - 1)=9223372036854775808:=by decide
 simp only [IntKind.wrap,IntKind.bits,IntKind.signed,Bool.true_and,b,c]
 by_cases a:Q % 18446744073709551616≥9223372036854775808
 ·rw [if_pos (by simpa using a)];omega
 ·rw [if_neg (by simpa using a)];omega
theorem wrap_u64(Q:Int):IntKind.u64.wrap Q=Q % 18446744073709551616:=by
 simp [IntKind.wrap,IntKind.bits,IntKind.signed]
theorem wB{Q:Int}(aI:0≤Q)(a:Q < 18446744073709551616):IntKind.u64.wrap Q=Q:=by
 rw [wrap_u64];omega
structure a2(Z K:V):Prop where
 le:Z.size≤K.size
 pre:cA Z.size Z K
theorem a2.refl(Z:V):a2 Z Z:=⟨Nat.le_refl _,fun _ _=>rfl⟩
theorem a2.trans{a N c:V}(Q:a2 a N)(k:a2 N c):a2 a c:=
 ⟨Nat.le_trans Q.le k.le,fun T aK=>(k.pre T (Nat.lt_of_lt_of_le aK Q.le)).trans (Q.pre T aK)⟩
theorem tS{Z:V}{x:Addr}{v:Value}(O:fQ Z x=some v):x.block < Z.size:=by
 unfold fQ at O
 split at O
 ·next aI=>exact(Array.getElem?_eq_some_iff.mp aI).1
 ·cases O
theorem a2.cell{Z K:V}(U:a2 Z K){x:Addr}{v:Value}(O:fQ Z x=some v):fQ K x=some v:=by
 rw [rR (U.pre _ (tS O))];exact O
theorem add_add(y:Addr)(T M:Nat):(y.add T).add M=y.add (T+M):=by
 unfold Addr.add
 by_cases aK:T=0 <;> by_cases a:M=0 <;> simp [aK,a,Nat.add_assoc]
theorem aT(N T:Nat):(⟨N,0,none⟩:Addr).add T=⟨N,T,none⟩:=by
 unfold Addr.add
 by_cases aK:T=0 <;> simp [aK]
abbrev gD(Q:Nat):Value:=.int .u64 (Q:Int)
structure bU(Z:V)(a:R)(c:Nat)(S:List Nat):Prop where
 len:S.length≤35184372088828
 cap:S.length≤c
 words:∀ Q ∈ S,Q < 18446744073709551616
 at_:∀ T,T < S.length→∃ y,a=some y∧fQ Z (y.add T)=some (gD (S.getD T 0))
theorem bU.I{Z K:V}{a:R}{c:Nat}{S:List Nat}(C:bU Z a c S)(U:a2 Z K):bU K a c S:=
 ⟨C.len,C.cap,C.words,fun T aK=>let ⟨y,O,g⟩:=C.at_ T aK;⟨y,O,U.cell g⟩⟩
theorem bU.nil(Z:V)(a:R)(c:Nat):bU Z a c []:=⟨by simp,by simp,by simp,fun T aK=>absurd aK (by simp)⟩
theorem tT{S:List Nat}(a:∀ Q ∈ S,Q < 18446744073709551616)(T:Nat):S.getD T 0 < 18446744073709551616:=by
 by_cases aK:T < S.length
 ·have O:S.getD T 0=S[T]:=by simp [List.getD,aK]
  rw [O];exact a _ (List.getElem_mem aK)
 ·have O:S.getD T 0=0:=by simp [List.getD,Nat.le_of_not_lt aK]
  rw [O];decide
theorem bU.word{Z:V}{a:R}{c:Nat}{S:List Nat}(C:bU Z a c S)(T:Nat):S.getD T 0 < 18446744073709551616:=tT C.words T
theorem bU.take{Z:V}{a:R}{c:Nat}{S:List Nat}(C:bU Z a c S)(n:Nat):bU Z a c (S.take n):=by
 refine⟨?_,?_,fun Q b=>C.words Q (List.mem_of_mem_take b),fun T aK=>?_⟩
 ·have:=C.len;rw [List.length_take];omega
 ·have:=C.cap;rw [List.length_take];omega
 ·rw [List.length_take] at aK
  obtain⟨y,O,g⟩:=C.at_ T (by omega)
  refine⟨y,O,?_⟩
  have d:(S.take n).getD T 0=S.getD T 0:=by
   simp only [List.getD,List.getElem?_take]
   rw [if_pos (by omega)]
  rw [d];exact g
theorem bU.nT{Z:V}{a:R}{c c1:Nat}{S:List Nat}(C:bU Z a c S)(b:S.length≤c1):bU Z a c1 S:=⟨C.len,b,C.words,C.at_⟩
theorem bU.drop{Z:V}{a:R}{c:Nat}{S:List Nat}(C:bU Z a c S)(n:Nat)(e:n≤S.length):bU Z (g7 a c n 1) (c - n) (S.drop n):=by
 have aI:=C.len;have f:=C.cap
 refine⟨?_,?_,fun Q b=>C.words Q (List.mem_of_mem_drop b),fun T aK=>?_⟩
 ·rw [List.length_drop];omega
 ·rw [List.length_drop];omega
 ·rw [List.length_drop] at aK
  obtain⟨y,O,g⟩:=C.at_ (n+T) (by omega)
  have d:(S.drop n).getD T 0=S.getD (n+T) 0:=by simp only [List.getD,List.getElem?_drop]
  refine⟨y.add n,?_,by rw [add_add,d];exact g⟩
  rw [O];unfold g7
  rw [if_neg (by omega)];simp
theorem eW{Z:V}{a:R}{c l:Nat}{S:List Nat}(C:bU Z a c S){T:Int}{M:Nat}(aK:T=(M:Int))(b:l=S.length)(d:M < S.length){A:Int→Prop}
  (g:A (S.getD M 0:Nat)):cC a l T 1 fun x=>gI Z x fun v=>aC .u64 v A:=by
 subst aK;subst b
 obtain⟨y,O,e⟩:=C.at_ M d
 subst O
 refine⟨⟨by omega,by omega⟩,?_⟩
 show gI Z (y.add ((M:Int).toNat*1)) _
 have f:(M:Int).toNat*1=M:=by omega
 rw [f]
 unfold gI;rw [e];exact g
structure eX(Z:V)(N:Nat)(S:List Nat):Prop where
 len:S.length≤35184372088828
 words:∀ Q ∈ S,Q < 18446744073709551616
 at_:∃ O,Z[N]?=some (.cells (S.map gD).toArray O (0,0))
theorem eX.lt{Z:V}{N:Nat}{S:List Nat}(s:eX Z N S):N < Z.size:=by
 obtain⟨O,g⟩:=s.at_;exact(Array.getElem?_eq_some_iff.mp g).1
theorem eX.cell{Z:V}{N:Nat}{S:List Nat}(s:eX Z N S){T:Nat}(aK:T < S.length):fQ Z ⟨N,T,none⟩=some (gD (S.getD T 0)):=by
 obtain⟨O,g⟩:=s.at_
 unfold fQ
 simp only [g,Option.isSome_none,Bool.false_eq_true,if_false]
 simp [List.getD,aK]
theorem eX.frozen{Z:V}{N:Nat}{S:List Nat}(s:eX Z N S)(T:Nat):j5 Z ⟨N,T,none⟩=false:=by
 obtain⟨O,g⟩:=s.at_
 unfold j5
 simp [g]
theorem eX.rd{Z:V}{N:Nat}{S:List Nat}(s:eX Z N S){c:Nat}(a:S.length≤c):bU Z (some ⟨N,0,none⟩) c S:=
 ⟨s.len,a,s.words,fun T aK=>⟨_,rfl,by rw [aT];exact s.cell aK⟩⟩
theorem zW{Z:V}{x:Addr}{v:Value}{N:Nat}(a:N ≠ x.block):(e5 Z x v)[N]?=Z[N]?:=by
 unfold e5
 rw [Array.getElem?_modify]
 rw [if_neg (fun O=>a O.symm)]
theorem zX{Z:V}{x:Addr}{v:Value}:(e5 Z x v).size=Z.size:=by unfold e5;simp
theorem eX.set{Z:V}{N:Nat}{S:List Nat}(s:eX Z N S)(T:Nat){v:Nat}(a1:v < 18446744073709551616):eX (e5 Z ⟨N,T,none⟩ (gD v)) N (S.set T v):=by
 refine⟨by rw [List.length_set];exact s.len,fun Q a=>?_,?_⟩
 ·rcases List.mem_or_eq_of_mem_set a with aI | aI
  ·exact s.words Q aI
  ·subst aI;exact a1
 ·obtain⟨O,g⟩:=s.at_
  refine⟨O,?_⟩
  unfold e5
  rw [Array.getElem?_modify]
  simp only [if_true,g,Option.map_some]
  simp [List.map_set]
theorem a2.set{Z K:V}(U:a2 Z K){N T:Nat}{v:Value}(b:Z.size≤N):a2 Z (e5 K ⟨N,T,none⟩ v):=
 ⟨by rw [zX];exact U.le,fun M a=>by rw [zW (by show M ≠ N;omega)];exact U.pre M a⟩
theorem eX.I{Z K:V}{N:Nat}{S:List Nat}(s:eX Z N S)(U:a2 Z K):eX K N S:=by
 obtain⟨O,g⟩:=s.at_
 exact⟨s.len,s.words,O,by rw [U.pre N s.lt];exact g⟩
theorem j7{Z:V}{N l:Nat}{S:List Nat}(s:eX Z N S){T:Int}{M:Nat}(aK:T=(M:Int))(a:l=S.length)(b:M < S.length){Q:Int}{v:Nat}(c:Q=(v:Int))(a1:v < 18446744073709551616){A:V→Prop}
  (g:eX (e5 Z ⟨N,M,none⟩ (gD v)) N (S.set M v)→A (e5 Z ⟨N,M,none⟩ (gD v))):cC (some ⟨N,0,none⟩) l T 1 fun x=>bI Z x (.int .u64 Q) A:=by
 subst aK;subst a;subst c
 refine⟨⟨by omega,by omega⟩,?_⟩
 show bI Z ((⟨N,0,none⟩:Addr).add ((M:Int).toNat*1)) _ _
 have d:(M:Int).toNat*1=M:=by omega
 rw [d,aT]
 exact⟨⟨⟨_,s.cell b⟩,s.frozen M⟩,g (s.set M a1)⟩
theorem wC(n:Nat)(a5:Value):gK [a5] n=List.replicate n a5:=by
 induction n with
 | zero=>rfl
 | succ n bD=>show [a5] ++ gK [a5] n=_;rw [bD,List.replicate_succ];rfl
theorem k8{Z:V}{O:TypeId}{T:c2}{n m:Int}(U:Nat)(b:T.aF=[gD 0])(a:T.bytes=8)(c:n=(U:Int))(d:m=(U:Int))(e:U≤35184372088828){A:Addr→V→Prop}
  (g:∀ K,eX K Z.size (List.replicate U 0)→a2 Z K→A ⟨Z.size,0,none⟩ K):g1 Z O T n m A:=by
 subst c;subst d
 refine⟨⟨by omega,by omega,by omega,by rw [a];omega⟩,g _ ⟨by simpa using e,?_,O,?_⟩ ⟨by simp,fun N a=>?_⟩⟩
 ·intro Q f;have:=List.eq_of_mem_replicate f;omega
 ·rw [b,wC];simp
 ·rw [Array.getElem?_push];rw [if_neg (by omega)]
theorem DC{Z:V}{O:TypeId}{cT:List Value}(S:List Nat)(a:cT=S.map gD)(b:S.length≤35184372088828)(c:∀ Q ∈ S,Q < 18446744073709551616){A:Addr→V→Prop}
  (g:∀ K,eX K Z.size S→a2 Z K→A ⟨Z.size,0,none⟩ K):cU Z O cT A:=by
 subst a
 refine g _ ⟨b,c,O,?_⟩ ⟨by simp,fun N d=>?_⟩
 ·simp
 ·rw [Array.getElem?_push];rw [if_neg (by omega)]
theorem wD{Z:V}{y:Addr}:∀ {bN:List Nat} {T:Nat},(∀ M,M < bN.length→fQ Z (y.add (T+M))=some (gD (bN.getD M 0)))→mE Z y T (bN.map gD)
 | [],_,_=>trivial
 | v :: bN,T,g=>by
  refine⟨by have:=g 0 (by simp);simpa using this,wD fun M a=>?_⟩
  have:=g (M+1) (by simpa using a)
  rw [show T+1+M=T+(M+1) by omega]
  simpa using this
theorem wE{Z:V}{y:Addr}:∀ {n T:Nat},(∀ M,M < n→(∃ v,fQ Z (y.add (T+M))=some v)∧j5 Z (y.add (T+M))=false)→mF Z y T n
 | 0,_,_=>trivial
 | n+1,T,g=>⟨by have:=g 0 (by omega);simpa using this,wE fun M a=>by rw [show T+1+M=T+(M+1) by omega];exact g (M+1) (by omega)⟩
theorem wF{N:Nat}:∀ {bN:List Nat} {Z o:V} {S:List Nat} {T:Nat},eX Z N S→(∀ Q ∈ bN,Q < 18446744073709551616)→T+bN.length≤S.length→(o.size≤N)→a2 o Z→
  eX (h2 Z ⟨N,0,none⟩ T (bN.map gD)) N (S.take T ++ (bN ++ S.drop (T+bN.length)))∧a2 o (h2 Z ⟨N,0,none⟩ T (bN.map gD))
 | [],Z,o,S,T,s,_,_,_,U=>by simpa [h2] using ⟨s,U⟩
 | v :: bN,Z,o,S,T,s,a,c,b,U=>by
  simp only [List.length_cons] at c
  have O:h2 Z ⟨N,0,none⟩ T ((v :: bN).map gD)=h2 (e5 Z ⟨N,T,none⟩ (gD v)) ⟨N,0,none⟩ (T+1) (bN.map gD):=by
   show h2 (e5 Z ((⟨N,0,none⟩:Addr).add T) (gD v)) _ _ _=_
   rw [aT]
  rw [O]
  have:=wF (bN:=bN) (T:=T+1) (s.set T (a v (by simp))) (fun Q d=>a Q (by simp [d])) (by rw [List.length_set];omega) b (U.set (v:=gD v) (T:=T) b)
  refine⟨?_,this.2⟩
  have e:(S.set T v).take (T+1) ++ (bN ++ (S.set T v).drop (T+1+bN.length))=S.take T ++ (v :: bN ++ S.drop (T+(v :: bN).length)):=by
   rw [List.drop_set_of_lt (by omega),List.length_cons,show T+1+bN.length=T+(bN.length+1) by omega]
   rw [List.take_add_one,List.take_set_of_le (Nat.le_refl T)]
   simp [show T < S.length by omega]
  rw [← e];exact this.1
theorem tU{Z:V}{N l bO bA:Nat}{S w:List Nat}{a:R}{o:V}(s:eX Z N S)(C:bU Z a bA w)(d:l=S.length)(e:bO=w.length)(f:o.size≤N)(U:a2 o Z){A:Int→V→Prop}
  (g:∀ K,eX K N (w.take S.length ++ S.drop w.length)→a2 o K→A ((Nat.min w.length S.length:Nat):Int) K):kR Z 1 (some ⟨N,0,none⟩) l (.slice a bO bA) A:=by
 subst d;subst e
 have b:(w.take S.length).length=Nat.min w.length S.length:=by
  rw [List.length_take];exact Nat.min_comm _ _
 have m:Nat.min w.length S.length≤S.length:=Nat.min_le_right _ _
 refine⟨w.length,(w.take S.length).map gD,rfl,⟨by rw [List.length_map,b];omega,?_,?_⟩,?_,?_⟩
 ·intro v a1
  obtain⟨Q,_,O⟩:=List.mem_map.mp a1
  subst O;rfl
 ·cases a with
  | none=>
   show(w.take S.length).map gD=[]
   cases w with
   | nil=>simp
   | cons k w=>obtain⟨y,O,_⟩:=C.at_ 0 (by simp);cases O
  | some y=>
   refine wD fun M c=>?_
   obtain⟨n,O,h⟩:=(C.take S.length).at_ M c
   cases O
   rw [Nat.zero_add];exact h
 ·refine wE fun M c=>?_
  rw [Nat.zero_add,aT]
  rw [List.length_map,b] at c
  exact⟨⟨_,s.cell (by omega)⟩,s.frozen M⟩
 ·have:=wF (bN:=w.take S.length) (T:=0) s (fun Q i=>C.words Q (List.mem_of_mem_take i)) (by rw [b];omega) f U
  refine g _ ?_ this.2
  have O:S.take 0 ++ (w.take S.length ++ S.drop (0+(w.take S.length).length))=w.take S.length ++ S.drop w.length:=by
   rw [List.take_zero,List.nil_append,Nat.zero_add,b]
   congr 1
   by_cases j:w.length≤S.length
   ·rw [show Nat.min w.length S.length=w.length from Nat.min_eq_left j]
   ·rw [show Nat.min w.length S.length=S.length from Nat.min_eq_right (by omega),List.drop_of_length_le (Nat.le_refl _),List.drop_of_length_le (by omega)]
  rw [← O];exact this.1
theorem rX{a:R}{l c:Nat}{Q:Int}{n:Nat}(b:Q=(n:Int))(d:n≤c){A:R→Nat→Nat→Prop}(g:A a n c):gT 1 a l c none (some (.int .i64 Q)) none A:=by
 subst b
 show(0≤(n:Int)∧(n:Int)≤(c:Int))∧A (g7 a c 0 1) ((n:Int).toNat - 0) (c - 0)
 refine⟨⟨by omega,by omega⟩,?_⟩
 have O:g7 a c 0 1=a:=by
  unfold g7
  split
  ·rfl
  ·cases a <;> simp [Addr.add]
 rw [O];simpa using g
theorem zY{a:R}{l c:Nat}{Q:Int}{n:Nat}(b:Q=(n:Int))(d:n≤l){A:R→Nat→Nat→Prop}(g:A (g7 a c n 1) (l - n) (c - n)):gT 1 a l c (some (.int .i64 Q)) none none A:=by
 subst b
 exact⟨⟨by omega,by omega⟩,by simpa using g⟩
theorem bE{P:Program}{a3:FuncId}{args:Array Value}{Z:V}{dC A:Value→V→Prop}(a:lS P a3 args Z dC)(g:∀ v K,dC v K→A v K):lS P a3 args Z A:=a.mono g
open Go.ChangeShapes Go.WideShapes Go.ChangeAt Go.RowKit
theorem DD{L b5:World}(F:eP L b5)(U:a2 L.heap b5.heap):Below L.heap.size L b5:=⟨F.os,F.tape,F.output,U.le,fun T aK=>U.pre T aK⟩
theorem wf_u64{n:Int}(Z:(Lit.int .u64 n).wf=true):0≤n∧n < 18446744073709551616:=by
 simp only [Lit.wf,Bool.and_eq_true,decide_eq_true_eq,IntKind.min,IntKind.max,IntKind.signed,IntKind.bits,Bool.false_eq_true,if_false] at Z
 have a:(2:Int) ^ 64=18446744073709551616:=by decide
 rw [a] at Z;omega
open Go.ChangeShapes Go.WideShapes Go.ChangeAt Go.RowKit
abbrev DE(cS:Type):=V→List Value→cS→Prop
structure Is{cS:Type}(dC:DE cS)(gS m:Nat)(Z:V)(a:R)(c:Nat)(l:List cS):Prop where
 len:l.length≤m
 cap:l.length≤c
 at_:∀ T Q,l[T]?=some Q→∃ y bN,a=some y∧bN.length=gS∧mE Z (y.add (T*gS)) 0 bN∧dC Z bN Q
section
variable {H:Type} {e0:TypeId × Value→H} {P:Program} {bB:World}
end
def val:List Nat→Nat
 | []=>0
 | Q :: S=>Q+18446744073709551616*val S
def z(n:Nat):List Nat:=if Z:n=0 then [] else n % 18446744073709551616 :: z (n / 18446744073709551616)
 termination_by n
 decreasing_by omega
def cV:List Nat→List Nat
 | []=>[]
 | Q :: S=>if Q=0∧cV S=[] then [] else Q :: cV S
def Words(S:List Nat):Prop:=∀ Q ∈ S,Q < 18446744073709551616
theorem Words.cons{Q:Nat}{S:List Nat}(Z:Words (Q :: S)):Q < 18446744073709551616∧Words S:=⟨Z Q (by simp),fun k a=>Z k (by simp [a])⟩
theorem cP:z 0=[]:=by unfold z;simp
theorem jP{n:Nat}(Z:n ≠ 0):z n=n % 18446744073709551616 :: z (n / 18446744073709551616):=by
 rw [z];simp [Z]
theorem nU(n:Nat):Words (z n):=by
 induction n using Nat.strongRecOn with
 | ind n bD=>
  by_cases Z:n=0
  ·subst Z;rw [cP];intro Q a;cases a
  ·rw [jP Z];intro Q a
   rcases List.mem_cons.mp a with O | O
   ·omega
   ·exact bD _ (by omega) Q O
theorem dZ(n:Nat):val (z n)=n:=by
 induction n using Nat.strongRecOn with
 | ind n bD=>
  by_cases Z:n=0
  ·subst Z;rw [cP];rfl
  ·rw [jP Z];show n % _+_*val (z _)=n
   rw [bD _ (by omega)];omega
theorem mP{S:List Nat}:cV S=[]↔val S=0:=by
 induction S with
 | nil=>simp [cV,val]
 | cons Q S bD=>
  simp only [cV,val]
  split
  ·next Z=>simp only [true_iff];have:=bD.mp Z.2;omega
  ·next Z=>
   simp only [reduceCtorEq,false_iff]
   intro O
   exact Z ⟨by omega,bD.mpr (by omega)⟩
theorem kT{S:List Nat}(a:Words S):z (val S)=cV S:=by
 induction S with
 | nil=>simp [val,cV,cP]
 | cons Q S bD=>
  have b:=a.cons
  simp only [cV,val]
  split
  ·next Z=>rw [Z.1,mP.mp Z.2];exact cP
  ·next Z=>
   have c:Q+18446744073709551616*val S ≠ 0:=fun O=>Z ⟨by omega,mP.mpr (by omega)⟩
   rw [jP c]
   have d:(Q+18446744073709551616*val S) % 18446744073709551616=Q:=by omega
   have e:(Q+18446744073709551616*val S) / 18446744073709551616=val S:=by omega
   rw [d,e,bD b.2]
theorem nV(S:List Nat):val (cV S)=val S:=by
 induction S with
 | nil=>rfl
 | cons Q S bD=>
  simp only [cV]
  split
  ·next Z=>simp only [val];rw [Z.1,mP.mp Z.2]
  ·simp only [val];rw [bD]
theorem o3(n:Nat):cV (z n)=z n:=by rw [← kT (nU n),dZ]
theorem wG(S:List Nat):cV (cV S)=cV S:=by
 induction S with
 | nil=>rfl
 | cons Q S bD=>
  simp only [cV]
  split
  ·rfl
  ·next Z=>simp only [cV,bD];rw [if_neg Z]
theorem rY(S:List Nat):(cV S).length≤S.length:=by
 induction S with
 | nil=>simp [cV]
 | cons Q S bD=>
  simp only [cV]
  split
  ·simp
  ·simpa using bD
theorem qK(S:List Nat):cV (S ++ [0])=cV S:=by
 induction S with
 | nil=>simp [cV]
 | cons Q S bD=>simp only [List.cons_append,cV,bD]
theorem rZ(S:List Nat){Q:Nat}(a:Q ≠ 0):cV (S ++ [Q])=S ++ [Q]:=by
 induction S with
 | nil=>simp [cV,a]
 | cons k S bD=>
  simp only [List.cons_append,cV,bD]
  rw [if_neg (by simp)]
theorem lV{S:List Nat}{n:Nat}(Z:n < S.length):S.take (n+1)=S.take n ++ [S.getD n 0]:=by
 rw [List.take_add_one];simp [List.getD,Z]
theorem qL{S:List Nat}:cV S=S↔(S=[]∨S.getD (S.length - 1) 0 ≠ 0):=by
 by_cases Z:S.length=0
 ·have O:S=[]:=List.length_eq_zero_iff.mp Z
  subst O;simp [cV]
 ·obtain⟨n,a⟩:∃ n,S.length=n+1:=⟨S.length - 1,by omega⟩
  have O:S=S.take n ++ [S.getD n 0]:=by rw [← lV (by omega),← a,List.take_length]
  have c:S ≠ []:=fun O=>by subst O;simp at a
  rw [a];simp only [Nat.add_sub_cancel]
  constructor
  ·intro b
   refine Or.inr fun o=>?_
   rw [o] at O
   rw [O,qK] at b
   have:=rY (S.take n)
   rw [b] at this;simp at this;omega
  ·rintro(aI | aI)
   ·exact absurd aI c
   ·rw [O];exact rZ _ aI
def eF(n:Nat):List Nat × Int:=if (z n).length≤8192 then(z n,0) else([],5)
def g5(S:List Nat):Prop:=S.length≤8192∧cV S=S
instance (S:List Nat):Decidable (g5 S):=by unfold g5;infer_instance
theorem g5.z{S:List Nat}(Z:g5 S)(a:Words S):Gv.z (val S)=S:=by rw [kT a,Z.2]
theorem g5.eF{S:List Nat}(Z:g5 S)(a:Words S):Gv.eF (val S)=(S,0):=by
 unfold Gv.eF;rw [Z.z a,if_pos Z.1]
theorem lW{n m:Nat}(Z:n≤m):(z n).length≤(z m).length:=by
 induction m using Nat.strongRecOn generalizing n with
 | ind m bD=>
  by_cases a:n=0
  ·subst a;rw [cP];simp
  ·rw [jP a,jP (n:=m) (by omega)]
   simp only [List.length_cons]
   exact Nat.succ_le_succ (bD (m / 18446744073709551616) (by omega) (Nat.div_le_div_right Z))
theorem mQ{F:List Nat}{M t:Nat}(Z:M < F.length):(F.set M t).take (M+1)=F.take M ++ [t]:=by
 rw [List.take_add_one,List.take_set_of_le (Nat.le_refl M)];simp [Z]
theorem gU{S:List Nat}{M:Nat}(Z:M < S.length):S.drop M=S.getD M 0 :: S.drop (M+1):=by
 rw [List.drop_eq_getElem_cons Z];simp [List.getD,Z]
theorem tV(S:List Nat)(M:Nat):(S.drop M).headD 0=S.getD M 0:=by
 simp [List.getD,List.headD_eq_head?_getD,List.head?_drop]
def m8:List Nat→List Nat→Nat→List Nat
 | [],_,c=>[c]
 | Q :: S,w,c=>(Q+w.headD 0+c) % 18446744073709551616 :: m8 S w.tail ((Q+w.headD 0+c) / 18446744073709551616)
theorem tW(w:List Nat):val w=w.headD 0+18446744073709551616*val w.tail:=by cases w <;> simp [val]
theorem zZ:∀ (S w:List Nat) (c:Nat),w.length≤S.length→val (m8 S w c)=val S+val w+c
 | [],w,c,Z=>by
  have O:w=[]:=List.length_eq_zero_iff.mp (by simpa using Z)
  subst O;simp [m8,val]
 | Q :: S,w,c,Z=>by
  simp only [m8,val]
  rw [zZ S w.tail _ (by simp at Z ⊢;omega)]
  have:=tW w
  omega
def lX:List Nat→List Nat→Nat→List Nat
 | [],_,_=>[]
 | Q :: S,w,c=>(Q+18446744073709551616 - w.headD 0 - c) % 18446744073709551616 :: lX S w.tail (if Q < w.headD 0+c then 1 else 0)
theorem wH:∀ (S w:List Nat) (c:Nat),Words S→Words w→w.length≤S.length→c≤1→val w+c≤val S→val (lX S w c)+(val w+c)=val S
 | [],w,c,_,_,Z,_,a1=>by
  have O:w=[]:=List.length_eq_zero_iff.mp (by simpa using Z)
  subst O;simp [lX,val] at a1 ⊢;omega
 | Q :: S,w,c,a,b,Z,g,a1=>by
  have h:w.headD 0 < 18446744073709551616:=by cases w with
   | nil=>decide
   | cons k w=>exact b.cons.1
  have d:Words w.tail:=by cases w with
   | nil=>exact b
   | cons k w=>exact b.cons.2
  have i:=a.cons.1
  have:=tW w
  simp only [lX,val] at a1 ⊢
  have e:w.tail.length≤S.length:=by simp at Z ⊢;omega
  by_cases f:Q < w.headD 0+c
  ·rw [if_pos f]
   have:=wH S w.tail 1 a.cons.2 d e (by omega) (by omega)
   omega
  ·rw [if_neg f]
   have:=wH S w.tail 0 a.cons.2 d e (by omega) (by omega)
   omega
theorem o4:∀ {S w:List Nat} {M:Nat},Words S→Words w→S.length=w.length→M < S.length→S.drop (M+1)=w.drop (M+1)→S.getD M 0 < w.getD M 0→val S < val w
 | [],_,_,_,_,_,a,_,_=>absurd a (by simp)
 | Q :: S,[],_,_,_,b,_,_,_=>absurd b (by simp)
 | Q :: S,k :: w,0,c,d,b,a,e,Z=>by
  have O:S=w:=by simpa using e
  subst O
  simp only [List.getD_cons_zero] at Z
  simp only [val];omega
 | Q :: S,k :: w,M+1,c,d,b,a,e,Z=>by
  have:=o4 (S:=S) (w:=w) (M:=M) c.cons.2 d.cons.2 (by simpa using b) (by simpa using a) (by simpa using e) (by simpa using Z)
  have aI:=c.cons.1
  have f:=d.cons.1
  simp only [val];omega
theorem z0{k:Nat}{w:List Nat}(Z:cV (k :: w)=k :: w):cV w=w:=by
 simp only [cV] at Z
 split at Z
 ·cases Z
 ·exact List.tail_eq_of_cons_eq Z
theorem nW:∀ {S w:List Nat},Words S→cV w=w→S.length < w.length→val S < val w
 | _,[],_,_,Z=>absurd Z (by simp)
 | [],k :: w,_,a,_=>by
  have:val (k :: w) ≠ 0:=fun O=>by rw [mP.mpr O] at a;cases a
  simp only [val] at this ⊢;omega
 | Q :: S,k :: w,b,a,Z=>by
  have:=nW (S:=S) (w:=w) b.cons.2 (z0 a) (by simpa using Z)
  have aI:=b.cons.1
  simp only [val];omega
def e4(m n:Nat):Int:=if m < n then -1 else if m=n then 0 else 1
theorem gO(S w:List Nat):val (S ++ w)=val S+2 ^ (64*S.length)*val w:=by
 induction S with
 | nil=>simp [val]
 | cons Q S bD=>
  simp only [List.cons_append,val,bD,List.length_cons]
  have O:2 ^ (64*(S.length+1))=18446744073709551616*2 ^ (64*S.length):=by
   rw [show 64*(S.length+1)=64+64*S.length by omega,Nat.pow_add]
  rw [O,Nat.mul_add,Nat.mul_assoc];omega
theorem gE{S:List Nat}(a:Words S):val S < 2 ^ (64*S.length):=by
 induction S with
 | nil=>simp [val]
 | cons Q S bD=>
  have O:2 ^ (64*(S.length+1))=18446744073709551616*2 ^ (64*S.length):=by
   rw [show 64*(S.length+1)=64+64*S.length by omega,Nat.pow_add]
  rw [List.length_cons,O];simp only [val]
  have aI:=a.cons.1
  have b:=bD a.cons.2
  omega
def dK(n:Nat):Nat:=if n=0 then 0 else Nat.log2 n+1
theorem hH{n U:Nat}:dK n≤U↔n < 2 ^ U:=by
 unfold dK
 by_cases Z:n=0
 ·subst Z;simp [Nat.pow_pos]
 ·rw [if_neg Z];exact Nat.log2_lt Z
theorem DF{n m:Nat}(Z:∀ U,dK n≤U↔m≤U):dK n=m:=Nat.le_antisymm ((Z m).mpr (Nat.le_refl _)) ((Z _).mp (Nat.le_refl _))
theorem o5(n F:Nat):dK (n / 2 ^ F)=dK n - F:=by
 refine DF fun U=>?_
 rw [hH,Nat.div_lt_iff_lt_mul (Nat.pow_pos (by decide)),← Nat.pow_add,← hH];omega
theorem z1:dK 0=0:=rfl
theorem lY{n:Nat}(Z:n ≠ 0):0 < dK n:=by unfold dK;rw [if_neg Z];omega
theorem r0{S:List Nat}(a:Words S){n:Nat}(b:S.length=n+1)(o:S.getD n 0 ≠ 0):dK (val S)=64*n+dK (S.getD n 0):=by
 have O:S=S.take n ++ [S.getD n 0]:=by rw [← lV (by omega),← b,List.take_length]
 have a1:val S=val (S.take n)+2 ^ (64*n)*S.getD n 0:=by
  conv=>lhs;rw [O]
  rw [gO];simp [val,show min n S.length=n by omega]
 have c:val (S.take n) < 2 ^ (64*n):=by
  have:=gE (S:=S.take n) (fun Q d=>a Q (List.mem_of_mem_take d))
  rwa [List.length_take,show min n S.length=n by omega] at this
 have e:val S / 2 ^ (64*n)=S.getD n 0:=by
  rw [a1,Nat.add_mul_div_left _ _ (Nat.pow_pos (by decide)),Nat.div_eq_of_lt c,Nat.zero_add]
 have:=o5 (val S) (64*n)
 rw [e] at this
 have:=lY o
 omega
theorem e2{n U:Nat}:(z n).length≤U↔n < 2 ^ (64*U):=by
 constructor
 ·intro Z
  have:=gE (nU n)
  rw [dZ] at this
  exact Nat.lt_of_lt_of_le this (Nat.pow_le_pow_right (by decide) (by omega))
 ·intro Z
  induction U generalizing n with
  | zero=>
   have:n=0:=by simpa using Z
   subst this;rw [cP];simp
  | succ U bD=>
   by_cases o:n=0
   ·subst o;rw [cP];simp
   ·rw [jP o,List.length_cons]
    have O:2 ^ (64*(U+1))=2 ^ (64*U)*18446744073709551616:=by
     rw [show 64*(U+1)=64*U+64 by omega,Nat.pow_add]
    rw [O] at Z
    have:=bD (n:=n / 18446744073709551616) (Nat.div_lt_of_lt_mul (by rw [Nat.mul_comm];exact Z))
    omega
theorem wI{aH aY U:Nat}(a:(z aH).length≤U)(b:(z aY).length≤U):(z (aH+aY)).length≤U+1:=by
 refine e2.mpr ?_
 have aI:=e2.mp a
 have c:=e2.mp b
 have O:2 ^ (64*(U+1))=2 ^ (64*U)*18446744073709551616:=by
  rw [show 64*(U+1)=64*U+64 by omega,Nat.pow_add]
 rw [O];generalize 2 ^ (64*U)=y at *;omega
theorem tX{v:Nat}(n:Nat)(Z:v ≠ 0):dK (v*2 ^ n)=dK v+n:=by
 have aI:=o5 (v*2 ^ n) n
 rw [Nat.mul_div_cancel _ (Nat.pow_pos (by decide))] at aI
 have a:=lY Z
 omega
theorem tY{v:Nat}(U:Nat):dK v≤64*U↔(z v).length≤U:=by
 rw [e2,hH]
theorem z2{v:Nat}:dK v≤524288↔(z v).length≤8192:=tY 8192
theorem DG{v:Nat}(Z:¬ dK v≤524288):eF v=([],5):=by
 unfold eF;rw [if_neg (fun a=>Z (z2.mpr a))]
theorem jA{S:List Nat}(a:Words S)(m:Nat):val (S.drop m)=val S / 2 ^ (64*m):=by
 by_cases b:m≤S.length
 ·have O:val S=val (S.take m)+2 ^ (64*m)*val (S.drop m):=by
   conv=>lhs;rw [← List.take_append_drop m S]
   rw [gO,List.length_take,Nat.min_eq_left b]
  have c:=gE (S:=S.take m) (fun Q d=>a Q (List.mem_of_mem_take d))
  rw [List.length_take,Nat.min_eq_left b] at c
  rw [O,Nat.add_mul_div_left _ _ (Nat.pow_pos (by decide)),Nat.div_eq_of_lt c,Nat.zero_add]
 ·rw [List.drop_of_length_le (by omega)]
  have:=gE a
  have e:2 ^ (64*S.length)≤2 ^ (64*m):=Nat.pow_le_pow_right (by decide) (by omega)
  rw [Nat.div_eq_of_lt (by omega)];rfl
theorem j8{U:Nat}(a:U < 64):2 ^ U*2 ^ (64 - U)=18446744073709551616:=by
 rw [← Nat.pow_add,show U+(64 - U)=64 by omega]
theorem wJ{U:Nat}(b:U < 64):2 ^ U < 18446744073709551616:=by
 have:=Nat.pow_lt_pow_right (a:=2) (by decide) b
 exact Nat.lt_of_lt_of_le this (by decide)
theorem z3{S:List Nat}(b:Words S){m U:Nat}(c:m < S.length)(d:U < 64):val (S.take m ++ [S.getD m 0 % 2 ^ U])=val S % 2 ^ (64*m+U):=by
 have O:val S=val (S.take m)+2 ^ (64*m)*val (S.drop m):=by
  conv=>lhs;rw [← List.take_append_drop m S]
  rw [gO,List.length_take,Nat.min_eq_left (by omega)]
 have a:=gE (S:=S.take m) (fun Q e=>b Q (List.mem_of_mem_take e))
 rw [List.length_take,Nat.min_eq_left (by omega)] at a
 rw [gO,List.length_take,Nat.min_eq_left (by omega),Nat.pow_add,Nat.mod_mul,O,Nat.add_mul_mod_self_left,Nat.mod_eq_of_lt a,Nat.add_mul_div_left _ _ (Nat.pow_pos (by decide)),Nat.div_eq_of_lt a,Nat.zero_add,gU c]
 simp only [val,Nat.mul_zero,Nat.add_zero]
 congr 2
 rw [← j8 d,Nat.mul_assoc,Nat.add_mul_mod_self_left]
theorem b1{y:Prop}[Decidable y]{a a7:Prop}(b:y→a)(c:¬y→a7):cond (decide y) a a7:=by
 by_cases Z:y
 ·simp only [Z,decide_true,cond_true];exact b Z
 ·simp only [Z,decide_false,cond_false];exact c Z
theorem fP{Q k:Int}{a a7:Prop}(b:Q=k→a)(c:Q ≠ k→a7):cond (Q == k) a a7:=by
 by_cases Z:Q=k
 ·simp only [Z,beq_self_eq_true,cond_true];exact b Z
 ·simp only [beq_eq_false_iff_ne.mpr Z,cond_false];exact c Z
theorem r1{Q k:Int}{a a7:Prop}(b:Q ≠ k→a)(c:Q=k→a7):cond (Q != k) a a7:=by
 by_cases Z:Q=k
 ·simp only [Z,bne_self_eq_false,cond_false];exact c Z
 ·simp only [bne_iff_ne.mpr Z,cond_true];exact b Z
theorem kU{N:Bool}{a a7:Prop}(b:N=false→a)(c:N=true→a7):cond (!N) a a7:=by
 cases N
 ·exact b rfl
 ·exact c rfl
theorem b9{Q:Int}(k:Int)(O:Q=k)(aI:-9223372036854775808≤k)(a:k < 9223372036854775808){A:Int→Prop}(g:A k):aN (IntKind.i64.wrap Q) A:=by
 subst O;refine⟨?_⟩;show A _;rw [wrap_i64 aI a];exact g
def o6(Z:V)(x:Nat):Option Nat:=match Z[x]? with | some (.cells c _ _)=>some c.size | _=>none
structure aV(x:Nat)(Z K:V):Prop where
 le:Z.size≤K.size
 pre:∀ N,N < Z.size→N ≠ x→K[N]?=Z[N]?
 len:∀ m,o6 Z x=some m→o6 K x=some m
theorem aV.refl(x:Nat)(Z:V):aV x Z Z:=⟨Nat.le_refl _,fun _ _ _=>rfl,fun _ O=>O⟩
theorem aV.trans{x:Nat}{a N c:V}(Q:aV x a N)(k:aV x N c):aV x a c:=
 ⟨Nat.le_trans Q.le k.le,fun T aK b=>(k.pre T (Nat.lt_of_lt_of_le aK Q.le) b).trans (Q.pre T aK b),fun m O=>k.len m (Q.len m O)⟩
theorem z4{Z:V}{x m:Nat}(O:o6 Z x=some m):x < Z.size:=by
 rcases Nat.lt_or_ge x Z.size with a | a
 ·exact a
 ·unfold o6 at O;rw [Array.getElem?_eq_none a] at O;cases O
theorem a2.wK{x:Nat}{Z K:V}(U:a2 Z K):aV x Z K:=
 ⟨U.le,fun N a _=>U.pre N a,fun m O=>by have:=U.pre x (z4 O);unfold o6 at *;rw [this];exact O⟩
theorem aV.I{x:Nat}{o Z K:V}(a:a2 o Z)(U:aV x Z K)(b:o.size≤x):a2 o K:=
 ⟨Nat.le_trans a.le U.le,fun N b=>(U.pre N (Nat.lt_of_lt_of_le b a.le) (by omega)).trans (a.pre N b)⟩
theorem aV.set(x:Nat)(Z:V)(T:Nat)(v:Value):aV x Z (e5 Z ⟨x,T,none⟩ v):=
 ⟨by rw [zX];exact Nat.le_refl _,fun N _ a=>zW a,fun m O=>by
  unfold o6 at *
  split at O
  ·rename_i c b d e
   have:(e5 Z ⟨x,T,none⟩ v)[x]?=some (.cells (c.setIfInBounds T v) b d):=by
    unfold e5
    rw [Array.getElem?_modify,if_pos rfl,e]
    rfl
   rw [this]
   simpa using O
  ·cases O⟩
def eU(x:Nat)(a:R):Prop:=∀ y,a=some y→y.block ≠ x
theorem eU.none(x:Nat):eU x none:=fun y O=>by cases O
theorem eU.sub{x:Nat}{a:R}(s:eU x a)(m l gS:Nat):eU x (g7 a m l gS):=by
 intro y O
 unfold g7 at O
 split at O
 ·exact s y O
 ·cases a with
  | none=>cases O
  | some C=>
   simp only [Option.map_some,Option.some.injEq] at O
   rw [← O,rS];exact s C rfl
theorem bU.aJ{x:Nat}{Z K:V}{a:R}{c:Nat}{S:List Nat}(C:bU Z a c S)(s:eU x a)(U:aV x Z K):bU K a c S:=
 ⟨C.len,C.cap,C.words,fun T aK=>by
  obtain⟨y,O,g⟩:=C.at_ T aK
  refine⟨y,O,?_⟩
  have b:=tS g
  rw [rR (U.pre _ b (by rw [rS];exact s y O))];exact g⟩
theorem eX.aJ{x N:Nat}{Z K:V}{S:List Nat}(s:eX Z N S)(a:N ≠ x)(U:aV x Z K):eX K N S:=by
 obtain⟨O,g⟩:=s.at_
 exact⟨s.len,s.words,O,by rw [U.pre N s.lt a];exact g⟩
theorem bU.off{Z:V}{a:R}{c:Nat}{S:List Nat}(C:bU Z a c S){x:Nat}(e:Z.size≤x):S=[]∨eU x a:=by
 cases S with
 | nil=>exact Or.inl rfl
 | cons Q S=>
  obtain⟨y,O,g⟩:=C.at_ 0 (by simp)
  have d:=tS g
  rw [rS] at d
  refine Or.inr fun f b=>?_
  rw [O] at b;cases b;omega
def eB(Z:V)(N:Nat)(S:List Nat):Prop:=∃ rest,eX Z N (S ++ rest)
theorem eX.z5{Z:V}{N:Nat}{S:List Nat}(s:eX Z N S):eB Z N S:=⟨[],by rw [List.append_nil];exact s⟩
theorem eB.words{Z:V}{N:Nat}{S:List Nat}(s:eB Z N S):Words S:=fun Q a=>by
 obtain⟨C,s⟩:=s;exact s.words Q (List.mem_append_left _ a)
theorem eB.len{Z:V}{N:Nat}{S:List Nat}(s:eB Z N S):S.length≤35184372088828:=by
 obtain⟨C,s⟩:=s;have:=s.len;rw [List.length_append] at this;omega
theorem eB.lt{Z:V}{N:Nat}{S:List Nat}(s:eB Z N S):N < Z.size:=by obtain⟨C,s⟩:=s;exact s.lt
theorem eB.take{Z:V}{N:Nat}{S:List Nat}(s:eB Z N S)(n:Nat):eB Z N (S.take n):=by
 obtain⟨C,s⟩:=s
 exact⟨S.drop n ++ C,by rw [← List.append_assoc,List.take_append_drop];exact s⟩
theorem eB.aJ{x N:Nat}{Z K:V}{S:List Nat}(s:eB Z N S)(a:N ≠ x)(U:aV x Z K):eB K N S:=by
 obtain⟨C,s⟩:=s;exact⟨C,s.aJ a U⟩
theorem eB.I{N:Nat}{Z K:V}{S:List Nat}(s:eB Z N S)(U:a2 Z K):eB K N S:=by
 obtain⟨C,s⟩:=s;exact⟨C,s.I U⟩
theorem eB.word{Z:V}{N:Nat}{S:List Nat}(s:eB Z N S)(T:Nat):S.getD T 0 < 18446744073709551616:=tT s.words T
theorem eB.rd{Z:V}{N c:Nat}{S:List Nat}(s:eB Z N S)(a:S.length≤c):bU Z (some ⟨N,0,none⟩) c S:=by
 refine⟨s.len,a,s.words,fun T aK=>⟨_,rfl,?_⟩⟩
 obtain⟨C,s⟩:=s
 rw [aT,s.cell (by rw [List.length_append];omega)]
 have O:(S ++ C).getD T 0=S.getD T 0:=by simp [List.getD,List.getElem?_append_left aK]
 rw [O]
theorem eB.set{Z:V}{N:Nat}{S:List Nat}(s:eB Z N S){M v:Nat}(a:M < S.length)(a1:v < 18446744073709551616):eB (e5 Z ⟨N,M,none⟩ (gD v)) N (S.set M v):=by
 obtain⟨C,s⟩:=s
 refine⟨C,?_⟩
 have:=s.set M a1
 rw [List.set_append_left _ _ a] at this;exact this
theorem qM{Z:V}{N l:Nat}{S:List Nat}(s:eB Z N S){T:Int}{M:Nat}(aK:T=(M:Int))(a:l=S.length)(b:M < S.length){Q:Int}{v:Nat}(c:Q=(v:Int))(a1:v < 18446744073709551616){A:V→Prop}
  (g:eB (e5 Z ⟨N,M,none⟩ (gD v)) N (S.set M v)→aV N Z (e5 Z ⟨N,M,none⟩ (gD v))→A (e5 Z ⟨N,M,none⟩ (gD v))):cC (some ⟨N,0,none⟩) l T 1 fun x=>bI Z x (.int .u64 Q) A:=by
 subst aK;subst c;subst a
 have d:=g (s.set b a1) (aV.set _ _ _ _)
 obtain⟨C,s⟩:=s
 refine⟨⟨by omega,by omega⟩,?_⟩
 show bI Z ((⟨N,0,none⟩:Addr).add ((M:Int).toNat*1)) _ _
 have e:(M:Int).toNat*1=M:=by omega
 rw [e,aT]
 exact⟨⟨⟨_,s.cell (by rw [List.length_append];omega)⟩,s.frozen M⟩,d⟩
theorem wL{a:R}{l c:Nat}{Q k:Int}{n:Nat}(b:Q=(n:Int))(d:k=(n:Int))(e:n≤c){A:R→Nat→Nat→Prop}(g:A a n n):gT 1 a l c none (some (.int .i64 Q)) (some (.int .i64 k)) A:=by
 subst b;subst d
 show(0≤(n:Int)∧(n:Int)≤(c:Int))∧(0≤(n:Int)∧(n:Int)≤(((n:Int).toNat:Nat):Int))∧A (g7 a (n:Int).toNat 0 1) ((n:Int).toNat - 0) ((n:Int).toNat - 0)
 refine⟨⟨by omega,by omega⟩,⟨by omega,by omega⟩,?_⟩
 have O:g7 a (n:Int).toNat 0 1=a:=by
  unfold g7
  split
  ·rfl
  ·cases a <;> simp [Addr.add]
 rw [O];simpa using g
theorem z6{a:R}{l c:Nat}{Q k a5:Int}{m n:Nat}(b:Q=(m:Int))(d:k=(n:Int))(e:a5=(n:Int))(f:m≤n)(h:n≤c){A:R→Nat→Nat→Prop}(g:A (g7 a n m 1) (n - m) (n - m)):gT 1 a l c (some (.int .i64 Q)) (some (.int .i64 k)) (some (.int .i64 a5)) A:=by
 subst b;subst d;subst e
 show(0≤(n:Int)∧(n:Int)≤(c:Int))∧(0≤(n:Int)∧(n:Int)≤(((n:Int).toNat:Nat):Int))∧(0≤(m:Int)∧(m:Int)≤(((n:Int).toNat:Nat):Int))∧A (g7 a (n:Int).toNat (m:Int).toNat 1) ((n:Int).toNat - (m:Int).toNat) ((n:Int).toNat - (m:Int).toNat)
 refine⟨⟨by omega,by omega⟩,⟨by omega,by omega⟩,⟨by omega,by omega⟩,?_⟩
 simpa using g
theorem jQ:∀ {aF:List Nat} {M v:Nat},M < aF.length→val (aF.set M v)+aF.getD M 0*2 ^ (64*M)=val aF+v*2 ^ (64*M)
 | [],_,_,Z=>absurd Z (by simp)
 | a5 :: aF,0,v,_=>by simp [val];omega
 | a5 :: aF,M+1,v,Z=>by
  have bD:=jQ (aF:=aF) (M:=M) (v:=v) (by simpa using Z)
  have O:2 ^ (64*(M+1))=18446744073709551616*2 ^ (64*M):=by
   rw [show 64*(M+1)=64+64*M by omega,Nat.pow_add]
  simp only [List.set_cons_succ,val,List.getD_cons_succ,O]
  have b:aF.getD M 0*(18446744073709551616*2 ^ (64*M))=18446744073709551616*(aF.getD M 0*2 ^ (64*M)):=Nat.mul_left_comm _ _ _
  have c:v*(18446744073709551616*2 ^ (64*M))=18446744073709551616*(v*2 ^ (64*M)):=Nat.mul_left_comm _ _ _
  rw [b,c]
  generalize aF.getD M 0*2 ^ (64*M)=a at *
  generalize v*2 ^ (64*M)=N at *
  omega
theorem h3(M:Nat):2 ^ (64*(M+1))=18446744073709551616*2 ^ (64*M):=by
 rw [show 64*(M+1)=64+64*M by omega,Nat.pow_add]
theorem tZ{a7 a b a5 jB c c1 y C P:Nat}(aI:jB+a7*c1=y+c+a5)(i:b+a5*P=a+jB*P):b+(C+c1)*(a7*P)=a+(y+a7*C+c)*P:=by
 have d:(jB+a7*c1)*P=(y+c+a5)*P:=by rw [aI]
 have e:(jB+a7*c1)*P=jB*P+a7*c1*P:=Nat.add_mul _ _ _
 have f:(y+c+a5)*P=y*P+c*P+a5*P:=by rw [Nat.add_mul,Nat.add_mul]
 have g:(C+c1)*(a7*P)=a7*C*P+a7*c1*P:=by rw [Nat.add_mul,Nat.mul_left_comm C,Nat.mul_left_comm c1,Nat.mul_assoc,Nat.mul_assoc]
 have h:(y+a7*C+c)*P=y*P+a7*C*P+c*P:=by rw [Nat.add_mul,Nat.add_mul]
 rw [g,h];rw [e,f] at d
 omega
theorem z7{a7 a b a5 jB s eG b7 C P cG:Nat}(aI:jB+b7+s=a5+a7*eG)(h:b+a5*P=a+jB*P)(Z:a=cG+(b7+a7*C+s)*P):b=cG+(C+eG)*(a7*P):=by
 have c:(jB+b7+s)*P=(a5+a7*eG)*P:=by rw [aI]
 have d:(jB+b7+s)*P=jB*P+b7*P+s*P:=by rw [Nat.add_mul,Nat.add_mul]
 have e:(a5+a7*eG)*P=a5*P+a7*eG*P:=Nat.add_mul _ _ _
 have f:(C+eG)*(a7*P)=a7*C*P+a7*eG*P:=by rw [Nat.add_mul,Nat.mul_left_comm C,Nat.mul_left_comm eG,Nat.mul_assoc,Nat.mul_assoc]
 have g:(b7+a7*C+s)*P=b7*P+a7*C*P+s*P:=by rw [Nat.add_mul,Nat.add_mul]
 rw [f];rw [d,e] at c;rw [g] at Z
 omega
theorem jI(S:List Nat)(T:Nat):val (S.drop T)=S.getD T 0+18446744073709551616*val (S.drop (T+1)):=by
 by_cases Z:T < S.length
 ·rw [gU Z];rfl
 ·rw [List.drop_of_length_le (by omega),List.drop_of_length_le (by omega)]
  simp [val,List.getD,show S.length≤T by omega]
theorem wM{aF:List Nat}{cG P T:Nat}(a:P=2 ^ (64*T))(Z:P≤cG)(b:cG < 2 ^ (64*aF.length)):T < aF.length:=by
 subst a
 refine Nat.lt_of_not_le fun c=>?_
 have:2 ^ (64*aF.length)≤2 ^ (64*T):=Nat.pow_le_pow_right (by decide) (by omega)
 omega
theorem o7(m:Nat):val (List.replicate m 0)=0:=by
 induction m with
 | zero=>rfl
 | succ m bD=>rw [List.replicate_succ];simp [val,bD]
end Go.Gv
namespace Go.Gv.D
def val:List Nat→Nat
 | []=>0
 | Q :: S=>Q+4294967296*val S
def z(n:Nat):List Nat:=if Z:n=0 then [] else n % 4294967296 :: z (n / 4294967296)
 termination_by n
 decreasing_by omega
def Words(S:List Nat):Prop:=∀ Q ∈ S,Q < 4294967296
theorem Words.cons{Q:Nat}{S:List Nat}(Z:Words (Q :: S)):Q < 4294967296∧Words S:=⟨Z Q (by simp),fun k a=>Z k (by simp [a])⟩
theorem cP:z 0=[]:=by unfold z;simp
theorem jP{n:Nat}(Z:n ≠ 0):z n=n % 4294967296 :: z (n / 4294967296):=by
 rw [z];simp [Z]
theorem nU(n:Nat):Words (z n):=by
 induction n using Nat.strongRecOn with
 | ind n bD=>
  by_cases Z:n=0
  ·subst Z;rw [cP];intro Q a;cases a
  ·rw [jP Z];intro Q a
   rcases List.mem_cons.mp a with O | O
   ·omega
   ·exact bD _ (by omega) Q O
theorem dZ(n:Nat):val (z n)=n:=by
 induction n using Nat.strongRecOn with
 | ind n bD=>
  by_cases Z:n=0
  ·subst Z;rw [cP];rfl
  ·rw [jP Z];show n % _+_*val (z _)=n
   rw [bD _ (by omega)];omega
theorem mP{S:List Nat}:cV S=[]↔val S=0:=by
 induction S with
 | nil=>simp [cV,val]
 | cons Q S bD=>
  simp only [cV,val]
  split
  ·next Z=>simp only [true_iff];have:=bD.mp Z.2;omega
  ·next Z=>
   simp only [reduceCtorEq,false_iff]
   intro O
   exact Z ⟨by omega,bD.mpr (by omega)⟩
theorem kT{S:List Nat}(a:Words S):z (val S)=cV S:=by
 induction S with
 | nil=>simp [val,cV,cP]
 | cons Q S bD=>
  have b:=a.cons
  simp only [cV,val]
  split
  ·next Z=>rw [Z.1,mP.mp Z.2];exact cP
  ·next Z=>
   have c:Q+4294967296*val S ≠ 0:=fun O=>Z ⟨by omega,mP.mpr (by omega)⟩
   rw [jP c]
   have d:(Q+4294967296*val S) % 4294967296=Q:=by omega
   have e:(Q+4294967296*val S) / 4294967296=val S:=by omega
   rw [d,e,bD b.2]
theorem nV(S:List Nat):val (cV S)=val S:=by
 induction S with
 | nil=>rfl
 | cons Q S bD=>
  simp only [cV]
  split
  ·next Z=>simp only [val];rw [Z.1,mP.mp Z.2]
  ·simp only [val];rw [bD]
theorem o3(n:Nat):cV (z n)=z n:=by rw [← kT (nU n),dZ]
theorem lW{n m:Nat}(Z:n≤m):(z n).length≤(z m).length:=by
 induction m using Nat.strongRecOn generalizing n with
 | ind m bD=>
  by_cases a:n=0
  ·subst a;rw [cP];simp
  ·rw [jP a,jP (n:=m) (by omega)]
   simp only [List.length_cons]
   exact Nat.succ_le_succ (bD (m / 4294967296) (by omega) (Nat.div_le_div_right Z))
theorem tW(w:List Nat):val w=w.headD 0+4294967296*val w.tail:=by cases w <;> simp [val]
theorem o4:∀ {S w:List Nat} {M:Nat},Words S→Words w→S.length=w.length→M < S.length→S.drop (M+1)=w.drop (M+1)→S.getD M 0 < w.getD M 0→val S < val w
 | [],_,_,_,_,_,a,_,_=>absurd a (by simp)
 | Q :: S,[],_,_,_,b,_,_,_=>absurd b (by simp)
 | Q :: S,k :: w,0,c,d,b,a,e,Z=>by
  have O:S=w:=by simpa using e
  subst O
  simp only [List.getD_cons_zero] at Z
  simp only [val];omega
 | Q :: S,k :: w,M+1,c,d,b,a,e,Z=>by
  have:=o4 (S:=S) (w:=w) (M:=M) c.cons.2 d.cons.2 (by simpa using b) (by simpa using a) (by simpa using e) (by simpa using Z)
  have aI:=c.cons.1
  have f:=d.cons.1
  simp only [val];omega
theorem nW:∀ {S w:List Nat},Words S→cV w=w→S.length < w.length→val S < val w
 | _,[],_,_,Z=>absurd Z (by simp)
 | [],k :: w,_,a,_=>by
  have:val (k :: w) ≠ 0:=fun O=>by rw [mP.mpr O] at a;cases a
  simp only [val] at this ⊢;omega
 | Q :: S,k :: w,b,a,Z=>by
  have:=nW (S:=S) (w:=w) b.cons.2 (z0 a) (by simpa using Z)
  have aI:=b.cons.1
  simp only [val];omega
theorem gO(S w:List Nat):val (S ++ w)=val S+2 ^ (32*S.length)*val w:=by
 induction S with
 | nil=>simp [val]
 | cons Q S bD=>
  simp only [List.cons_append,val,bD,List.length_cons]
  have O:2 ^ (32*(S.length+1))=4294967296*2 ^ (32*S.length):=by
   rw [show 32*(S.length+1)=32+32*S.length by omega,Nat.pow_add]
  rw [O,Nat.mul_add,Nat.mul_assoc];omega
theorem gE{S:List Nat}(a:Words S):val S < 2 ^ (32*S.length):=by
 induction S with
 | nil=>simp [val]
 | cons Q S bD=>
  have O:2 ^ (32*(S.length+1))=4294967296*2 ^ (32*S.length):=by
   rw [show 32*(S.length+1)=32+32*S.length by omega,Nat.pow_add]
  rw [List.length_cons,O];simp only [val]
  have aI:=a.cons.1
  have b:=bD a.cons.2
  omega
theorem r0{S:List Nat}(a:Words S){n:Nat}(b:S.length=n+1)(o:S.getD n 0 ≠ 0):dK (val S)=32*n+dK (S.getD n 0):=by
 have O:S=S.take n ++ [S.getD n 0]:=by rw [← lV (by omega),← b,List.take_length]
 have a1:val S=val (S.take n)+2 ^ (32*n)*S.getD n 0:=by
  conv=>lhs;rw [O]
  rw [gO];simp [val,show min n S.length=n by omega]
 have c:val (S.take n) < 2 ^ (32*n):=by
  have:=gE (S:=S.take n) (fun Q d=>a Q (List.mem_of_mem_take d))
  rwa [List.length_take,show min n S.length=n by omega] at this
 have e:val S / 2 ^ (32*n)=S.getD n 0:=by
  rw [a1,Nat.add_mul_div_left _ _ (Nat.pow_pos (by decide)),Nat.div_eq_of_lt c,Nat.zero_add]
 have:=o5 (val S) (32*n)
 rw [e] at this
 have:=lY o
 omega
theorem e2{n U:Nat}:(z n).length≤U↔n < 2 ^ (32*U):=by
 constructor
 ·intro Z
  have:=gE (nU n)
  rw [dZ] at this
  exact Nat.lt_of_lt_of_le this (Nat.pow_le_pow_right (by decide) (by omega))
 ·intro Z
  induction U generalizing n with
  | zero=>
   have:n=0:=by simpa using Z
   subst this;rw [cP];simp
  | succ U bD=>
   by_cases o:n=0
   ·subst o;rw [cP];simp
   ·rw [jP o,List.length_cons]
    have O:2 ^ (32*(U+1))=2 ^ (32*U)*4294967296:=by
     rw [show 32*(U+1)=32*U+32 by omega,Nat.pow_add]
    rw [O] at Z
    have:=bD (n:=n / 4294967296) (Nat.div_lt_of_lt_mul (by rw [Nat.mul_comm];exact Z))
    omega
theorem wI{aH aY U:Nat}(a:(z aH).length≤U)(b:(z aY).length≤U):(z (aH+aY)).length≤U+1:=by
 refine e2.mpr ?_
 have aI:=e2.mp a
 have c:=e2.mp b
 have O:2 ^ (32*(U+1))=2 ^ (32*U)*4294967296:=by
  rw [show 32*(U+1)=32*U+32 by omega,Nat.pow_add]
 rw [O];generalize 2 ^ (32*U)=y at *;omega
theorem tY{v:Nat}(U:Nat):dK v≤32*U↔(z v).length≤U:=by
 rw [e2,hH]
theorem jA{S:List Nat}(a:Words S)(m:Nat):val (S.drop m)=val S / 2 ^ (32*m):=by
 by_cases b:m≤S.length
 ·have O:val S=val (S.take m)+2 ^ (32*m)*val (S.drop m):=by
   conv=>lhs;rw [← List.take_append_drop m S]
   rw [gO,List.length_take,Nat.min_eq_left b]
  have c:=gE (S:=S.take m) (fun Q d=>a Q (List.mem_of_mem_take d))
  rw [List.length_take,Nat.min_eq_left b] at c
  rw [O,Nat.add_mul_div_left _ _ (Nat.pow_pos (by decide)),Nat.div_eq_of_lt c,Nat.zero_add]
 ·rw [List.drop_of_length_le (by omega)]
  have:=gE a
  have e:2 ^ (32*S.length)≤2 ^ (32*m):=Nat.pow_le_pow_right (by decide) (by omega)
  rw [Nat.div_eq_of_lt (by omega)];rfl
theorem j8{U:Nat}(a:U < 32):2 ^ U*2 ^ (32 - U)=4294967296:=by
 rw [← Nat.pow_add,show U+(32 - U)=32 by omega]
theorem z3{S:List Nat}(b:Words S){m U:Nat}(c:m < S.length)(d:U < 32):val (S.take m ++ [S.getD m 0 % 2 ^ U])=val S % 2 ^ (32*m+U):=by
 have O:val S=val (S.take m)+2 ^ (32*m)*val (S.drop m):=by
  conv=>lhs;rw [← List.take_append_drop m S]
  rw [gO,List.length_take,Nat.min_eq_left (by omega)]
 have a:=gE (S:=S.take m) (fun Q e=>b Q (List.mem_of_mem_take e))
 rw [List.length_take,Nat.min_eq_left (by omega)] at a
 rw [gO,List.length_take,Nat.min_eq_left (by omega),Nat.pow_add,Nat.mod_mul,O,Nat.add_mul_mod_self_left,Nat.mod_eq_of_lt a,Nat.add_mul_div_left _ _ (Nat.pow_pos (by decide)),Nat.div_eq_of_lt a,Nat.zero_add,gU c]
 simp only [val,Nat.mul_zero,Nat.add_zero]
 congr 2
 rw [← j8 d,Nat.mul_assoc,Nat.add_mul_mod_self_left]
theorem jQ:∀ {aF:List Nat} {M v:Nat},M < aF.length→val (aF.set M v)+aF.getD M 0*2 ^ (32*M)=val aF+v*2 ^ (32*M)
 | [],_,_,Z=>absurd Z (by simp)
 | a5 :: aF,0,v,_=>by simp [val];omega
 | a5 :: aF,M+1,v,Z=>by
  have bD:=jQ (aF:=aF) (M:=M) (v:=v) (by simpa using Z)
  have O:2 ^ (32*(M+1))=4294967296*2 ^ (32*M):=by
   rw [show 32*(M+1)=32+32*M by omega,Nat.pow_add]
  simp only [List.set_cons_succ,val,List.getD_cons_succ,O]
  have b:aF.getD M 0*(4294967296*2 ^ (32*M))=4294967296*(aF.getD M 0*2 ^ (32*M)):=Nat.mul_left_comm _ _ _
  have c:v*(4294967296*2 ^ (32*M))=4294967296*(v*2 ^ (32*M)):=Nat.mul_left_comm _ _ _
  rw [b,c]
  generalize aF.getD M 0*2 ^ (32*M)=a at *
  generalize v*2 ^ (32*M)=N at *
  omega
theorem h3(M:Nat):2 ^ (32*(M+1))=4294967296*2 ^ (32*M):=by
 rw [show 32*(M+1)=32+32*M by omega,Nat.pow_add]
theorem jI(S:List Nat)(T:Nat):val (S.drop T)=S.getD T 0+4294967296*val (S.drop (T+1)):=by
 by_cases Z:T < S.length
 ·rw [gU Z];rfl
 ·rw [List.drop_of_length_le (by omega),List.drop_of_length_le (by omega)]
  simp [val,List.getD,show S.length≤T by omega]
theorem wM{aF:List Nat}{cG P T:Nat}(a:P=2 ^ (32*T))(Z:P≤cG)(b:cG < 2 ^ (32*aF.length)):T < aF.length:=by
 subst a
 refine Nat.lt_of_not_le fun c=>?_
 have:2 ^ (32*aF.length)≤2 ^ (32*T):=Nat.pow_le_pow_right (by decide) (by omega)
 omega
theorem o7(m:Nat):val (List.replicate m 0)=0:=by
 induction m with
 | zero=>rfl
 | succ m bD=>rw [List.replicate_succ];simp [val,bD]
end Go.Gv.D
namespace Go.Gv
structure jC(cS:Type) where
 e0:cS→Value
 ok:cS→Prop
 eF:Nat
 plain:∀ Q,kQ (e0 Q)=true
def dB:jC Nat:=⟨fun Q=>.int .u64 (Q:Int),fun Q=>Q < 18446744073709551616,35184372088828,fun _=>rfl⟩
def bR:jC Nat:=⟨fun Q=>.int .u32 (Q:Int),fun Q=>Q < 4294967296,70368744177656,fun _=>rfl⟩
def z8:jC Nat:=⟨fun Q=>.int .u8 (Q:Int),fun Q=>Q < 256,281474976710656,fun _=>rfl⟩
instance (Q:Nat):Decidable (dB.ok Q):=inferInstanceAs (Decidable (Q < 18446744073709551616))
instance (Q:Nat):Decidable (bR.ok Q):=inferInstanceAs (Decidable (Q < 4294967296))
instance (Q:Nat):Decidable (z8.ok Q):=inferInstanceAs (Decidable (Q < 256))
theorem k9:bR.ok 0:=(by decide:0 < 4294967296)
abbrev nX:=Option Addr × Nat × Nat
variable {cS:Type} {E:jC cS}
structure b4(E:jC cS)(Z:V)(a:R)(c:Nat)(S:List cS):Prop where
 len:S.length≤E.eF
 cap:S.length≤c
 ok:∀ Q ∈ S,E.ok Q
 at_:∀ T Q,S[T]?=some Q→∃ y,a=some y∧fQ Z (y.add T)=some (E.e0 Q)
theorem b4.I{Z K:V}{a:R}{c:Nat}{S:List cS}(C:b4 E Z a c S)(U:a2 Z K):b4 E K a c S:=
 ⟨C.len,C.cap,C.ok,fun T Q aK=>let ⟨y,O,g⟩:=C.at_ T Q aK;⟨y,O,U.cell g⟩⟩
theorem b4.nil(Z:V)(a:R)(c:Nat):b4 E Z a c []:=⟨by simp,by simp,by simp,fun T Q aK=>by simp at aK⟩
theorem b4.take{Z:V}{a:R}{c:Nat}{S:List cS}(C:b4 E Z a c S)(n:Nat):b4 E Z a c (S.take n):=by
 refine⟨?_,?_,fun Q b=>C.ok Q (List.mem_of_mem_take b),fun T Q aK=>?_⟩
 ·have:=C.len;rw [List.length_take];omega
 ·have:=C.cap;rw [List.length_take];omega
 ·rw [List.getElem?_take] at aK
  split at aK
  ·exact C.at_ T Q aK
  ·cases aK
theorem b4.drop{Z:V}{a:R}{c m:Nat}{S:List cS}(C:b4 E Z a c S)(n:Nat)(d:n≤S.length)(e:S.length≤m):b4 E Z (g7 a m n 1) (m - n) (S.drop n):=by
 have aI:=C.len;have f:=C.cap
 refine⟨?_,?_,fun Q b=>C.ok Q (List.mem_of_mem_drop b),fun T Q aK=>?_⟩
 ·rw [List.length_drop];omega
 ·rw [List.length_drop];omega
 ·rw [List.getElem?_drop] at aK
  obtain⟨y,O,g⟩:=C.at_ (n+T) Q aK
  have h:=(List.getElem?_eq_some_iff.mp aK).1
  refine⟨y.add n,?_,by rw [add_add];exact g⟩
  rw [O];unfold g7
  rw [if_neg (by omega)];simp
theorem z9{Z:V}{a:R}{c l:Nat}{S:List cS}(C:b4 E Z a c S){T:Int}{M:Nat}(aK:T=(M:Int))(d:l=S.length){Q:cS}(b:S[M]?=some Q){A:Value→Prop}
  (g:A (E.e0 Q)):cC a l T 1 fun x=>gI Z x A:=by
 subst aK;subst d
 obtain⟨y,O,e⟩:=C.at_ M Q b
 have h:=(List.getElem?_eq_some_iff.mp b).1
 subst O
 refine⟨⟨by omega,by omega⟩,?_⟩
 show gI Z (y.add ((M:Int).toNat*1)) _
 have f:(M:Int).toNat*1=M:=by omega
 rw [f]
 unfold gI;rw [e];exact g
theorem getD_some{S:List Nat}{M:Nat}(a:M < S.length):S[M]?=some (S.getD M 0):=by simp [List.getD,a]
theorem hM{Z:V}{a:R}{c l:Nat}{S:List Nat}(C:b4 bR Z a c S){T:Int}{M:Nat}(aK:T=(M:Int))(b:l=S.length)(d:M < S.length){A:Int→Prop}
  (g:A (S.getD M 0:Nat)):cC a l T 1 fun x=>gI Z x fun v=>aC .u32 v A:=
 z9 C aK b (getD_some d) g
theorem DH{Z:V}{a:R}{c l:Nat}{S:List Nat}(C:b4 dB Z a c S){T:Int}{M:Nat}(aK:T=(M:Int))(b:l=S.length)(d:M < S.length){A:Int→Prop}
  (g:A (S.getD M 0:Nat)):cC a l T 1 fun x=>gI Z x fun v=>aC .u64 v A:=
 z9 C aK b (getD_some d) g
theorem b4.uA{Z:V}{a:R}{c:Nat}{S:List Nat}(C:b4 dB Z a c S):bU Z a c S:=
 ⟨C.len,C.cap,C.ok,fun T aK=>C.at_ T _ (getD_some aK)⟩
structure c0(E:jC cS)(Z:V)(N:Nat)(aF:List cS):Prop where
 ok:∀ Q ∈ aF,E.ok Q
 at_:∃ O,Z[N]?=some (.cells (aF.map E.e0).toArray O (0,0))
theorem c0.lt{Z:V}{N:Nat}{aF:List cS}(s:c0 E Z N aF):N < Z.size:=by
 obtain⟨O,g⟩:=s.at_;exact(Array.getElem?_eq_some_iff.mp g).1
theorem c0.cell{Z:V}{N:Nat}{aF:List cS}(s:c0 E Z N aF){T:Nat}{Q:cS}(aK:aF[T]?=some Q):fQ Z ⟨N,T,none⟩=some (E.e0 Q):=by
 obtain⟨O,g⟩:=s.at_
 unfold fQ
 simp only [g,Option.isSome_none,Bool.false_eq_true,if_false]
 simp [aK]
theorem c0.frozen{Z:V}{N:Nat}{aF:List cS}(s:c0 E Z N aF)(T:Nat):j5 Z ⟨N,T,none⟩=false:=by
 obtain⟨O,g⟩:=s.at_
 unfold j5
 simp [g]
theorem c0.wN{Z:V}{N off n c:Nat}{aF:List cS}(s:c0 E Z N aF)(b:n≤E.eF)(d:off+n≤aF.length)(e:n≤c):b4 E Z (some ⟨N,off,none⟩) c ((aF.drop off).take n):=by
 refine⟨by rw [List.length_take];omega,by rw [List.length_take];omega,fun Q a=>s.ok Q (List.mem_of_mem_drop (List.mem_of_mem_take a)),fun T Q aK=>⟨_,rfl,?_⟩⟩
 rw [List.getElem?_take] at aK
 split at aK
 ·rw [List.getElem?_drop] at aK
  have O:(⟨N,off,none⟩:Addr).add T=⟨N,off+T,none⟩:=by
   rw [← aT N off,add_add,aT]
  rw [O];exact s.cell aK
 ·cases aK
theorem c0.rd{Z:V}{N c:Nat}{S rest:List cS}(s:c0 E Z N (S ++ rest))(a:S.length≤E.eF)(b:S.length≤c):b4 E Z (some ⟨N,0,none⟩) c S:=by
 have:=s.wN (off:=0) (n:=S.length) (c:=c) a (by simp) b
 simpa using this
theorem c0.o8{Z:V}{N c:Nat}{S:List cS}(s:c0 E Z N S)(a:S.length≤E.eF)(b:S.length≤c):b4 E Z (some ⟨N,0,none⟩) c S:=
 c0.rd (rest:=[]) (by simpa using s) a b
theorem c0.set{Z:V}{N:Nat}{aF:List cS}(s:c0 E Z N aF)(T:Nat){v:cS}(a1:E.ok v):c0 E (e5 Z ⟨N,T,none⟩ (E.e0 v)) N (aF.set T v):=by
 refine⟨fun Q a=>?_,?_⟩
 ·rcases List.mem_or_eq_of_mem_set a with aI | aI
  ·exact s.ok Q aI
  ·subst aI;exact a1
 ·obtain⟨O,g⟩:=s.at_
  refine⟨O,?_⟩
  unfold e5
  rw [Array.getElem?_modify]
  simp only [if_true,g,Option.map_some]
  simp [List.map_set]
theorem c0.I{Z K:V}{N:Nat}{aF:List cS}(s:c0 E Z N aF)(U:a2 Z K):c0 E K N aF:=by
 obtain⟨O,g⟩:=s.at_
 exact⟨s.ok,O,by rw [U.pre N s.lt];exact g⟩
theorem c0.aJ{x:Nat}{Z K:V}{N:Nat}{aF:List cS}(s:c0 E Z N aF)(a:N ≠ x)(U:aV x Z K):c0 E K N aF:=by
 obtain⟨O,g⟩:=s.at_
 exact⟨s.ok,O,by rw [U.pre N s.lt a];exact g⟩
theorem wO{Z:V}{N l off:Nat}{aF:List cS}(s:c0 E Z N aF){T:Int}{M:Nat}(aK:T=(M:Int))(d:M < l)(e:off+M < aF.length){Q:Value}{v:cS}(a:Q=E.e0 v)(a1:E.ok v){A:V→Prop}
  (g:c0 E (e5 Z ⟨N,off+M,none⟩ (E.e0 v)) N (aF.set (off+M) v)→aV N Z (e5 Z ⟨N,off+M,none⟩ (E.e0 v))→A (e5 Z ⟨N,off+M,none⟩ (E.e0 v))):cC (some ⟨N,off,none⟩) l T 1 fun x=>bI Z x Q A:=by
 subst aK;subst a
 refine⟨⟨by omega,by omega⟩,?_⟩
 show bI Z ((⟨N,off,none⟩:Addr).add ((M:Int).toNat*1)) _ _
 have b:(M:Int).toNat*1=M:=by omega
 have O:(⟨N,off,none⟩:Addr).add M=⟨N,off+M,none⟩:=by
  rw [← aT N off,add_add,aT]
 rw [b,O]
 obtain⟨L,c⟩:∃ L,aF[off+M]?=some L:=⟨aF[off+M],by simp⟩
 exact⟨⟨⟨_,s.cell c⟩,s.frozen _⟩,g (s.set _ a1) (aV.set _ _ _ _)⟩
theorem uB{Z:V}{N l:Nat}{aF:List cS}(s:c0 E Z N aF){T:Int}{M:Nat}(aK:T=(M:Int))(a:M < l)(b:M < aF.length){Q:Value}{v:cS}(c:Q=E.e0 v)(a1:E.ok v){A:V→Prop}
  (g:c0 E (e5 Z ⟨N,M,none⟩ (E.e0 v)) N (aF.set M v)→aV N Z (e5 Z ⟨N,M,none⟩ (E.e0 v))→A (e5 Z ⟨N,M,none⟩ (E.e0 v))):cC (some ⟨N,0,none⟩) l T 1 fun x=>bI Z x Q A:=by
 have O:0+M=M:=Nat.zero_add M
 refine wO (off:=0) s aK a (by rw [O];exact b) c a1 ?_
 rw [O];exact g
theorem m9{Z:V}{O:TypeId}{T:c2}{n m:Int}(E:jC cS)(a5:cS)(a N:Nat)(d:T.aF=[E.e0 a5])(ok:E.ok a5)(b:Nat)(c:T.bytes=b)(i:1≤b)(e:n=(a:Int))(f:m=(N:Int))(j:a≤N)(l:b*N≤281474976710656){A:Addr→V→Prop}
  (g:∀ K,c0 E K Z.size (List.replicate N a5)→a2 Z K→A ⟨Z.size,0,none⟩ K):g1 Z O T n m A:=by
 subst e;subst f;subst c
 refine⟨⟨by omega,by omega,by omega,?_⟩,g _ ⟨?_,O,?_⟩ ⟨by simp,fun N c=>?_⟩⟩
 ·have:((T.bytes:Int)*(N:Int))=((T.bytes*N:Nat):Int):=by simp
  rw [this];omega
 ·intro Q h;rw [List.eq_of_mem_replicate h];exact ok
 ·rw [d,wC];simp
 ·rw [Array.getElem?_push];rw [if_neg (by omega)]
theorem uC{Z:V}{O:TypeId}{cT:List Value}(E:jC cS)(S:List cS)(a:cT=S.map E.e0)(b:∀ Q ∈ S,E.ok Q){A:Addr→V→Prop}
  (g:∀ K,c0 E K Z.size S→a2 Z K→A ⟨Z.size,0,none⟩ K):cU Z O cT A:=by
 subst a
 refine g _ ⟨b,O,?_⟩ ⟨by simp,fun N c=>?_⟩
 ·simp
 ·rw [Array.getElem?_push];rw [if_neg (by omega)]
theorem Aa{Z:V}{y:Addr}:∀ {bN:List cS} {T:Nat},(∀ M Q,bN[M]?=some Q→fQ Z (y.add (T+M))=some (E.e0 Q))→mE Z y T (bN.map E.e0)
 | [],_,_=>trivial
 | v :: bN,T,g=>by
  refine⟨by have:=g 0 v (by simp);simpa using this,Aa fun M Q a=>?_⟩
  have:=g (M+1) Q (by simpa using a)
  rw [show T+1+M=T+(M+1) by omega];exact this
theorem wP{Z:V}{y:Addr}:∀ {n T:Nat},(∀ M,M < n→(∃ v,fQ Z (y.add (T+M))=some v)∧j5 Z (y.add (T+M))=false)→mF Z y T n
 | 0,_,_=>trivial
 | n+1,T,g=>by
  refine⟨by have:=g 0 (by omega);simpa using this,wP fun M a=>?_⟩
  have:=g (M+1) (by omega)
  rw [show T+1+M=T+(M+1) by omega];exact this
theorem wQ{N:Nat}:∀ {bN:List cS} {Z:V} {aF:List cS} {off T:Nat},c0 E Z N aF→(∀ Q ∈ bN,E.ok Q)→off+T+bN.length≤aF.length→
  c0 E (h2 Z ⟨N,off,none⟩ T (bN.map E.e0)) N (aF.take (off+T) ++ (bN ++ aF.drop (off+T+bN.length)))∧aV N Z (h2 Z ⟨N,off,none⟩ T (bN.map E.e0))
 | [],Z,aF,off,T,s,_,a=>by
  refine⟨?_,aV.refl _ _⟩
  simp only [List.map_nil,h2,List.length_nil,Nat.add_zero,List.nil_append,List.take_append_drop];exact s
 | v :: bN,Z,aF,off,T,s,a1,a=>by
  have O:(⟨N,off,none⟩:Addr).add T=⟨N,off+T,none⟩:=by
   rw [← aT N off,add_add,aT]
  simp only [List.length_cons] at a
  have b:=s.set (off+T) (a1 v (by simp))
  obtain⟨c,d⟩:=wQ (bN:=bN) (off:=off) (T:=T+1) b (fun Q e=>a1 Q (by simp [e])) (by rw [List.length_set];omega)
  simp only [List.map_cons,h2,O]
  refine⟨?_,(aV.set _ _ _ _).trans d⟩
  have f:(aF.set (off+T) v).take (off+(T+1)) ++ (bN ++ (aF.set (off+T) v).drop (off+(T+1)+bN.length))=aF.take (off+T) ++ ((v :: bN) ++ aF.drop (off+T+(v :: bN).length)):=by
   rw [show off+(T+1)=off+T+1 by omega]
   rw [List.drop_set_of_lt (by omega),List.take_set,List.take_add_one]
   have:(aF.take (off+T) ++ aF[off+T]?.toList).set (off+T) v=aF.take (off+T) ++ [v]:=by
    rw [List.set_append_right _ _ (by rw [List.length_take];omega)]
    have g:aF[off+T]?=some (aF[off+T]'(by omega)):=by simp
    rw [g]
    have h:off+T - (aF.take (off+T)).length=0:=by rw [List.length_take];omega
    rw [h];rfl
   rw [this]
   simp only [List.length_cons,List.cons_append,List.append_assoc,List.nil_append]
   rw [show off+T+1+bN.length=off+T+(bN.length+1) by omega]
  rw [← f];exact c
theorem b4.wR{Z:V}{a:R}{c l bA:Nat}{S:List cS}(C:b4 E Z a c S)(n:Nat)(f:n≤S.length):rM Z 1 (.slice a l bA) n ((S.take n).map E.e0):=by
 refine⟨by rw [List.length_map,List.length_take];omega,?_,?_⟩
 ·intro v a1
  obtain⟨Q,_,O⟩:=List.mem_map.mp a1
  subst O;exact E.plain Q
 ·cases a with
  | none=>
   show(S.take n).map E.e0=[]
   cases S with
   | nil=>simp
   | cons k w=>obtain⟨y,O,_⟩:=C.at_ 0 k (by simp);cases O
  | some y=>
   refine Aa fun M Q b=>?_
   rw [Nat.zero_add]
   obtain⟨x,d,e⟩:=(C.take n).at_ M Q b
   cases d;exact e
theorem DI{Z:V}{N l bO bA:Nat}{aF w:List cS}{a:R}(s:c0 E Z N aF)(C:b4 E Z a bA w)(i:l≤aF.length)(c:bO=w.length){d:Nat}{A:Int→V→Prop}
  (g:∀ K,c0 E K N (w.take (min w.length l) ++ aF.drop (min w.length l))→aV N Z K→A ((min w.length l:Nat):Int) K):kR Z 1 (some ⟨N,0,none⟩) l (.slice a bO d) A:=by
 subst c
 have j:Nat.min w.length l=min w.length l:=rfl
 refine⟨w.length,(w.take (min w.length l)).map E.e0,rfl,C.wR _ (by omega),?_⟩
 have b:(w.take (min w.length l)).length=min w.length l:=by rw [List.length_take];omega
 have:=wQ (bN:=w.take (min w.length l)) (off:=0) (T:=0) s (fun Q e=>C.ok Q (List.mem_of_mem_take e)) (by rw [b];omega)
 refine⟨wP fun M f=>?_,?_⟩
 ·rw [List.length_map,b] at f
  rw [Nat.zero_add,aT]
  obtain⟨L,h⟩:∃ L,aF[M]?=some L:=⟨aF[M]'(by omega),by simp⟩
  exact⟨⟨_,s.cell h⟩,s.frozen _⟩
 ·refine g _ ?_ this.2
  have aI:=this.1
  rw [b] at aI
  simpa using aI
structure cH(E:jC cS)(o Z:V)(a:R)(c:Nat)(S:List cS):Prop where
 len:S.length≤E.eF
 cap:S.length≤c
 here:(S=[]∧a=none∧c=0)∨∃ N rest,a=some ⟨N,0,none⟩∧o.size≤N∧c0 E Z N (S ++ rest)∧c≤(S ++ rest).length
theorem cH.nil(o Z:V):cH E o Z none 0 []:=⟨by simp,by simp,Or.inl ⟨rfl,rfl,rfl⟩⟩
theorem cH.rd{o Z:V}{a:R}{c:Nat}{S:List cS}(g:cH E o Z a c S):b4 E Z a c S:=by
 rcases g.here with ⟨b,d,e⟩ | ⟨N,rest,b,_,s,_⟩
 ·subst b;exact b4.nil _ _ _
 ·subst b;exact s.rd g.len g.cap
theorem cH.I{o Z K:V}{a:R}{c:Nat}{S:List cS}(g:cH E o Z a c S)(U:a2 Z K):cH E o K a c S:=
 ⟨g.len,g.cap,g.here.imp id fun ⟨N,rest,b,d,s,e⟩=>⟨N,rest,b,d,s.I U,e⟩⟩
theorem cH.from{o aI Z:V}{a:R}{c:Nat}{S:List cS}(g:cH E aI Z a c S)(U:o.size≤aI.size):cH E o Z a c S:=
 ⟨g.len,g.cap,g.here.imp id fun ⟨N,rest,b,d,s,e⟩=>⟨N,rest,b,Nat.le_trans U d,s,e⟩⟩
theorem c0.iO{o Z:V}{N c:Nat}{S rest:List cS}(s:c0 E Z N (S ++ rest))(a:o.size≤N)(b:S.length≤E.eF)(aI:S.length≤c)(d:c≤(S ++ rest).length):cH E o Z (some ⟨N,0,none⟩) c S:=
 ⟨b,aI,Or.inr ⟨N,rest,rfl,a,s,d⟩⟩
theorem c0.j9{o Z:V}{N c:Nat}{S:List cS}(s:c0 E Z N S)(a:o.size≤N)(b:S.length≤E.eF)(d:c=S.length):cH E o Z (some ⟨N,0,none⟩) c S:=
 c0.iO (rest:=[]) (by simpa using s) a b (by omega) (by simp;omega)
theorem cH.take{o Z:V}{a:R}{c:Nat}{S:List cS}(g:cH E o Z a c S)(n:Nat):cH E o Z a c (S.take n):=by
 have aI:=g.len;have f:=g.cap
 refine⟨by rw [List.length_take];omega,by rw [List.length_take];omega,?_⟩
 rcases g.here with ⟨b,d,e⟩ | ⟨N,rest,b,d,s,e⟩
 ·subst b;exact Or.inl ⟨by simp,d,e⟩
 ·refine Or.inr ⟨N,S.drop n ++ rest,b,d,?_,?_⟩
  ·rw [← List.append_assoc,List.take_append_drop];exact s
  ·rw [← List.append_assoc,List.take_append_drop];exact e
structure nY(a:R)(Z K:V):Prop where
 le:Z.size≤K.size
 pre:∀ N,N < Z.size→eU N a→K[N]?=Z[N]?
theorem nY.I{a:R}{o Z K:V}(b:a2 o Z)(U:nY a Z K)(c:∀ N,N < o.size→eU N a):a2 o K:=
 ⟨Nat.le_trans b.le U.le,fun N d=>(U.pre N (Nat.lt_of_lt_of_le d b.le) (c N d)).trans (b.pre N d)⟩
theorem cH.Ab{o Z:V}{a:R}{c:Nat}{S:List cS}(g:cH E o Z a c S):∀ N,N < o.size→eU N a:=by
 intro N f y O
 rcases g.here with ⟨_,b,_⟩ | ⟨d,rest,e,b,_,_⟩
 ·rw [b] at O;cases O
 ·rw [e] at O;cases O;show d ≠ N;omega
theorem nY.refl(a:R)(Z:V):nY a Z Z:=⟨Nat.le_refl _,fun _ _ _=>rfl⟩
theorem DJ{o Z:V}{O:TypeId}{T:c2}{a G:R}{l c bA H n:Nat}{S w:List cS}(g:cH E o Z a c S)(IA:o.size≤Z.size)(C:b4 E Z G bA w)(IB:l=S.length)(IC:n=w.length)(h:T.leaves.length=1)(a5:cS)(ID:T.aF=[E.e0 a5])(IE:E.ok a5)
  (i:Nat) (IF:T.bytes=i) (P:1≤i) (Iv:S.length+w.length≤E.eF) (j:c < S.length+w.length→(S.length+w.length)*i≤140737488355328) {A:R→Nat→Nat→V→Prop}
  (m:∀ b c1 K,cH E o K b c1 (S ++ w)→nY a Z K→(S.length+w.length≤c→c1=c∧b=a)→(b=a∨∃ N,b=some ⟨N,0,none⟩∧Z.size≤N)→A b (S.length+w.length) c1 K):g2 Z O T a l c (.slice G n H) A:=by
 subst IB;subst IC;subst IF
 have IN:=g.cap
 refine⟨w.length,w.map E.e0,rfl,?_,?_,?_⟩
 ·rw [h];have:=C.wR (l:=w.length) (bA:=H) w.length (Nat.le_refl _);rw [List.take_length] at this;exact this
 ·intro d
  rcases g.here with ⟨t,v,e⟩ | ⟨N,rest,t,v,s,e⟩
  ·subst t;subst v;subst e
   have:w=[]:=List.length_eq_zero_iff.mp (by simpa using d)
   subst this
   exact m none 0 Z (cH.nil _ _) (nY.refl _ _) (fun _=>⟨rfl,rfl⟩) (Or.inl rfl)
  ·subst t
   rw [h,Nat.mul_one]
   show mF Z ((⟨N,0,none⟩:Addr).add S.length) 0 (List.map E.e0 w).length∧A (some ⟨N,0,none⟩) (S.length+w.length) c (h2 Z ((⟨N,0,none⟩:Addr).add S.length) 0 (List.map E.e0 w))
   rw [aT]
   have IP:w.length≤rest.length:=by rw [List.length_append] at e;omega
   have f:=wQ (bN:=w) (off:=S.length) (T:=0) s C.ok (by rw [List.length_append];omega)
   refine⟨wP fun M IG=>?_,?_⟩
   ·rw [List.length_map] at IG
    have O:(⟨N,S.length,none⟩:Addr).add (0+M)=⟨N,S.length+M,none⟩:=by
     rw [Nat.zero_add,← aT N S.length,add_add,aT]
    rw [O]
    obtain⟨L,IH⟩:∃ L,(S ++ rest)[S.length+M]?=some L:=⟨_,List.getElem?_eq_getElem (by rw [List.length_append];omega)⟩
    exact⟨⟨_,s.cell IH⟩,s.frozen _⟩
   ·have II:(S ++ rest).take (S.length+0) ++ (w ++ (S ++ rest).drop (S.length+0+w.length))=(S ++ w) ++ rest.drop w.length:=by
     rw [Nat.add_zero,List.take_left,List.drop_append,List.drop_of_length_le (by omega),List.nil_append,List.append_assoc]
     congr 3;omega
    rw [II] at f
    refine m _ _ _ ?_ ⟨f.2.le,fun Iw Ix IJ=>f.2.pre Iw Ix (fun O=>IJ _ rfl O.symm)⟩ (fun _=>⟨rfl,rfl⟩) (Or.inl rfl)
    refine⟨by rw [List.length_append];exact Iv,by rw [List.length_append];exact d,Or.inr ⟨N,rest.drop w.length,rfl,v,f.1,?_⟩⟩
    rw [List.length_append] at e
    rw [List.length_append,List.length_append,List.length_drop];omega
 ·intro d
  have Iy:c < S.length+w.length:=by omega
  have j:=j Iy
  refine⟨growslice_fits Iy j,P,?_,(S.map E.e0),?_,?_⟩
  ·have:(S.length+w.length)*1≤(S.length+w.length)*T.bytes:=Nat.mul_le_mul_left _ P
   omega
  ·rw [h];have:=g.rd.wR (l:=S.length) (bA:=c) S.length (Nat.le_refl _);rw [List.take_length] at this;exact this
  ·intro Iz IK
   refine m _ _ _ ?_ ⟨by simp,fun Iw Ix _=>by rw [Array.getElem?_push];rw [if_neg (by omega)]⟩ (fun IL=>absurd IL d) (Or.inr ⟨_,rfl,Nat.le_refl _⟩)
   have s:c0 E (Z.push (.cells (S.map E.e0 ++ (w.map E.e0 ++ gK T.aF (Iz - (S.length+w.length)))).toArray O (0,0))) Z.size ((S ++ w) ++ List.replicate (Iz - (S.length+w.length)) a5):=by
    refine⟨fun Q IM=>?_,O,?_⟩
    ·rcases List.mem_append.mp IM with aI | aI
     ·rcases List.mem_append.mp aI with D | D
      ·exact g.rd.ok Q D
      ·exact C.ok Q D
     ·rw [List.eq_of_mem_replicate aI];exact IE
    ·rw [ID,wC];simp
   exact s.iO IA (by rw [List.length_append];exact Iv) (by rw [List.length_append];exact IK) (by simp;omega)
theorem DK{o Z:V}{O:TypeId}{T:c2}{a b:R}{l c bA d n:Nat}{S w:List cS}(g:cH E o Z a c S)(e:o.size≤Z.size)(C:b4 E Z b bA w)(f:l=S.length)(h:n=w.length)(i:T.leaves.length=1)(a5:cS)(j:T.aF=[E.e0 a5])(m:E.ok a5)
  (t:Nat) (v:T.bytes=t) (D:1≤t) (G:S.length+w.length≤E.eF) (H:c < S.length+w.length→(S.length+w.length)*t≤140737488355328) {A:R→Nat→Nat→V→Prop}
  (P:∀ Iv c1 K,cH E o K Iv c1 (S ++ w)→nY a Z K→(S.length+w.length≤c→c1=c∧Iv=a)→A Iv (S.length+w.length) c1 K):g2 Z O T a l c (.slice b n d) A:=
 DJ g e C f h i a5 j m t v D G H fun Iv c1 K D cD G _=>P Iv c1 K D cD G
theorem Ac{o Z:V}{O:TypeId}{T:c2}{a b:R}{l c bA d n:Nat}{S w:List cS}(g:cH E o Z a c S)(e:o.size≤Z.size)(C:b4 E Z b bA w)(f:l=S.length)(h:n=w.length)(i:T.leaves.length=1)(a5:cS)(j:T.aF=[E.e0 a5])(m:E.ok a5)
  (t:Nat) (v:T.bytes=t) (D:1≤t) (G:S.length+w.length≤E.eF) (H:c < S.length+w.length→(S.length+w.length)*t≤140737488355328) {A:R→Nat→Nat→V→Prop}
  (P:∀ Iv c1 K,cH E o K Iv c1 (S ++ w)→nY a Z K→(S.length+w.length≤c→c1=c)→A Iv (S.length+w.length) c1 K):g2 Z O T a l c (.slice b n d) A:=
 DK g e C f h i a5 j m t v D G H fun Iv c1 K D cD G=>P Iv c1 K D cD fun D=>(G D).1
theorem Ad{o Z:V}{O:TypeId}{T:c2}{a:R}{l c n m:Nat}{cT:List Value}{S:List cS}(E:jC cS)(g:cH E o Z a c S)(f:a2 o Z)(w:List cS)(i:cT=w.map E.e0)(j:∀ k ∈ w,E.ok k)(t:l=S.length)(v:n=w.length)(D:T.leaves.length=1)(a5:cS)(G:T.aF=[E.e0 a5])(H:E.ok a5)
  (b:Nat) (P:T.bytes=b) (Iv:1≤b) (Iw:S.length+w.length≤E.eF) (Ix:c < S.length+w.length→(S.length+w.length)*b≤140737488355328) {A:R→Nat→Nat→V→Prop}
  (Iy:∀ d c1 K,cH E o K d c1 (S ++ w)→a2 o K→(S.length+w.length≤c→c1=c)→A d (S.length+w.length) c1 K):cU Z O cT fun x h=>g2 h O T a l c (.slice (some x) n m) A:=by
 refine uC E w i j fun h Iz e=>?_
 have C:=Iz.o8 (c:=w.length) (by omega) (Nat.le_refl _)
 refine Ac (g.I e) (Nat.le_trans f.le e.le) C t v D a5 G H b P Iv Iw Ix fun d c1 K IA IB IC=>Iy d c1 K IA ?_ IC
 exact IB.I (f.trans e) g.Ab
abbrev h4(g8:Type):=V→V→Value→g8→Prop
def fE{g8:Type}(dC:h4 g8)(o:V)(A:Value→V→Prop)(C:g8):Prop:=∀ v K,a2 o K→dC o K v C→A v K
def qN:h4 Bool:=fun _ _ v N=>v=.bool N
def DL{cS:Type}(E:jC cS):h4 (List cS):=fun o Z v S=>∃ a c,v=.slice a S.length c∧cH E o Z a c S
abbrev r2:h4 (List Nat):=DL dB
def s2{cS g8:Type}(dC:h4 cS)(cG:h4 g8):h4 (cS × g8):=fun o Z v y=>∃ Q k,v=.tuple #[Q,k]∧dC o Z Q y.1∧cG o Z k y.2
def nA{cS g8 a:Type}(dC:h4 cS)(cG:h4 g8)(dJ:h4 a):h4 (cS × g8 × a):=fun o Z v y=>∃ Q k a5,v=.tuple #[Q,k,a5]∧dC o Z Q y.1∧cG o Z k y.2.1∧dJ o Z a5 y.2.2
def hT(a N:R):Prop:=∀ y x,a=some y→N=some x→y.block ≠ x.block
def dD{cS g8:Type}(Q:cS)(a3:cS→g8):g8:=a3 Q
section
variable {g8:Type} {dC:h4 g8} {o:V} {A:Value→V→Prop}
theorem uD{N:Bool}{aH aY:g8}{a a7:Prop}(g:fE dC o A (bif N then aH else aY))(b:N=true→fE dC o A aH→a)(c:N=false→fE dC o A aY→a7):cond N a a7:=by
 cases N
 ·exact c rfl g
 ·exact b rfl g
theorem Ae{N:Bool}{aH aY:g8}{a a7:Prop}(g:fE dC o A (bif !N then aH else aY))(b:N=false→fE dC o A aH→a)(c:N=true→fE dC o A aY→a7):cond (!N) a a7:=by
 cases N
 ·exact b rfl g
 ·exact c rfl g
theorem mR{y:Prop}[Decidable y]{aH aY:g8}{a a7:Prop}(g:fE dC o A (bif decide y then aH else aY))(b:y→fE dC o A aH→a)(c:¬y→fE dC o A aY→a7):cond (decide y) a a7:=by
 by_cases Z:y
 ·simp only [Z,decide_true,cond_true] at g ⊢;exact b Z g
 ·simp only [Z,decide_false,cond_false] at g ⊢;exact c Z g
theorem r3{Q k:Int}{aH aY:g8}{a a7:Prop}(g:fE dC o A (bif Q == k then aH else aY))(b:Q=k→fE dC o A aH→a)(c:Q ≠ k→fE dC o A aY→a7):cond (Q == k) a a7:=by
 by_cases Z:Q=k
 ·simp only [Z,beq_self_eq_true,cond_true] at g ⊢;exact b Z g
 ·simp only [beq_eq_false_iff_ne.mpr Z,cond_false] at g ⊢;exact c Z g
end
theorem kA{n:Int}{A:Int→Prop}(g:A n):aN n A:=⟨g⟩
def In(U:IntKind)(Q:Int):Prop:=U.min≤Q∧Q≤U.max
theorem lA(U:IntKind)(Q:Int):In U (U.wrap Q):=by
 unfold In
 cases U <;> simp only [IntKind.wrap,IntKind.min,IntKind.max,IntKind.bits,IntKind.signed,Bool.true_and,Bool.false_and,Bool.false_eq_true,if_false,if_true,decide_eq_true_eq,ge_iff_le] <;> (try split) <;> omega
theorem o9{Q:Int}:In .i64 Q↔(-9223372036854775808≤Q∧Q < 9223372036854775808):=by
 unfold In;simp only [IntKind.min,IntKind.max,IntKind.bits,IntKind.signed,if_true]
 omega
theorem r4{Q:Int}:In .u64 Q↔(0≤Q∧Q < 18446744073709551616):=by
 unfold In;simp only [IntKind.min,IntKind.max,IntKind.bits,IntKind.signed,Bool.false_eq_true,if_false]
 omega
theorem cH.dL{o Z:V}{a:R}{c:Nat}{S:List Nat}(g:cH dB o Z a c S):bU Z a c S:=g.rd.uA
theorem eX.wS{Z:V}{N:Nat}{S:List Nat}(s:eX Z N S):c0 dB Z N S:=⟨s.words,s.at_⟩
theorem eX.iO{o Z:V}{N c:Nat}{S rest:List Nat}(s:eX Z N (S ++ rest))(a:o.size≤N)(aI:S.length≤c)(b:c≤(S ++ rest).length):cH dB o Z (some ⟨N,0,none⟩) c S:=
 s.wS.iO a (by have:=s.len;rw [List.length_append] at this;show _≤35184372088828;omega) aI b
theorem eX.j9{o Z:V}{N c:Nat}{S:List Nat}(s:eX Z N S)(a:o.size≤N)(b:c=S.length):cH dB o Z (some ⟨N,0,none⟩) c S:=
 eX.iO (rest:=[]) (by simpa using s) a (by omega) (by simp;omega)
def split(S:List Nat):List Nat:=S.flatMap fun L=>[L % 4294967296,L / 4294967296]
theorem Af(S:List Nat):(split S).length=2*S.length:=by
 induction S with
 | nil=>rfl
 | cons Q S bD=>simp only [split,List.flatMap_cons,List.length_append,List.length_cons,List.length_nil] at bD ⊢;omega
theorem DM(S:List Nat):D.val (split S)=val S:=by
 induction S with
 | nil=>rfl
 | cons Q S bD=>
  simp only [split,List.flatMap_cons,List.cons_append,List.nil_append,D.val,val] at bD ⊢
  rw [bD]
  have:=Nat.mod_add_div Q 4294967296
  omega
theorem DN(S w:List Nat):split (S ++ w)=split S ++ split w:=by simp [split]
theorem DO(aH U:Nat):(D.z aH).length≤2*U↔(z aH).length≤U:=by
 rw [D.e2,e2,show 32*(2*U)=64*U by omega]
theorem Ag{aH U:Nat}:(D.z aH).length≤U↔aH < 2 ^ (32*U):=D.e2
theorem D.Ah{aF:List Nat}{T t c1 F a b c:Nat}(d:aF.length=T)(e:b=F+4294967296*c)(Z:F+a=t+4294967296*c1):D.val (aF ++ [t])+(c+c1)*2 ^ (32*(T+1))=D.val aF+(b+a)*2 ^ (32*T):=by
 rw [D.gO,d,D.h3]
 have O:b+a=t+4294967296*(c+c1):=by omega
 rw [O]
 generalize 2 ^ (32*T)=P
 simp only [D.val,Nat.mul_zero,Nat.add_zero]
 rw [Nat.add_mul t,Nat.mul_left_comm,Nat.mul_comm P t,Nat.mul_assoc 4294967296]
 omega
def lB(U:IntKind):h4 Int:=fun _ _ v n=>v=.int U n∧In U n
def fF:h4 Nat:=fun o Z v aH=>∃ a c,v=.slice a (D.z aH).length c∧cH bR o Z a c (D.z aH)
def eH:h4 (Bool × Nat):=fun o Z v y=>∃ a c,v=.agg #[.bool y.1,.slice a (D.z y.2).length c]∧cH bR o Z a c (D.z y.2)
theorem kV{a7:Nat}(a:0 < a7){S:List Nat}(b:∀ Q ∈ S,Q < a7)(T:Nat):S.getD T 0 < a7:=by
 by_cases aK:T < S.length
 ·have O:S.getD T 0=S[T]:=by simp [List.getD,aK]
  rw [O];exact b _ (List.getElem_mem aK)
 ·have O:S.getD T 0=0:=by simp [List.getD,Nat.le_of_not_lt aK]
  rw [O];exact a
theorem b4.kB{Z:V}{a:R}{c:Nat}{S:List Nat}(C:b4 bR Z a c S)(M:Nat):S.getD M 0 < 4294967296:=kV (by decide) C.ok M
theorem b4.mS{Z:V}{a:R}{c:Nat}{S:List Nat}(C:b4 bR Z a c S):S.length≤70368744177656:=C.len
instance (U:IntKind) (Q:Int):Decidable (In U Q):=inferInstanceAs (Decidable (_∧_))
abbrev dS:h4 (List Nat × Int):=s2 r2 (lB .i64)
abbrev uE:h4 (List Nat):=r2
section
variable {o Z:V} {v:Value} {y:List Nat × Int} {S:List Nat}
theorem dS.g9{A:R→Nat→Nat→Int→Prop}(a:dS o Z v y)(g:∀ a c,cH dB o Z a c y.1→In .i64 y.2→A a y.1.length c y.2):
  cO v fun k=>cL k fun b eD=>aE b fun a l c=>cL eD fun d e=>aC .i64 d fun Q=>bG e (A a l c Q):=by
 obtain⟨Q,k,O,⟨a,c,f,C⟩,h,T⟩:=a
 subst O;subst f;subst h;exact g a c C T
theorem dS.elim{A:R→Nat→Nat→Int→Prop}(a:dS o Z v y)(g:∀ a c,bU Z a c y.1→A a y.1.length c y.2):
  cO v fun k=>cL k fun b eD=>aE b fun a l c=>cL eD fun b d=>aC .i64 b fun Q=>bG d (A a l c Q):=
 a.g9 fun a c C _=>g a c C.dL
theorem dS.back{a:R}{c:Nat}(C:cH dB o Z a c y.1)(T:In .i64 y.2):dS o Z (.tuple #[.slice a y.1.length c,.int .i64 y.2]) y:=
 ⟨_,_,rfl,⟨a,c,rfl,C⟩,rfl,T⟩
theorem dS.mk{a:R}{c l:Nat}{Q:Int}(b:l=y.1.length)(d:Q=y.2)(C:cH dB o Z a c y.1)(T:In .i64 y.2):dS o Z (.tuple #[.slice a l c,.int .i64 Q]) y:=by
 subst b;subst d;exact dS.back C T
theorem dS.none{Q:Int}(T:In .i64 Q:=by decide):dS o Z (.tuple #[.slice Option.none 0 0,.int .i64 Q]) ([],Q):=⟨_,_,rfl,⟨Option.none,0,rfl,cH.nil _ _⟩,rfl,T⟩
theorem uE.g9{A:R→Nat→Nat→Prop}(a:uE o Z v S)(g:∀ a c,cH dB o Z a c S→A a S.length c):aE v A:=by
 obtain⟨a,c,O,C⟩:=a
 subst O;exact g a c C
end
theorem eB.iO{o Z:V}{N:Nat}{S:List Nat}(s:eB Z N S)(a:o.size≤N):cH dB o Z (some ⟨N,0,none⟩) S.length S:=by
 obtain⟨rest,s⟩:=s
 exact s.iO a (Nat.le_refl _) (by simp)
theorem cH.trim{o Z:V}{a:R}{c:Nat}{S:List Nat}{E:jC Nat}(g:cH E o Z a c S):cH E o Z a c (cV S):=by
 have O:S.take (cV S).length=cV S:=by
  clear g
  induction S with
  | nil=>rfl
  | cons Q S bD=>
   simp only [cV]
   split
   ·rfl
   ·simp [bD]
 have:=g.take (cV S).length
 rw [O] at this;exact this
theorem fF.elim{o Z:V}{v:Value}{aH:Nat}{A:R→Nat→Nat→Prop}(F:fF o Z v aH)(g:∀ a c,cH bR o Z a c (D.z aH)→A a (D.z aH).length c):aE v A:=by
 obtain⟨a,c,O,C⟩:=F
 subst O;exact g a c C
structure cY(Z:V)(N:Nat)(bN:List Value):Prop where
 at_:∃ O,Z[N]?=some (.cells bN.toArray O (0,0))
theorem cY.lt{Z:V}{N:Nat}{bN:List Value}(s:cY Z N bN):N < Z.size:=by
 obtain⟨O,g⟩:=s.at_;exact(Array.getElem?_eq_some_iff.mp g).1
theorem cY.I{Z K:V}{N:Nat}{bN:List Value}(s:cY Z N bN)(U:a2 Z K):cY K N bN:=by
 obtain⟨O,g⟩:=s.at_;exact⟨O,by rw [U.pre N s.lt];exact g⟩
theorem cY.aJ{x:Nat}{Z K:V}{N:Nat}{bN:List Value}(s:cY Z N bN)(a:N ≠ x)(U:aV x Z K):cY K N bN:=by
 obtain⟨O,g⟩:=s.at_;exact⟨O,by rw [U.pre N s.lt a];exact g⟩
theorem dH{Z:V}{O:TypeId}{cT:List Value}{A:Addr→V→Prop}(g:∀ K,cY K Z.size cT→a2 Z K→A ⟨Z.size,0,none⟩ K):cU Z O cT A:=
 g _ ⟨O,by simp⟩ ⟨by simp,fun N a=>by rw [Array.getElem?_push];rw [if_neg (by omega)]⟩
theorem wT{Z:V}{N:Nat}{bN:List Value}(s:cY Z N bN){U:Nat}{v:Value}(a:bN[U]?=some v){A:Value→Prop}(g:A v):gI Z ((⟨N,0,none⟩:Addr).add U) A:=by
 obtain⟨O,at_⟩:=s.at_
 unfold gI
 have:fQ Z ((⟨N,0,none⟩:Addr).add U)=some v:=by
  rw [aT];unfold fQ
  simp only [at_,Option.isSome_none,Bool.false_eq_true,if_false]
  simpa using a
 rw [this];exact g
theorem qO{Z:V}{N:Nat}{bN:List Value}(s:cY Z N bN){U:Nat}{v:Value}(a:U < bN.length){A:V→Prop}(g:∀ K,cY K N (bN.set U v)→aV N Z K→A K):bI Z ((⟨N,0,none⟩:Addr).add U) v A:=by
 obtain⟨O,at_⟩:=s.at_
 rw [aT]
 refine⟨⟨⟨bN[U],?_⟩,?_⟩,g _ ⟨O,?_⟩ (aV.set _ _ _ _)⟩
 ·unfold fQ
  simp only [at_,Option.isSome_none,Bool.false_eq_true,if_false]
  simp [a]
 ·unfold j5;simp [at_]
 ·unfold e5
  rw [Array.getElem?_modify]
  simp only [if_true,at_,Option.map_some]
  simp
theorem cY.DP{Z:V}{N:Nat}{bN:List Value}(s:cY Z N bN)(U:Nat):((⟨N,0,none⟩:Addr).add U).block < Z.size:=by
 rw [rS];exact s.lt
theorem a2.cM{a N:V}{n:Nat}(U:a2 a N)(b:n≤a.size):cA n a N:=fun T aK=>U.pre T (Nat.lt_of_lt_of_le aK b)
theorem cH.aJ{cS:Type}{E:jC cS}{x:Nat}{aI Z K:V}{a:R}{c:Nat}{S:List cS}(g:cH E aI Z a c S)(b:x < aI.size)(U:aV x Z K):cH E aI K a c S:=
 ⟨g.len,g.cap,g.here.imp id fun ⟨N,rest,b,d,s,e⟩=>⟨N,rest,b,d,s.aJ (by omega) U,e⟩⟩
def fG(a6 aK:Nat)(Z:V)(F:nX)(S:List Nat):Prop:=
 F.2.1=S.length∧S.length≤F.2.2∧S.length≤35184372088828∧((S=[]∧F.1=none∧F.2.2=0)∨∃ N rest,F.1=some ⟨N,0,none⟩∧a6≤N∧N < aK∧c0 dB Z N (S ++ rest)∧F.2.2≤(S ++ rest).length)
theorem fG.nil(a6 aK:Nat)(Z:V):fG a6 aK Z (none,0,0) []:=⟨rfl,by simp,by simp,Or.inl ⟨rfl,rfl,rfl⟩⟩
theorem fG.r5{o Z:V}{a:R}{c l:Nat}{S:List Nat}(g:cH dB o Z a c S)(b:l=S.length){a6 aK:Nat}(aI:a6≤o.size)(d:Z.size≤aK):fG a6 aK Z (a,l,c) S:=by
 subst b
 refine⟨rfl,g.cap,g.len,g.here.imp id ?_⟩
 rintro⟨N,rest,e,f,s,h⟩
 exact⟨N,rest,e,Nat.le_trans aI f,Nat.lt_of_lt_of_le s.lt d,s,h⟩
theorem fG.I{a6 aK:Nat}{Z K:V}{F:nX}{S:List Nat}(s:fG a6 aK Z F S)(U:a2 Z K):fG a6 aK K F S:=
 ⟨s.1,s.2.1,s.2.2.1,s.2.2.2.imp id fun ⟨N,rest,a,b,c,L,d⟩=>⟨N,rest,a,b,c,L.I U,d⟩⟩
theorem fG.wide{a6 aK a b:Nat}{Z:V}{F:nX}{S:List Nat}(s:fG a6 aK Z F S)(aI:a≤a6)(c:aK≤b):fG a b Z F S:=
 ⟨s.1,s.2.1,s.2.2.1,s.2.2.2.imp id fun ⟨N,rest,a,b,d,L,e⟩=>⟨N,rest,a,Nat.le_trans aI b,Nat.lt_of_lt_of_le d c,L,e⟩⟩
theorem fG.block{a6 aK:Nat}{Z:V}{F:nX}{S:List Nat}(s:fG a6 aK Z F S):∀ y,F.1=some y→a6≤y.block∧y.block < aK:=by
 intro y a
 rcases s.2.2.2 with ⟨_,O,_⟩ | ⟨N,rest,b,c,d,_,_⟩
 ·rw [O] at a;cases a
 ·rw [b] at a;cases a;exact⟨c,d⟩
structure uF(a6 aK:Nat)(Z:V)(aZ:List nX)(Ai:List (List Nat)):Prop where
 len:aZ.length=Ai.length
 at_:∀ (T:Nat) F S,aZ[T]?=some F→Ai[T]?=some S→fG a6 aK Z F S
 two:∀ (T M:Nat) (F t:nX) (y x:Addr),aZ[T]?=some F→aZ[M]?=some t→F.1=some y→t.1=some x→y.block=x.block→T=M
theorem uF.pair{a6 aK U:Nat}{Z:V}{F t:nX}{S w:List Nat}(aI:a6≤U)(h:U≤aK)(s:(fG a6 U Z F S∧fG U aK Z t w)∨(fG U aK Z F S∧fG a6 U Z t w)):uF a6 aK Z [F,t] [S,w]:=by
 have d:∀ y x,F.1=some y→t.1=some x→y.block ≠ x.block:=fun y x b c=>by
  rcases s with ⟨a,N⟩ | ⟨a,N⟩
  ·have:=a.block y b;have:=N.block x c;omega
  ·have:=a.block y b;have:=N.block x c;omega
 have os:fG a6 aK Z F S:=by rcases s with ⟨a,N⟩ | ⟨a,N⟩ <;> exact a.wide (by omega) (by omega)
 have g:fG a6 aK Z t w:=by rcases s with ⟨a,N⟩ | ⟨a,N⟩ <;> exact N.wide (by omega) (by omega)
 refine⟨rfl,fun T L i b c=>?_,fun T M a N y x b c e f O=>?_⟩
 ·match T with
  | 0=>simp at b c;subst b;subst c;exact os
  | 1=>simp at b c;subst b;subst c;exact g
  | T+2=>simp at b
 ·match T,M with
  | 0,0 | 1,1=>rfl
  | 0,1=>simp at b c;subst b;subst c;exact absurd O (d _ _ e f)
  | 1,0=>simp at b c;subst b;subst c;exact absurd O.symm (d _ _ f e)
  | T+2,_=>simp at b
  | _,M+2=>simp at c
theorem fG.iO{a6 aK:Nat}{o Z:V}{F:nX}{S:List Nat}(s:fG a6 aK Z F S)(a:o.size≤a6):cH dB o Z F.1 F.2.2 S:=
 ⟨s.2.2.1,s.2.1,s.2.2.2.imp id fun ⟨N,rest,b,c,_,L,d⟩=>⟨N,rest,b,Nat.le_trans a c,L,d⟩⟩
theorem wU{Z:V}{N:Nat}{bN:List Value}(s:cY Z N bN){U:Nat}{t:IntKind}{Q:Int}(a:bN[U]?=some (.int t Q)){A:Int→Prop}(g:A Q):gI Z ((⟨N,0,none⟩:Addr).add U) fun v=>aC t v A:=wT s a (bJ rfl g)
theorem r6{Z:V}{N:Nat}{bN:List Value}(s:cY Z N bN){U:Nat}{a:R}{l c:Nat}(b:bN[U]?=some (.slice a l c)){A:R→Nat→Nat→Prop}(g:A a l c):gI Z ((⟨N,0,none⟩:Addr).add U) fun v=>aE v A:=wT s b (aQ rfl g)
def qP:Value→Bool
 | .int .u64 _ | .int .u32 _ | .int .u8 _=>true
 | _=>false
structure kW(Z K:V):Prop where
 le:Z.size≤K.size
 cell:∀ x v,qP v=true→fQ Z x=some v→fQ K x=some v
 wV:∀ (N:Nat) (cT:Array Value) (O:TypeId) (a3:Nat × Nat),Z[N]?=some (Obj.cells cT O a3)→(∀ v ∈ cT,qP v=true)→K[N]?=Z[N]?
theorem kW.trans{a N c:V}(Q:kW a N)(k:kW N c):kW a c:=
 ⟨Nat.le_trans Q.le k.le,fun _ _ L O=>k.cell _ _ L (Q.cell _ _ L O),fun U _ _ _ b d=>by
  have aI:=Q.wV U _ _ _ b d
  rw [← aI,k.wV U _ _ _ (aI.trans b) d]⟩
theorem a2.aS{Z K:V}(U:a2 Z K):kW Z K:=
 ⟨U.le,fun _ _ _ O=>U.cell O,fun N _ _ _ a _=>U.pre N (Array.getElem?_eq_some_iff.mp a).1⟩
class qQ (E:jC Nat):Prop where
 word:∀ Q,qP (E.e0 Q)=true
instance :qQ dB:=⟨fun _=>rfl⟩
instance :qQ bR:=⟨fun _=>rfl⟩
instance :qQ z8:=⟨fun _=>rfl⟩
theorem bU.aS{Z K:V}{a:R}{c:Nat}{S:List Nat}(C:bU Z a c S)(m:kW Z K):bU K a c S:=
 ⟨C.len,C.cap,C.words,fun T aK=>let ⟨y,O,g⟩:=C.at_ T aK;⟨y,O,m.cell _ _ rfl g⟩⟩
theorem b4.aS{E:jC Nat}[bB:qQ E]{Z K:V}{a:R}{c:Nat}{S:List Nat}(C:b4 E Z a c S)(m:kW Z K):b4 E K a c S:=
 ⟨C.len,C.cap,C.ok,fun T Q aK=>let ⟨y,O,g⟩:=C.at_ T Q aK;⟨y,O,m.cell _ _ (bB.word Q) g⟩⟩
theorem c0.aS{E:jC Nat}[bB:qQ E]{Z K:V}{N:Nat}{aF:List Nat}(s:c0 E Z N aF)(m:kW Z K):c0 E K N aF:=by
 obtain⟨O,g⟩:=s.at_
 refine⟨s.ok,O,?_⟩
 rw [m.wV N _ _ _ g (fun v a1=>?_)]
 ·exact g
 ·simp only [List.mem_toArray,List.mem_map] at a1
  obtain⟨Q,_,O⟩:=a1
  subst O;exact bB.word Q
theorem cH.aS{E:jC Nat}[qQ E]{o Z K:V}{a:R}{c:Nat}{S:List Nat}(g:cH E o Z a c S)(m:kW Z K):cH E o K a c S:=
 ⟨g.len,g.cap,g.here.imp id fun ⟨N,rest,b,d,s,e⟩=>⟨N,rest,b,d,s.aS m,e⟩⟩
theorem DQ{Z:V}{N:Nat}{bN:List Value}(s:cY Z N bN){U:Nat}{v:Value}(a:(bN[U]?.map qP)=some false){A:V→Prop}(g:∀ K,cY K N (bN.set U v)→aV N Z K→kW Z K→A K):bI Z ((⟨N,0,none⟩:Addr).add U) v A:=by
 have d:U < bN.length:=by
  rcases Nat.lt_or_ge U bN.length with aI | aI
  ·exact aI
  ·rw [List.getElem?_eq_none aI] at a;cases a
 rw [List.getElem?_eq_getElem d] at a
 have a:qP bN[U]=false:=by simpa using a
 obtain⟨O,at_⟩:=s.at_
 rw [aT]
 have c:aV N Z (e5 Z ⟨N,U,none⟩ v):=aV.set _ _ _ _
 have f:(e5 Z ⟨N,U,none⟩ v)[N]?=some (.cells (bN.set U v).toArray O (0,0)):=by
  unfold e5
  rw [Array.getElem?_modify]
  simp only [if_true,at_,Option.map_some]
  simp
 refine⟨⟨⟨bN[U],?_⟩,?_⟩,g _ ⟨O,f⟩ c ⟨c.le,?_,?_⟩⟩
 ·unfold fQ
  simp only [at_,Option.isSome_none,Bool.false_eq_true,if_false]
  simp [d]
 ·unfold j5;simp [at_]
 ·intro x b7 L eq
  by_cases b:x.block=N
  ·have l:=eq
   unfold fQ at eq ⊢
   rw [b] at eq ⊢
   rw [at_] at eq;rw [f]
   simp only at eq ⊢
   split at eq
   ·cases eq
   ·rename_i aZ
    rw [if_neg aZ]
    simp only [List.getElem?_toArray] at eq ⊢
    by_cases h:x.off=U
    ·rw [h,List.getElem?_eq_getElem d] at eq
     cases eq;rw [a] at L;cases L
    ·rw [List.getElem?_set_ne (fun O=>h O.symm)];exact eq
  ·rw [rR (c.pre _ (tS eq) b)];exact eq
 ·intro i cT m a3 e j
  by_cases b:i=N
  ·exfalso
   rw [b,at_] at e
   cases e
   have:=j bN[U] (by simp)
   rw [a] at this;cases this
  ·exact c.pre _ (Array.getElem?_eq_some_iff.mp e).1 b
theorem bQ{Z:V}{N U:Nat}{x:Addr}{bN:List Value}{v:Value}(s:cY Z N bN)(O:x=⟨N,U,none⟩)(a:bN[U]?=some v){A:Value→Prop}(g:A v):gI Z x A:=by
 subst O
 have:=wT (U:=U) s a g
 rw [aT] at this;exact this
theorem b2{Z:V}{N U:Nat}{x:Addr}{bN:List Value}{v:Value}(s:cY Z N bN)(O:x=⟨N,U,none⟩)(a:(bN[U]?.map qP)=some false){A:V→Prop}(g:∀ K,cY K N (bN.set U v)→aV N Z K→kW Z K→A K):bI Z x v A:=by
 subst O
 have:=DQ (U:=U) (v:=v) s a g
 rw [aT] at this;exact this
theorem eO{x:Addr}{N U n:Nat}(O:x=⟨N,U,none⟩)(Z:N < n):x.block < n:=by subst O;exact Z
theorem kW.lt{Z K:V}{N:Nat}(m:kW Z K)(l:N < Z.size):N < K.size:=Nat.lt_of_lt_of_le l m.le
theorem cZ{cS g8:Type}{dC:h4 g8}{o:V}{Y:Value→V→Prop}{Q y:cS}{a3:cS→g8}(O:y=Q)(g:fE dC o Y (dD Q a3)):fE dC o Y (a3 y):=by subst O;exact g
end Go.Gv
