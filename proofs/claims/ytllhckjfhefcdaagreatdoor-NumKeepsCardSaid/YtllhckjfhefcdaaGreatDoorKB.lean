import Derived.Carry
import Derived.ChangeSlices
import Derived.WalkKit
import Derived.ProofKit
import Derived.OpenShut
import Derived.ShutString
import Derived.ChangeOld
import Derived.Below
import Derived.SizedLaws
import Derived.ChangeArms
import Derived.Laws.Append
import Derived.Test.YtllhckjfhefcdaaGreatDoorKA
namespace Go.Gv
theorem wrap_i64{I:Int}(a0:-9223372036854775808≤I)(d:I < 9223372036854775808):IntKind.i64.wrap I=I:=by
 have b:(2:Int) ^ 64=18446744073709551616:=by decide
 have c:(2:Int) ^ (64 - 1)=9223372036854775808:=by decide
 simp only [IntKind.wrap,IntKind.bits,IntKind.signed,Bool.true_and,b,c]
 by_cases a:I % 18446744073709551616≥9223372036854775808
 ·rw [if_pos (by simpa using a)];omega
 ·rw [if_neg (by simpa using a)];omega
theorem wrap_u64(I:Int):IntKind.u64.wrap I=I % 18446744073709551616:=by
 simp [IntKind.wrap,IntKind.bits,IntKind.signed]
theorem z9{I:Int}(a0:0≤I)(a:I < 18446744073709551616):IntKind.u64.wrap I=I:=by
 rw [wrap_u64];omega
structure a4(Z A:V):Prop where
 le:Z.size≤A.size
 pre:cG Z.size Z A
theorem a4.refl(Z:V):a4 Z Z:=⟨Nat.le_refl _,fun _ _=>rfl⟩
theorem a4.trans{a N L:V}(I:a4 a N)(aN:a4 N L):a4 a L:=
 ⟨Nat.le_trans I.le aN.le,fun Q bE=>(aN.pre Q (Nat.lt_of_lt_of_le bE I.le)).trans (I.pre Q bE)⟩
theorem xT{Z:V}{o:Addr}{v:Value}(J:fQ Z o=some v):o.block < Z.size:=by
 unfold fQ at J
 split at J
 ·next a0=>exact(Array.getElem?_eq_some_iff.mp a0).1
 ·cases J
theorem a4.cell{Z A:V}(M:a4 Z A){o:Addr}{v:Value}(J:fQ Z o=some v):fQ A o=some v:=by
 rw [tC (M.pre _ (xT J))];exact J
theorem add_add(z:Addr)(Q C:Nat):(z.add Q).add C=z.add (Q+C):=by
 unfold Addr.add
 by_cases bE:Q=0 <;> by_cases a:C=0 <;> simp [bE,a,Nat.add_assoc]
theorem w(N Q:Nat):(⟨N,0,none⟩:Addr).add Q=⟨N,Q,none⟩:=by
 unfold Addr.add
 by_cases bE:Q=0 <;> simp [bE]
abbrev g2(I:Nat):Value:=.int .u64 (I:Int)
structure bJ(Z:V)(a:U)(L:Nat)(T:List Nat):Prop where
 len:T.length≤35184372088828
 cap:T.length≤L
 words:∀ I ∈ T,I < 18446744073709551616
 at_:∀ Q,Q < T.length→∃ z,a=some z∧fQ Z (z.add Q)=some (g2 (T.getD Q 0))
theorem bJ.B{Z A:V}{a:U}{L:Nat}{T:List Nat}(s:bJ Z a L T)(M:a4 Z A):bJ A a L T:=
 ⟨s.len,s.cap,s.words,fun Q bE=>let ⟨z,J,g⟩:=s.at_ Q bE;⟨z,J,M.cell g⟩⟩
theorem bJ.nil(Z:V)(a:U)(L:Nat):bJ Z a L []:=⟨by simp,by simp,by simp,fun Q bE=>absurd bE (by simp)⟩
theorem v7{T:List Nat}(a:∀ I ∈ T,I < 18446744073709551616)(Q:Nat):T.getD Q 0 < 18446744073709551616:=by
 by_cases bE:Q < T.length
 ·have J:T.getD Q 0=T[Q]:=by simp [List.getD,bE]
  rw [J];exact a _ (List.getElem_mem bE)
 ·have J:T.getD Q 0=0:=by simp [List.getD,Nat.le_of_not_lt bE]
  rw [J];decide
theorem bJ.word{Z:V}{a:U}{L:Nat}{T:List Nat}(s:bJ Z a L T)(Q:Nat):T.getD Q 0 < 18446744073709551616:=v7 s.words Q
theorem bJ.take{Z:V}{a:U}{L:Nat}{T:List Nat}(s:bJ Z a L T)(n:Nat):bJ Z a L (T.take n):=by
 refine⟨?_,?_,fun I b=>s.words I (List.mem_of_mem_take b),fun Q bE=>?_⟩
 ·have:=s.len;rw [List.length_take];omega
 ·have:=s.cap;rw [List.length_take];omega
 ·rw [List.length_take] at bE
  obtain⟨z,J,g⟩:=s.at_ Q (by omega)
  refine⟨z,J,?_⟩
  have c:(T.take n).getD Q 0=T.getD Q 0:=by
   simp only [List.getD,List.getElem?_take]
   rw [if_pos (by omega)]
  rw [c];exact g
theorem bJ.rW{Z:V}{a:U}{L cW:Nat}{T:List Nat}(s:bJ Z a L T)(b:T.length≤cW):bJ Z a cW T:=⟨s.len,b,s.words,s.at_⟩
theorem bJ.drop{Z:V}{a:U}{L:Nat}{T:List Nat}(s:bJ Z a L T)(n:Nat)(d:n≤T.length):bJ Z (iP a L n 1) (L - n) (T.drop n):=by
 have a0:=s.len;have e:=s.cap
 refine⟨?_,?_,fun I b=>s.words I (List.mem_of_mem_drop b),fun Q bE=>?_⟩
 ·rw [List.length_drop];omega
 ·rw [List.length_drop];omega
 ·rw [List.length_drop] at bE
  obtain⟨z,J,g⟩:=s.at_ (n+Q) (by omega)
  have c:(T.drop n).getD Q 0=T.getD (n+Q) 0:=by simp only [List.getD,List.getElem?_drop]
  refine⟨z.add n,?_,by rw [add_add,c];exact g⟩
  rw [J];unfold iP
  rw [if_neg (by omega)];simp
theorem fG{Z:V}{a:U}{L l:Nat}{T:List Nat}(s:bJ Z a L T){Q:Int}{C:Nat}(bE:Q=(C:Int))(b:l=T.length)(c:C < T.length){p:Int→Prop}
  (g:p (T.getD C 0:Nat)):cL a l Q 1 fun o=>e7 Z o fun v=>aV .u64 v p:=by
 subst bE;subst b
 obtain⟨z,J,d⟩:=s.at_ C c
 subst J
 refine⟨⟨by omega,by omega⟩,?_⟩
 show e7 Z (z.add ((C:Int).toNat*1)) _
 have e:(C:Int).toNat*1=C:=by omega
 rw [e]
 unfold e7;rw [d];exact g
structure eM(Z:V)(N:Nat)(T:List Nat):Prop where
 len:T.length≤35184372088828
 words:∀ I ∈ T,I < 18446744073709551616
 at_:∃ J,Z[N]?=some (.cells (T.map g2).toArray J (0,0))
theorem eM.lt{Z:V}{N:Nat}{T:List Nat}(q:eM Z N T):N < Z.size:=by
 obtain⟨J,g⟩:=q.at_;exact(Array.getElem?_eq_some_iff.mp g).1
theorem eM.cell{Z:V}{N:Nat}{T:List Nat}(q:eM Z N T){Q:Nat}(bE:Q < T.length):fQ Z ⟨N,Q,none⟩=some (g2 (T.getD Q 0)):=by
 obtain⟨J,g⟩:=q.at_
 unfold fQ
 simp only [g,Option.isSome_none,Bool.false_eq_true,if_false]
 simp [List.getD,bE]
theorem eM.frozen{Z:V}{N:Nat}{T:List Nat}(q:eM Z N T)(Q:Nat):mB Z ⟨N,Q,none⟩=false:=by
 obtain⟨J,g⟩:=q.at_
 unfold mB
 simp [g]
theorem eM.rd{Z:V}{N:Nat}{T:List Nat}(q:eM Z N T){L:Nat}(a:T.length≤L):bJ Z (some ⟨N,0,none⟩) L T:=
 ⟨q.len,a,q.words,fun Q bE=>⟨_,rfl,by rw [w];exact q.cell bE⟩⟩
theorem Aa{Z:V}{o:Addr}{v:Value}{N:Nat}(aP:N ≠ o.block):(fY Z o v)[N]?=Z[N]?:=by
 unfold fY
 rw [Array.getElem?_modify]
 rw [if_neg (fun J=>aP J.symm)]
theorem Ab{Z:V}{o:Addr}{v:Value}:(fY Z o v).size=Z.size:=by unfold fY;simp
theorem eM.set{Z:V}{N:Nat}{T:List Nat}(q:eM Z N T)(Q:Nat){v:Nat}(aU:v < 18446744073709551616):eM (fY Z ⟨N,Q,none⟩ (g2 v)) N (T.set Q v):=by
 refine⟨by rw [List.length_set];exact q.len,fun I a=>?_,?_⟩
 ·rcases List.mem_or_eq_of_mem_set a with a0 | a0
  ·exact q.words I a0
  ·subst a0;exact aU
 ·obtain⟨J,g⟩:=q.at_
  refine⟨J,?_⟩
  unfold fY
  rw [Array.getElem?_modify]
  simp only [if_true,g,Option.map_some]
  simp [List.map_set]
theorem a4.set{Z A:V}(M:a4 Z A){N Q:Nat}{v:Value}(aP:Z.size≤N):a4 Z (fY A ⟨N,Q,none⟩ v):=
 ⟨by rw [Ab];exact M.le,fun C a=>by rw [Aa (by show C ≠ N;omega)];exact M.pre C a⟩
theorem eM.B{Z A:V}{N:Nat}{T:List Nat}(q:eM Z N T)(M:a4 Z A):eM A N T:=by
 obtain⟨J,g⟩:=q.at_
 exact⟨q.len,q.words,J,by rw [M.pre N q.lt];exact g⟩
theorem mX{Z:V}{N l:Nat}{T:List Nat}(q:eM Z N T){Q:Int}{C:Nat}(bE:Q=(C:Int))(a:l=T.length)(b:C < T.length){I:Int}{v:Nat}(c:I=(v:Int))(aU:v < 18446744073709551616){p:V→Prop}
  (g:eM (fY Z ⟨N,C,none⟩ (g2 v)) N (T.set C v)→p (fY Z ⟨N,C,none⟩ (g2 v))):cL (some ⟨N,0,none⟩) l Q 1 fun o=>aW Z o (.int .u64 I) p:=by
 subst bE;subst a;subst c
 refine⟨⟨by omega,by omega⟩,?_⟩
 show aW Z ((⟨N,0,none⟩:Addr).add ((C:Int).toNat*1)) _ _
 have d:(C:Int).toNat*1=C:=by omega
 rw [d,w]
 exact⟨⟨⟨_,q.cell b⟩,q.frozen C⟩,g (q.set C aU)⟩
theorem xU(n:Nat)(b3:Value):hT [b3] n=List.replicate n b3:=by
 induction n with
 | zero=>rfl
 | succ n a=>show [b3] ++ hT [b3] n=_;rw [a,List.replicate_succ];rfl
theorem nQ{Z:V}{J:TypeId}{Q:dO}{n m:Int}(M:Nat)(a:Q.aK=[g2 0])(aP:Q.bytes=8)(b:n=(M:Int))(c:m=(M:Int))(d:M≤35184372088828){p:Addr→V→Prop}
  (g:∀ A,eM A Z.size (List.replicate M 0)→a4 Z A→p ⟨Z.size,0,none⟩ A):h8 Z J Q n m p:=by
 subst b;subst c
 refine⟨⟨by omega,by omega,by omega,by rw [aP];omega⟩,g _ ⟨by simpa using d,?_,J,?_⟩ ⟨by simp,fun N aP=>?_⟩⟩
 ·intro I e;have:=List.eq_of_mem_replicate e;omega
 ·rw [a,xU];simp
 ·rw [Array.getElem?_push];rw [if_neg (by omega)]
theorem Cm{Z:V}{J:TypeId}{cQ:List Value}(T:List Nat)(a:cQ=T.map g2)(b:T.length≤35184372088828)(c:∀ I ∈ T,I < 18446744073709551616){p:Addr→V→Prop}
  (g:∀ A,eM A Z.size T→a4 Z A→p ⟨Z.size,0,none⟩ A):b4 Z J cQ p:=by
 subst a
 refine g _ ⟨b,c,J,?_⟩ ⟨by simp,fun N aP=>?_⟩
 ·simp
 ·rw [Array.getElem?_push];rw [if_neg (by omega)]
theorem Ac{Z:V}{z:Addr}:∀ {bW:List Nat} {Q:Nat},(∀ C,C < bW.length→fQ Z (z.add (Q+C))=some (g2 (bW.getD C 0)))→jX Z z Q (bW.map g2)
 | [],_,_=>trivial
 | v :: bW,Q,g=>by
  refine⟨by have:=g 0 (by simp);simpa using this,Ac fun C a=>?_⟩
  have:=g (C+1) (by simpa using a)
  rw [show Q+1+C=Q+(C+1) by omega]
  simpa using this
theorem Ad{Z:V}{z:Addr}:∀ {n Q:Nat},(∀ C,C < n→(∃ v,fQ Z (z.add (Q+C))=some v)∧mB Z (z.add (Q+C))=false)→o1 Z z Q n
 | 0,_,_=>trivial
 | n+1,Q,g=>⟨by have:=g 0 (by omega);simpa using this,Ad fun C a=>by rw [show Q+1+C=Q+(C+1) by omega];exact g (C+1) (by omega)⟩
theorem Ae{N:Nat}:∀ {bW:List Nat} {Z aB:V} {T:List Nat} {Q:Nat},eM Z N T→(∀ I ∈ bW,I < 18446744073709551616)→Q+bW.length≤T.length→(aB.size≤N)→a4 aB Z→
  eM (iD Z ⟨N,0,none⟩ Q (bW.map g2)) N (T.take Q ++ (bW ++ T.drop (Q+bW.length)))∧a4 aB (iD Z ⟨N,0,none⟩ Q (bW.map g2))
 | [],Z,aB,T,Q,q,_,_,_,M=>by simpa [iD] using ⟨q,M⟩
 | v :: bW,Z,aB,T,Q,q,a,b,aP,M=>by
  simp only [List.length_cons] at b
  have J:iD Z ⟨N,0,none⟩ Q ((v :: bW).map g2)=iD (fY Z ⟨N,Q,none⟩ (g2 v)) ⟨N,0,none⟩ (Q+1) (bW.map g2):=by
   show iD (fY Z ((⟨N,0,none⟩:Addr).add Q) (g2 v)) _ _ _=_
   rw [w]
  rw [J]
  have:=Ae (bW:=bW) (Q:=Q+1) (q.set Q (a v (by simp))) (fun I c=>a I (by simp [c])) (by rw [List.length_set];omega) aP (M.set (v:=g2 v) (Q:=Q) aP)
  refine⟨?_,this.2⟩
  have d:(T.set Q v).take (Q+1) ++ (bW ++ (T.set Q v).drop (Q+1+bW.length))=T.take Q ++ (v :: bW ++ T.drop (Q+(v :: bW).length)):=by
   rw [List.drop_set_of_lt (by omega),List.length_cons,show Q+1+bW.length=Q+(bW.length+1) by omega]
   rw [List.take_add_one,List.take_set_of_le (Nat.le_refl Q)]
   simp [show Q < T.length by omega]
  rw [← d];exact this.1
theorem v8{Z:V}{N l b8 bX:Nat}{T u:List Nat}{a:U}{aB:V}(q:eM Z N T)(s:bJ Z a bX u)(d:l=T.length)(e:b8=u.length)(aP:aB.size≤N)(M:a4 aB Z){p:Int→V→Prop}
  (g:∀ A,eM A N (u.take T.length ++ T.drop u.length)→a4 aB A→p ((Nat.min u.length T.length:Nat):Int) A):mW Z 1 (some ⟨N,0,none⟩) l (.slice a b8 bX) p:=by
 subst d;subst e
 have b:(u.take T.length).length=Nat.min u.length T.length:=by
  rw [List.length_take];exact Nat.min_comm _ _
 have j:Nat.min u.length T.length≤T.length:=Nat.min_le_right _ _
 refine⟨u.length,(u.take T.length).map g2,rfl,⟨by rw [List.length_map,b];omega,?_,?_⟩,?_,?_⟩
 ·intro v aU
  obtain⟨I,_,J⟩:=List.mem_map.mp aU
  subst J;rfl
 ·cases a with
  | none=>
   show(u.take T.length).map g2=[]
   cases u with
   | nil=>simp
   | cons aN u=>obtain⟨z,J,_⟩:=s.at_ 0 (by simp);cases J
  | some z=>
   refine Ac fun C c=>?_
   obtain⟨Af,J,f⟩:=(s.take T.length).at_ C c
   cases J
   rw [Nat.zero_add];exact f
 ·refine Ad fun C c=>?_
  rw [Nat.zero_add,w]
  rw [List.length_map,b] at c
  exact⟨⟨_,q.cell (by omega)⟩,q.frozen C⟩
 ·have:=Ae (bW:=u.take T.length) (Q:=0) q (fun I h=>s.words I (List.mem_of_mem_take h)) (by rw [b];omega) aP M
  refine g _ ?_ this.2
  have J:T.take 0 ++ (u.take T.length ++ T.drop (0+(u.take T.length).length))=u.take T.length ++ T.drop u.length:=by
   rw [List.take_zero,List.nil_append,Nat.zero_add,b]
   congr 1
   by_cases i:u.length≤T.length
   ·rw [show Nat.min u.length T.length=u.length from Nat.min_eq_left i]
   ·rw [show Nat.min u.length T.length=T.length from Nat.min_eq_right (by omega),List.drop_of_length_le (Nat.le_refl _),List.drop_of_length_le (by omega)]
  rw [← J];exact this.1
theorem u3{a:U}{l L:Nat}{I:Int}{n:Nat}(b:I=(n:Int))(c:n≤L){p:U→Nat→Nat→Prop}(g:p a n L):h7 1 a l L none (some (.int .i64 I)) none p:=by
 subst b
 show(0≤(n:Int)∧(n:Int)≤(L:Int))∧p (iP a L 0 1) ((n:Int).toNat - 0) (L - 0)
 refine⟨⟨by omega,by omega⟩,?_⟩
 have J:iP a L 0 1=a:=by
  unfold iP
  split
  ·rfl
  ·cases a <;> simp [Addr.add]
 rw [J];simpa using g
theorem Cn{a:U}{l L:Nat}{I:Int}{n:Nat}(b:I=(n:Int))(c:n≤l){p:U→Nat→Nat→Prop}(g:p (iP a L n 1) (l - n) (L - n)):h7 1 a l L (some (.int .i64 I)) none none p:=by
 subst b
 exact⟨⟨by omega,by omega⟩,by simpa using g⟩
theorem bF{P:Program}{a9:FuncId}{args:Array Value}{Z:V}{dK p:Value→V→Prop}(a:o2 P a9 args Z dK)(g:∀ v A,dK v A→p v A):o2 P a9 args Z p:=a.mono g
open Go.ChangeShapes Go.WideShapes Go.ChangeAt Go.RowKit
theorem Fq{aA cV:World}(O:fR aA cV)(M:a4 aA.heap cV.heap):Below aA.heap.size aA cV:=⟨O.os,O.tape,O.output,M.le,fun Q bE=>M.pre Q bE⟩
theorem wf_u64{n:Int}(Z:(Lit.int .u64 n).wf=true):0≤n∧n < 18446744073709551616:=by
 simp only [Lit.wf,Bool.and_eq_true,decide_eq_true_eq,IntKind.min,IntKind.max,IntKind.signed,IntKind.bits,Bool.false_eq_true,if_false] at Z
 have a:(2:Int) ^ 64=18446744073709551616:=by decide
 rw [a] at Z;omega
open Go.ChangeShapes Go.WideShapes Go.ChangeAt Go.RowKit
abbrev hQ(dC:Type):=V→List Value→dC→Prop
def o6{dC:Type}(dK:hQ dC):Prop:=∀ (Z A:V) (cQ:List Value) (a:dC),dK Z cQ a→a4 Z A→dK A cQ a
def q0{H:Type}(eI:TypeId × Value→H)(P:Program)(bV:World)(t:TypeId){dC:Type}(dK:hQ dC):Prop:=
 ∀ (b:Nat) (cQ:List Value) (I:DataW H × List MemPlace),DataW.trod eI P bV 0 (fun _=>true) true b t cQ=some I→(∀ n ∈ I.1.weights P t,n≤reachBytes)→∃ a,dK bV.heap cQ a
def u4(M:IntKind):hQ Int:=fun _ cQ n=>cQ=[.int M n]∧(Lit.int M n).wf=true
def u5:hQ Bool:=fun _ cQ N=>cQ=[.bool N]
def v9:hQ (List Nat):=fun Z cQ T=>∃ a L,cQ=[.slice a T.length L]∧bJ Z a L T∧T.length≤17592186043904
structure tG{dC:Type}(dK:hQ dC)(eZ m:Nat)(Z:V)(a:U)(L:Nat)(l:List dC):Prop where
 len:l.length≤m
 cap:l.length≤L
 at_:∀ Q I,l[Q]?=some I→∃ z bW,a=some z∧bW.length=eZ∧jX Z (z.add (Q*eZ)) 0 bW∧dK Z bW I
def Co{dC:Type}(dK:hQ dC)(eZ m:Nat):hQ (List dC):=fun Z cQ l=>∃ a L,cQ=[.slice a l.length L]∧tG dK eZ m Z a L l
theorem jX.B{Z A:V}(M:a4 Z A){z:Addr}:∀ {bW:List Value} {Q:Nat},jX Z z Q bW→jX A z Q bW
 | [],_,_=>trivial
 | _ :: _,_,g=>⟨M.cell g.1,jX.B M g.2⟩
theorem tG.B{dC:Type}{dK:hQ dC}(b:o6 dK){eZ m:Nat}{Z A:V}{a:U}{L:Nat}{l:List dC}(s:tG dK eZ m Z a L l)(M:a4 Z A):tG dK eZ m A a L l:=
 ⟨s.len,s.cap,fun Q I c=>let ⟨z,bW,J,aU,g,O⟩:=s.at_ Q I c;⟨z,bW,J,aU,g.B M,b _ _ _ _ O M⟩⟩
theorem Cp(M:IntKind):o6 (u4 M):=fun _ _ _ _ O _=>O
theorem Cq:o6 u5:=fun _ _ _ _ O _=>O
theorem Fs:o6 v9:=fun _ _ _ _ ⟨a,L,J,s,N⟩ M=>⟨a,L,J,s.B M,N⟩
section
variable {H:Type} {eI:TypeId × Value→H} {P:Program} {bV:World}
theorem Cr{t:TypeId}{M:IntKind}(a:P.underlying t=some (.int M)):q0 eI P bV t (u4 M):=by
 intro b cQ I Z _
 cases b with
 | zero=>simp [DataW.trod] at Z
 | succ n=>
  unfold DataW.trod at Z
  rw [a] at Z
  split at Z <;> simp_all
  rename_i eA m d
  obtain⟨⟨rfl,c⟩,_⟩:=Z
  exact⟨_,rfl,c⟩
theorem Cs{t:TypeId}(a:P.underlying t=some .bool):q0 eI P bV t u5:=by
 intro b cQ I Z _
 cases b with
 | zero=>simp [DataW.trod] at Z
 | succ n=>
  unfold DataW.trod at Z
  rw [a] at Z
  split at Z
  all_goals first
   | exact⟨_,rfl⟩
   | simp_all
theorem Ct{J:TypeId}{n:Nat}:∀ {a:List (DataW H)} {bH:DataW H},bH ∈ a→n ∈ bH.weights P J→n ∈ DataW.weightsAll P J a
 | [],_,Z,_=>by cases Z
 | bH :: a,c,Z,b=>by
  unfold DataW.weightsAll
  rcases List.mem_cons.mp Z with J | J
  ·subst J;exact List.mem_append_left _ b
  ·exact List.mem_append_right _ (Ct J b)
theorem Ft{aA:World}{a:Addr}{n:Nat}{bW:List Value}(Z:aA.cells? 0 a n=some bW):bW.length=n∧jX aA.heap a 0 bW:=by
 obtain⟨_,d,e⟩:=World.cells?_some Z
 refine⟨d,?_⟩
 have f:∀ (b:List Value) (Q:Nat),(∀ C,C < b.length→aA.cell? (a.add (Q+C))=b[C]?)→jX aA.heap a Q b:=by
  intro b
  induction b with
  | nil=>intro _ _;trivial
  | cons dU b h=>
   intro Q g
   refine⟨by have:=g 0 (by simp);simpa [zH] using this,h (Q+1) fun C c=>?_⟩
   have:=g (C+1) (by simpa using c)
   rw [show Q+1+C=Q+(C+1) by omega];simpa using this
 exact f bW 0 fun C c=>by rw [Nat.zero_add];exact e C (by omega)
theorem Fu{t J:TypeId}{dC:Type}{dK:hQ dC}{eZ hP m:Nat}(j:P.underlying t=some (.slice J))(D:P.cellsOf J=eZ)(aP:P.bytesOf J=hP)(Ld:1≤hP)(h:m=140737488351232 / hP)(q:q0 eI P bV J dK):q0 eI P bV t (Co dK eZ m):=by
 intro Le cQ I Z E
 rcases DataW.trod_slice j Z with ⟨rfl,rfl⟩ | ⟨a,len,cap,c,rest,n,rfl,rfl,rfl,_,G,_,Lf,K5,Lg,_⟩
 ·exact⟨[],none,0,rfl,by simp,by simp,fun Q I K6=>by simp at K6⟩
 have e:∀ m ∈ DataW.weights P t (.slice (c.map (·.1)) (rest.map (·.1)):DataW H),m≤reachBytes:=E
 unfold DataW.weights at e
 rw [j] at e
 have a0:=e ((c.map (·.1)).length+(rest.map (·.1)).length |> (·*P.bytesOf J)) (by simp)
 have Lh:reachBytes=140737488351232:=rfl
 have K7:len≤m:=by
  have Li:len*hP≤(c.length+rest.length)*P.bytesOf J:=Nat.mul_le_mul (by omega) (by omega)
  simp only [List.length_map] at a0
  rw [h,Nat.le_div_iff_mul_le (by omega)]
  omega
 have K8:∀ Q,Q < len→∃ b3:dC,∃ z bW,some a=some z∧bW.length=eZ∧jX bV.heap (z.add (Q*eZ)) 0 bW∧dK bV.heap bW b3:=by
  intro Q bE
  have g:=K5 Q bE
  rw [D] at g
  obtain⟨aN,v⟩:∃ aN,c[Q]?=some aN:=⟨c[Q]'(by omega),by simp⟩
  rw [v] at g
  obtain⟨bW,K9,La⟩:=Option.bind_eq_some_iff.mp g
  obtain⟨y,b8⟩:=Ft K9
  obtain⟨b3,d⟩:=q n bW aN La (fun m h=>e m (List.mem_cons_of_mem _ (List.mem_append_left _ (Ct (List.mem_map_of_mem (List.mem_of_getElem? v)) h))))
  exact⟨b3,a,bW,rfl,y,b8,d⟩
 have build:∀ M,M≤len→∃ l:List dC,l.length=M∧∀ Q b3,l[Q]?=some b3→∃ z bW,some a=some z∧bW.length=eZ∧jX bV.heap (z.add (Q*eZ)) 0 bW∧dK bV.heap bW b3:=by
  intro M
  induction M with
  | zero=>intro _;exact⟨[],rfl,fun Q b3 d=>by simp at d⟩
  | succ M Lb=>
   intro Lj
   obtain⟨l,f,i⟩:=Lb (by omega)
   obtain⟨b3,d⟩:=K8 M (by omega)
   refine⟨l ++ [b3],by simp [f],fun Q kH b=>?_⟩
   by_cases bE:Q < l.length
   ·rw [List.getElem?_append_left bE] at b;exact i Q kH b
   ·rw [List.getElem?_append_right (by omega)] at b
    have Lc:Q=M:=by
     have:=(List.getElem?_eq_some_iff.mp b).1
     simp at this;omega
    subst Lc
    rw [f,Nat.sub_self] at b
    simp at b
    subst b;exact d
 obtain⟨l,f,i⟩:=build len (Nat.le_refl _)
 subst f
 exact⟨l,some a,cap,rfl,K7,G,i⟩
theorem Cu{t J:TypeId}(d:P.underlying t=some (.slice J))(g:P.underlying J=some (.int .u64))(h:P.cellsOf J=1)(aP:P.bytesOf J=8):q0 eI P bV t v9:=by
 intro K7 cQ I dJ i
 rcases open_ints d g h dJ with ⟨rfl,_⟩ | ⟨a,len,cap,aK,rfl,_,K8,K9,j,l,m,v⟩
 ·exact⟨[],none,0,rfl,bJ.nil _ _ _,by simp⟩
 ·have b:=i
  rw [show I.1=.slice (lits .u64 (aK.take len)) (lits .u64 (aK.drop len)) from congrArg Prod.fst l] at b
  unfold DataW.weights at b
  rw [d] at b
  have aY:=b (((lits (H:=H) .u64 (aK.take len)).length+(lits (H:=H) .u64 (aK.drop len)).length)*P.bytesOf J) (by simp)
  have D:aK.length=cap:=by simpa using j
  have E:(lits (H:=H) .u64 (aK.take len)).length+(lits (H:=H) .u64 (aK.drop len)).length=aK.length:=by
   simp [lits];omega
  rw [aP,E,D] at aY
  have La:reachBytes=140737488351232:=rfl
  have e:∀ n ∈ aK,0≤n∧n < 18446744073709551616:=fun n c=>wf_u64 (v n c)
  refine⟨(aK.take len).map Int.toNat,some a,cap,by simp;omega,⟨?_,?_,?_,?_⟩,by simp;omega⟩
  ·simp;omega
  ·simp;omega
  ·intro aN G
   obtain⟨n,c,rfl⟩:=List.mem_map.mp G
   have:=e n (List.mem_of_mem_take c);omega
  ·intro Q bE
   have hI:Q < len:=by simp at bE;omega
   refine⟨a,rfl,?_⟩
   have f:=m Q (by omega)
   rw [zH] at f
   rw [f]
   have K5:((aK.take len).map Int.toNat).getD Q 0=(aK.getD Q 0).toNat:=by
    simp [List.getD,hI,show Q < aK.length by omega]
   rw [K5]
   have K6:aK.getD Q 0=aK[Q]'(by omega):=by simp [List.getD,show Q < aK.length by omega]
   have:=e _ (List.getElem_mem (show Q < aK.length by omega))
   rw [K6]
   show some (Value.int .u64 aK[Q])=some (.int .u64 ((aK[Q].toNat:Nat):Int))
   rw [Int.toNat_of_nonneg this.1]
def tH:hQ Unit:=fun _ cQ _=>cQ=[]
def kI{dC gM:Type}(dK:hQ dC)(n:Nat)(dF:hQ gM):hQ (dC × gM):=fun Z cQ z=>cQ.length=n+(cQ.drop n).length∧dK Z (cQ.take n) z.1∧dF Z (cQ.drop n) z.2
theorem Cv:o6 tH:=fun _ _ _ _ O _=>O
theorem u6{dC gM:Type}{dK:hQ dC}{dF:hQ gM}(a:o6 dK)(b:o6 dF)(n:Nat):o6 (kI dK n dF):=fun _ _ _ _ ⟨l,O,t⟩ M=>⟨l,a _ _ _ _ O M,b _ _ _ _ t M⟩
def u7{H:Type}(eI:TypeId × Value→H)(P:Program)(bV:World)(eO:List Field)(b q b:Nat){dC:Type}(dK:hQ dC):Prop:=
 ∀ (n:Nat) (cQ:List Value) (T:List (DataW H × List MemPlace)),cQ.length=b→(∀ (C:Nat) (a9:Field),eO[C]?=some a9→DataW.trod eI P bV 0 (fun _=>true) true n a9.type ((cQ.drop a9.offset).take (P.cellsOf a9.type))=T[C]?)→
  (∀ (C:Nat) (a9:Field) (I:DataW H × List MemPlace),eO[C]?=some a9→T[C]?=some I→∀ m ∈ I.1.weights P a9.type,m≤reachBytes)→T.length=eO.length→∃ a,dK bV.heap (cQ.drop q) a
theorem Ag{eO:List Field}{Q a:Nat}:u7 eI P bV eO Q a a tH:=
 fun _ cQ _ b _ _ _=>⟨(),by show cQ.drop a=[];rw [← b,List.drop_length]⟩
theorem Fv{eO:List Field}{Q q b eZ:Nat}{a9:Field}{dC gM:Type}{dK:hQ dC}{dF:hQ gM}(dJ:eO[Q]?=some a9)(h:a9.offset=q)(aY:P.cellsOf a9.type=eZ)(t:q+eZ≤b)(i:q0 eI P bV a9.type dK)(j:u7 eI P bV eO (Q+1) (q+eZ) b dF):u7 eI P bV eO Q q b (kI dK eZ dF):=by
 intro n cQ T l c d e
 obtain⟨N,aP⟩:=j n cQ T l c d e
 have g:=c Q a9 dJ
 have bE:Q < T.length:=by rw [e];exact(List.getElem?_eq_some_iff.mp dJ).1
 have f:T[Q]?=some T[Q]:=by simp
 rw [f,h,aY] at g
 obtain⟨a,m⟩:=i n _ _ g (d Q a9 _ dJ f)
 refine⟨(a,N),?_,m,?_⟩
 ·rw [List.drop_drop,List.length_drop,List.length_drop];omega
 ·rw [List.drop_drop];exact aP
theorem rX{eO:List Field}{Q q a eZ t:Nat}{dC gM:Type}{dK:hQ dC}{dF:hQ gM}(dJ:(eO[Q]?).map (fun a9=>(a9.offset,a9.type))=some (q,t))(aY:P.cellsOf t=eZ)(c:q+eZ≤a)(d:q0 eI P bV t dK)(e:u7 eI P bV eO (Q+1) (q+eZ) a dF):u7 eI P bV eO Q q a (kI dK eZ dF):=by
 cases b:eO[Q]? with
 | none=>rw [b] at dJ;cases dJ
 | some a9=>
  rw [b] at dJ
  simp only [Option.map_some,Option.some.injEq,Prod.mk.injEq] at dJ
  obtain⟨a0,f⟩:=dJ
  subst f
  exact Fv b a0 aY c d e
theorem Cw{m:Nat}:∀ {eO:List Field} {a:List (DataW H)} {C:Nat} {a9:Field} {bH:DataW H},eO[C]?=some a9→a[C]?=some bH→m ∈ bH.weights P a9.type→m ∈ DataW.weightsEach P (eO.map (·.type)) a
 | [],_,_,_,_,Z,_,_=>by simp at Z
 | _ :: _,[],_,_,_,_,Z,_=>by simp at Z
 | a9 :: eO,bH :: a,0,c,d,Z,A,b=>by
  simp at Z A;subst Z;subst A
  show m ∈ DataW.weights P a9.type bH ++ DataW.weightsEach P (eO.map (·.type)) a
  exact List.mem_append_left _ b
 | a9 :: eO,bH :: a,C+1,c,d,Z,A,b=>by
  show m ∈ DataW.weights P a9.type bH ++ DataW.weightsEach P (eO.map (·.type)) a
  exact List.mem_append_right _ (Cw (by simpa using Z) (by simpa using A) b)
theorem Ah{t:TypeId}{eO:Array Field}{dC:Type}{dK:hQ dC}{c:Nat}(d:P.underlying t=some (.struct eO))(e:P.cellsOf t=c)(q:u7 eI P bV eO.toList 0 0 c dK):q0 eI P bV t dK:=by
 intro l cQ I Z f
 obtain⟨T,n,_,rfl,g,h,dJ⟩:=DataW.trod_struct d Z
 have a:∀ m ∈ DataW.weights P t (.agg (T.map (·.1)):DataW H),m≤reachBytes:=f
 unfold DataW.weights at a
 rw [d] at a
 have:=q n cQ T (by rw [g,e]) (fun C a9 b=>dJ C a9 (by simpa using b)) (fun C a9 I b i m j=>a m (Cw b (by rw [List.getElem?_map,i];rfl) j)) (by simpa using h)
 simpa using this
theorem Fw{t:TypeId}{v:Value}{bH:DataW H}{z:List MemPlace}{dC:Type}{dK:hQ dC}(q:q0 eI P bV t dK)(Z:DataW.Trod eI P bV 0 (fun _=>true) true t v bH z){jL:List TypeId}{b:List (DataW H)}(c:(DataW.weightsEach P jL b).all (·≤reachBytes)=true){C:Nat}(d:jL[C]?=some t)(e:b[C]?=some bH):
  ∃ a,dK bV.heap v.cells.toList a:=by
 obtain⟨f,dJ⟩:=Z
 refine q f _ _ dJ fun m g=>?_
 have:=List.all_eq_true.1 c _ (DataW.weights_mem_each d e m g)
 simpa using this
end
def val:List Nat→Nat
 | []=>0
 | I :: T=>I+18446744073709551616*val T
def aE(n:Nat):List Nat:=if Z:n=0 then [] else n % 18446744073709551616 :: aE (n / 18446744073709551616)
 termination_by n
 decreasing_by omega
def dH:List Nat→List Nat
 | []=>[]
 | I :: T=>if I=0∧dH T=[] then [] else I :: dH T
def Words(T:List Nat):Prop:=∀ I ∈ T,I < 18446744073709551616
theorem Words.cons{I:Nat}{T:List Nat}(Z:Words (I :: T)):I < 18446744073709551616∧Words T:=⟨Z I (by simp),fun aN a=>Z aN (by simp [a])⟩
theorem dM:aE 0=[]:=by unfold aE;simp
theorem lA{n:Nat}(Z:n ≠ 0):aE n=n % 18446744073709551616 :: aE (n / 18446744073709551616):=by
 rw [aE];simp [Z]
theorem p7(n:Nat):Words (aE n):=by
 induction n using Nat.strongRecOn with
 | ind n b=>
  by_cases Z:n=0
  ·subst Z;rw [dM];intro I a;cases a
  ·rw [lA Z];intro I a
   rcases List.mem_cons.mp a with J | J
   ·omega
   ·exact b _ (by omega) I J
theorem fA(n:Nat):val (aE n)=n:=by
 induction n using Nat.strongRecOn with
 | ind n a=>
  by_cases Z:n=0
  ·subst Z;rw [dM];rfl
  ·rw [lA Z];show n % _+_*val (aE _)=n
   rw [a _ (by omega)];omega
theorem o7{T:List Nat}:dH T=[]↔val T=0:=by
 induction T with
 | nil=>simp [dH,val]
 | cons I T a=>
  simp only [dH,val]
  split
  ·next Z=>simp only [true_iff];have:=a.mp Z.2;omega
  ·next Z=>
   simp only [reduceCtorEq,false_iff]
   intro J
   exact Z ⟨by omega,a.mpr (by omega)⟩
theorem mC{T:List Nat}(a:Words T):aE (val T)=dH T:=by
 induction T with
 | nil=>simp [val,dH,dM]
 | cons I T b=>
  have c:=a.cons
  simp only [dH,val]
  split
  ·next Z=>rw [Z.1,o7.mp Z.2];exact dM
  ·next Z=>
   have d:I+18446744073709551616*val T ≠ 0:=fun J=>Z ⟨by omega,o7.mpr (by omega)⟩
   rw [lA d]
   have e:(I+18446744073709551616*val T) % 18446744073709551616=I:=by omega
   have f:(I+18446744073709551616*val T) / 18446744073709551616=val T:=by omega
   rw [e,f,b c.2]
theorem rY(T:List Nat):val (dH T)=val T:=by
 induction T with
 | nil=>rfl
 | cons I T a=>
  simp only [dH]
  split
  ·next Z=>simp only [val];rw [Z.1,o7.mp Z.2]
  ·simp only [val];rw [a]
theorem nR(n:Nat):dH (aE n)=aE n:=by rw [← mC (p7 n),fA]
theorem Ai(T:List Nat):dH (dH T)=dH T:=by
 induction T with
 | nil=>rfl
 | cons I T a=>
  simp only [dH]
  split
  ·rfl
  ·next Z=>simp only [dH,a];rw [if_neg Z]
theorem u9(T:List Nat):(dH T).length≤T.length:=by
 induction T with
 | nil=>simp [dH]
 | cons I T a=>
  simp only [dH]
  split
  ·simp
  ·simpa using a
theorem vA(T:List Nat):dH (T ++ [0])=dH T:=by
 induction T with
 | nil=>simp [dH]
 | cons I T a=>simp only [List.cons_append,dH,a]
theorem wA(T:List Nat){I:Nat}(a:I ≠ 0):dH (T ++ [I])=T ++ [I]:=by
 induction T with
 | nil=>simp [dH,a]
 | cons aN T b=>
  simp only [List.cons_append,dH,b]
  rw [if_neg (by simp)]
theorem lX{T:List Nat}{n:Nat}(Z:n < T.length):T.take (n+1)=T.take n ++ [T.getD n 0]:=by
 rw [List.take_add_one];simp [List.getD,Z]
theorem tI{T:List Nat}:dH T=T↔(T=[]∨T.getD (T.length - 1) 0 ≠ 0):=by
 by_cases Z:T.length=0
 ·have J:T=[]:=List.length_eq_zero_iff.mp Z
  subst J;simp [dH]
 ·obtain⟨n,a⟩:∃ n,T.length=n+1:=⟨T.length - 1,by omega⟩
  have J:T=T.take n ++ [T.getD n 0]:=by rw [← lX (by omega),← a,List.take_length]
  have c:T ≠ []:=fun J=>by subst J;simp at a
  rw [a];simp only [Nat.add_sub_cancel]
  constructor
  ·intro b
   refine Or.inr fun aB=>?_
   rw [aB] at J
   rw [J,vA] at b
   have:=u9 (T.take n)
   rw [b] at this;simp at this;omega
  ·rintro(a0 | a0)
   ·exact absurd a0 c
   ·rw [J];exact wA _ a0
def eS(n:Nat):List Nat × Int:=if (aE n).length≤8192 then(aE n,0) else([],5)
def gI(T:List Nat):Prop:=T.length≤8192∧dH T=T
instance (T:List Nat):Decidable (gI T):=by unfold gI;infer_instance
theorem gI.aE{T:List Nat}(Z:gI T)(a:Words T):Gv.aE (val T)=T:=by rw [mC a,Z.2]
theorem gI.eS{T:List Nat}(Z:gI T)(a:Words T):Gv.eS (val T)=(T,0):=by
 unfold Gv.eS;rw [Z.aE a,if_pos Z.1]
theorem mD{n m:Nat}(Z:n≤m):(aE n).length≤(aE m).length:=by
 induction m using Nat.strongRecOn generalizing n with
 | ind m b=>
  by_cases a:n=0
  ·subst a;rw [dM];simp
  ·rw [lA a,lA (n:=m) (by omega)]
   simp only [List.length_cons]
   exact Nat.succ_le_succ (b (m / 18446744073709551616) (by omega) (Nat.div_le_div_right Z))
theorem tJ{O:List Nat}{C t:Nat}(Z:C < O.length):(O.set C t).take (C+1)=O.take C ++ [t]:=by
 rw [List.take_add_one,List.take_set_of_le (Nat.le_refl C)];simp [Z]
theorem iI{T:List Nat}{C:Nat}(Z:C < T.length):T.drop C=T.getD C 0 :: T.drop (C+1):=by
 rw [List.drop_eq_getElem_cons Z];simp [List.getD,Z]
theorem xV(T:List Nat)(C:Nat):(T.drop C).headD 0=T.getD C 0:=by
 simp [List.getD,List.headD_eq_head?_getD,List.head?_drop]
def q1:List Nat→List Nat→Nat→List Nat
 | [],_,L=>[L]
 | I :: T,u,L=>(I+u.headD 0+L) % 18446744073709551616 :: q1 T u.tail ((I+u.headD 0+L) / 18446744073709551616)
theorem xW(u:List Nat):val u=u.headD 0+18446744073709551616*val u.tail:=by cases u <;> simp [val]
theorem Cx:∀ (T u:List Nat) (L:Nat),u.length≤T.length→val (q1 T u L)=val T+val u+L
 | [],u,L,Z=>by
  have J:u=[]:=List.length_eq_zero_iff.mp (by simpa using Z)
  subst J;simp [q1,val]
 | I :: T,u,L,Z=>by
  simp only [q1,val]
  rw [Cx T u.tail _ (by simp at Z ⊢;omega)]
  have:=xW u
  omega
def o8:List Nat→List Nat→Nat→List Nat
 | [],_,_=>[]
 | I :: T,u,L=>(I+18446744073709551616 - u.headD 0 - L) % 18446744073709551616 :: o8 T u.tail (if I < u.headD 0+L then 1 else 0)
theorem Aj:∀ (T u:List Nat) (L:Nat),Words T→Words u→u.length≤T.length→L≤1→val u+L≤val T→val (o8 T u L)+(val u+L)=val T
 | [],u,L,_,_,Z,_,aU=>by
  have J:u=[]:=List.length_eq_zero_iff.mp (by simpa using Z)
  subst J;simp [o8,val] at aU ⊢;omega
 | I :: T,u,L,a,b,Z,e,aU=>by
  have aP:u.headD 0 < 18446744073709551616:=by cases u with
   | nil=>decide
   | cons aN u=>exact b.cons.1
  have c:Words u.tail:=by cases u with
   | nil=>exact b
   | cons aN u=>exact b.cons.2
  have f:=a.cons.1
  have:=xW u
  simp only [o8,val] at aU ⊢
  have d:u.tail.length≤T.length:=by simp at Z ⊢;omega
  by_cases dE:I < u.headD 0+L
  ·rw [if_pos dE]
   have:=Aj T u.tail 1 a.cons.2 c d (by omega) (by omega)
   omega
  ·rw [if_neg dE]
   have:=Aj T u.tail 0 a.cons.2 c d (by omega) (by omega)
   omega
theorem tK:∀ {T u:List Nat} {C:Nat},Words T→Words u→T.length=u.length→C < T.length→T.drop (C+1)=u.drop (C+1)→T.getD C 0 < u.getD C 0→val T < val u
 | [],_,_,_,_,_,a,_,_=>absurd a (by simp)
 | I :: T,[],_,_,_,b,_,_,_=>absurd b (by simp)
 | I :: T,aN :: u,0,c,d,b,a,aJ,Z=>by
  have J:T=u:=by simpa using aJ
  subst J
  simp only [List.getD_cons_zero] at Z
  simp only [val];omega
 | I :: T,aN :: u,C+1,c,d,b,a,aJ,Z=>by
  have:=tK (T:=T) (u:=u) (C:=C) c.cons.2 d.cons.2 (by simpa using b) (by simpa using a) (by simpa using aJ) (by simpa using Z)
  have a0:=c.cons.1
  have e:=d.cons.1
  simp only [val];omega
theorem xX{aN:Nat}{u:List Nat}(Z:dH (aN :: u)=aN :: u):dH u=u:=by
 simp only [dH] at Z
 split at Z
 ·cases Z
 ·exact List.tail_eq_of_cons_eq Z
theorem q2:∀ {T u:List Nat},Words T→dH u=u→T.length < u.length→val T < val u
 | _,[],_,_,Z=>absurd Z (by simp)
 | [],aN :: u,_,a,_=>by
  have:val (aN :: u) ≠ 0:=fun J=>by rw [o7.mpr J] at a;cases a
  simp only [val] at this ⊢;omega
 | I :: T,aN :: u,b,a,Z=>by
  have:=q2 (T:=T) (u:=u) b.cons.2 (xX a) (by simpa using Z)
  have a0:=b.cons.1
  simp only [val];omega
def e6(m n:Nat):Int:=if m < n then -1 else if m=n then 0 else 1
theorem hR(T u:List Nat):val (T ++ u)=val T+2 ^ (64*T.length)*val u:=by
 induction T with
 | nil=>simp [val]
 | cons I T a=>
  simp only [List.cons_append,val,a,List.length_cons]
  have J:2 ^ (64*(T.length+1))=18446744073709551616*2 ^ (64*T.length):=by
   rw [show 64*(T.length+1)=64+64*T.length by omega,Nat.pow_add]
  rw [J,Nat.mul_add,Nat.mul_assoc];omega
theorem hS{T:List Nat}(a:Words T):val T < 2 ^ (64*T.length):=by
 induction T with
 | nil=>simp [val]
 | cons I T b=>
  have J:2 ^ (64*(T.length+1))=18446744073709551616*2 ^ (64*T.length):=by
   rw [show 64*(T.length+1)=64+64*T.length by omega,Nat.pow_add]
  rw [List.length_cons,J];simp only [val]
  have a0:=a.cons.1
  have c:=b a.cons.2
  omega
def eU(n:Nat):Nat:=if n=0 then 0 else Nat.log2 n+1
theorem j6{n M:Nat}:eU n≤M↔n < 2 ^ M:=by
 unfold eU
 by_cases Z:n=0
 ·subst Z;simp [Nat.pow_pos]
 ·rw [if_neg Z];exact Nat.log2_lt Z
theorem Fx{n m:Nat}(Z:∀ M,eU n≤M↔m≤M):eU n=m:=Nat.le_antisymm ((Z m).mpr (Nat.le_refl _)) ((Z _).mp (Nat.le_refl _))
theorem tL(n O:Nat):eU (n / 2 ^ O)=eU n - O:=by
 refine Fx fun M=>?_
 rw [j6,Nat.div_lt_iff_lt_mul (Nat.pow_pos (by decide)),← Nat.pow_add,← j6];omega
theorem Ak:eU 0=0:=rfl
theorem q3{n:Nat}(Z:n ≠ 0):0 < eU n:=by unfold eU;rw [if_neg Z];omega
theorem wB{T:List Nat}(a:Words T){n:Nat}(b:T.length=n+1)(aB:T.getD n 0 ≠ 0):eU (val T)=64*n+eU (T.getD n 0):=by
 have J:T=T.take n ++ [T.getD n 0]:=by rw [← lX (by omega),← b,List.take_length]
 have aU:val T=val (T.take n)+2 ^ (64*n)*T.getD n 0:=by
  conv=>lhs;rw [J]
  rw [hR];simp [val,show min n T.length=n by omega]
 have dE:val (T.take n) < 2 ^ (64*n):=by
  have:=hS (T:=T.take n) (fun I c=>a I (List.mem_of_mem_take c))
  rwa [List.length_take,show min n T.length=n by omega] at this
 have aJ:val T / 2 ^ (64*n)=T.getD n 0:=by
  rw [aU,Nat.add_mul_div_left _ _ (Nat.pow_pos (by decide)),Nat.div_eq_of_lt dE,Nat.zero_add]
 have:=tL (val T) (64*n)
 rw [aJ] at this
 have:=q3 aB
 omega
theorem gF{n M:Nat}:(aE n).length≤M↔n < 2 ^ (64*M):=by
 constructor
 ·intro Z
  have:=hS (p7 n)
  rw [fA] at this
  exact Nat.lt_of_lt_of_le this (Nat.pow_le_pow_right (by decide) (by omega))
 ·intro Z
  induction M generalizing n with
  | zero=>
   have:n=0:=by simpa using Z
   subst this;rw [dM];simp
  | succ M a=>
   by_cases aB:n=0
   ·subst aB;rw [dM];simp
   ·rw [lA aB,List.length_cons]
    have J:2 ^ (64*(M+1))=2 ^ (64*M)*18446744073709551616:=by
     rw [show 64*(M+1)=64*M+64 by omega,Nat.pow_add]
    rw [J] at Z
    have:=a (n:=n / 18446744073709551616) (Nat.div_lt_of_lt_mul (by rw [Nat.mul_comm];exact Z))
    omega
theorem Al{aL bA M:Nat}(a:(aE aL).length≤M)(b:(aE bA).length≤M):(aE (aL+bA)).length≤M+1:=by
 refine gF.mpr ?_
 have a0:=gF.mp a
 have c:=gF.mp b
 have J:2 ^ (64*(M+1))=2 ^ (64*M)*18446744073709551616:=by
  rw [show 64*(M+1)=64*M+64 by omega,Nat.pow_add]
 rw [J];generalize 2 ^ (64*M)=z at *;omega
theorem wC{v:Nat}(n:Nat)(Z:v ≠ 0):eU (v*2 ^ n)=eU v+n:=by
 have a0:=tL (v*2 ^ n) n
 rw [Nat.mul_div_cancel _ (Nat.pow_pos (by decide))] at a0
 have a:=q3 Z
 omega
theorem xY{v:Nat}(M:Nat):eU v≤64*M↔(aE v).length≤M:=by
 rw [gF,j6]
theorem Am{v:Nat}:eU v≤524288↔(aE v).length≤8192:=xY 8192
theorem Fy{v:Nat}(Z:¬ eU v≤524288):eS v=([],5):=by
 unfold eS;rw [if_neg (fun a=>Z (Am.mpr a))]
theorem kW{T:List Nat}(a:Words T)(m:Nat):val (T.drop m)=val T / 2 ^ (64*m):=by
 by_cases b:m≤T.length
 ·have J:val T=val (T.take m)+2 ^ (64*m)*val (T.drop m):=by
   conv=>lhs;rw [← List.take_append_drop m T]
   rw [hR,List.length_take,Nat.min_eq_left b]
  have dE:=hS (T:=T.take m) (fun I c=>a I (List.mem_of_mem_take c))
  rw [List.length_take,Nat.min_eq_left b] at dE
  rw [J,Nat.add_mul_div_left _ _ (Nat.pow_pos (by decide)),Nat.div_eq_of_lt dE,Nat.zero_add]
 ·rw [List.drop_of_length_le (by omega)]
  have:=hS a
  have d:2 ^ (64*T.length)≤2 ^ (64*m):=Nat.pow_le_pow_right (by decide) (by omega)
  rw [Nat.div_eq_of_lt (by omega)];rfl
theorem mY{M:Nat}(a:M < 64):2 ^ M*2 ^ (64 - M)=18446744073709551616:=by
 rw [← Nat.pow_add,show M+(64 - M)=64 by omega]
theorem An{M:Nat}(b:M < 64):2 ^ M < 18446744073709551616:=by
 have:=Nat.pow_lt_pow_right (a:=2) (by decide) b
 exact Nat.lt_of_lt_of_le this (by decide)
theorem Cy{T:List Nat}(a:Words T){m M:Nat}(b:m < T.length)(c:M < 64):val (T.take m ++ [T.getD m 0 % 2 ^ M])=val T % 2 ^ (64*m+M):=by
 have J:val T=val (T.take m)+2 ^ (64*m)*val (T.drop m):=by
  conv=>lhs;rw [← List.take_append_drop m T]
  rw [hR,List.length_take,Nat.min_eq_left (by omega)]
 have dE:=hS (T:=T.take m) (fun I d=>a I (List.mem_of_mem_take d))
 rw [List.length_take,Nat.min_eq_left (by omega)] at dE
 rw [hR,List.length_take,Nat.min_eq_left (by omega),Nat.pow_add,Nat.mod_mul,J,Nat.add_mul_mod_self_left,Nat.mod_eq_of_lt dE,Nat.add_mul_div_left _ _ (Nat.pow_pos (by decide)),Nat.div_eq_of_lt dE,Nat.zero_add,iI b]
 simp only [val,Nat.mul_zero,Nat.add_zero]
 congr 2
 rw [← mY c,Nat.mul_assoc,Nat.add_mul_mod_self_left]
theorem cD{z:Prop}[Decidable z]{bD aX:Prop}(a:z→bD)(b:¬z→aX):cond (decide z) bD aX:=by
 by_cases Z:z
 ·simp only [Z,decide_true,cond_true];exact a Z
 ·simp only [Z,decide_false,cond_false];exact b Z
theorem hU{I aN:Int}{bD aX:Prop}(a:I=aN→bD)(b:I ≠ aN→aX):cond (I == aN) bD aX:=by
 by_cases Z:I=aN
 ·simp only [Z,beq_self_eq_true,cond_true];exact a Z
 ·simp only [beq_eq_false_iff_ne.mpr Z,cond_false];exact b Z
theorem mZ{I aN:Int}{bD aX:Prop}(a:I ≠ aN→bD)(b:I=aN→aX):cond (I != aN) bD aX:=by
 by_cases Z:I=aN
 ·simp only [Z,bne_self_eq_false,cond_false];exact b Z
 ·simp only [bne_iff_ne.mpr Z,cond_true];exact a Z
theorem h9{N:Bool}{bD aX:Prop}(a:N=false→bD)(b:N=true→aX):cond (!N) bD aX:=by
 cases N
 ·exact a rfl
 ·exact b rfl
theorem Ao{N:Bool}{bD aX:Prop}(a:N=true→bD)(b:N=false→aX):cond N bD aX:=by
 cases N
 ·exact b rfl
 ·exact a rfl
theorem cP{I:Int}(aN:Int)(J:I=aN)(a0:-9223372036854775808≤aN)(a:aN < 9223372036854775808){p:Int→Prop}(g:p aN):a2 (IntKind.i64.wrap I) p:=by
 subst J;refine⟨?_⟩;show p _;rw [wrap_i64 a0 a];exact g
def n8(Z:V)(o:Nat):Option Nat:=match Z[o]? with | some (.cells L _ _)=>some L.size | _=>none
structure a1(o:Nat)(Z A:V):Prop where
 le:Z.size≤A.size
 pre:∀ N,N < Z.size→N ≠ o→A[N]?=Z[N]?
 len:∀ m,n8 Z o=some m→n8 A o=some m
theorem a1.refl(o:Nat)(Z:V):a1 o Z Z:=⟨Nat.le_refl _,fun _ _ _=>rfl,fun _ J=>J⟩
theorem a1.trans{o:Nat}{a N L:V}(I:a1 o a N)(aN:a1 o N L):a1 o a L:=
 ⟨Nat.le_trans I.le aN.le,fun Q bE b=>(aN.pre Q (Nat.lt_of_lt_of_le bE I.le) b).trans (I.pre Q bE b),fun m J=>aN.len m (I.len m J)⟩
theorem Cz{Z:V}{o m:Nat}(J:n8 Z o=some m):o < Z.size:=by
 rcases Nat.lt_or_ge o Z.size with a | a
 ·exact a
 ·unfold n8 at J;rw [Array.getElem?_eq_none a] at J;cases J
theorem a4.Ap{o:Nat}{Z A:V}(M:a4 Z A):a1 o Z A:=
 ⟨M.le,fun N aP _=>M.pre N aP,fun m J=>by have:=M.pre o (Cz J);unfold n8 at *;rw [this];exact J⟩
theorem a1.B{o:Nat}{aB Z A:V}(aR:a4 aB Z)(M:a1 o Z A)(a:aB.size≤o):a4 aB A:=
 ⟨Nat.le_trans aR.le M.le,fun N aP=>(M.pre N (Nat.lt_of_lt_of_le aP aR.le) (by omega)).trans (aR.pre N aP)⟩
theorem a1.set(o:Nat)(Z:V)(Q:Nat)(v:Value):a1 o Z (fY Z ⟨o,Q,none⟩ v):=
 ⟨by rw [Ab];exact Nat.le_refl _,fun N _ aP=>Aa aP,fun m J=>by
  unfold n8 at *
  split at J
  ·rename_i L a b c
   have:(fY Z ⟨o,Q,none⟩ v)[o]?=some (.cells (L.setIfInBounds Q v) a b):=by
    unfold fY
    rw [Array.getElem?_modify,if_pos rfl,c]
    rfl
   rw [this]
   simpa using J
  ·cases J⟩
def fT(o:Nat)(a:U):Prop:=∀ z,a=some z→z.block ≠ o
theorem fT.none(o:Nat):fT o none:=fun z J=>by cases J
theorem fT.sub{o:Nat}{a:U}(q:fT o a)(m l eZ:Nat):fT o (iP a m l eZ):=by
 intro z J
 unfold iP at J
 split at J
 ·exact q z J
 ·cases a with
  | none=>cases J
  | some s=>
   simp only [Option.map_some,Option.some.injEq] at J
   rw [← J,tD];exact q s rfl
theorem bJ.bT{o:Nat}{Z A:V}{a:U}{L:Nat}{T:List Nat}(s:bJ Z a L T)(q:fT o a)(M:a1 o Z A):bJ A a L T:=
 ⟨s.len,s.cap,s.words,fun Q bE=>by
  obtain⟨z,J,g⟩:=s.at_ Q bE
  refine⟨z,J,?_⟩
  have aP:=xT g
  rw [tC (M.pre _ aP (by rw [tD];exact q z J))];exact g⟩
theorem eM.bT{o N:Nat}{Z A:V}{T:List Nat}(q:eM Z N T)(aP:N ≠ o)(M:a1 o Z A):eM A N T:=by
 obtain⟨J,g⟩:=q.at_
 exact⟨q.len,q.words,J,by rw [M.pre N q.lt aP];exact g⟩
theorem bJ.off{Z:V}{a:U}{L:Nat}{T:List Nat}(s:bJ Z a L T){o:Nat}(c:Z.size≤o):T=[]∨fT o a:=by
 cases T with
 | nil=>exact Or.inl rfl
 | cons I T=>
  obtain⟨z,J,g⟩:=s.at_ 0 (by simp)
  have aP:=xT g
  rw [tD] at aP
  refine Or.inr fun Af b=>?_
  rw [J] at b;cases b;omega
def eG(Z:V)(N:Nat)(T:List Nat):Prop:=∃ rest,eM Z N (T ++ rest)
theorem eM.CA{Z:V}{N:Nat}{T:List Nat}(q:eM Z N T):eG Z N T:=⟨[],by rw [List.append_nil];exact q⟩
theorem eG.words{Z:V}{N:Nat}{T:List Nat}(q:eG Z N T):Words T:=fun I a=>by
 obtain⟨s,q⟩:=q;exact q.words I (List.mem_append_left _ a)
theorem eG.len{Z:V}{N:Nat}{T:List Nat}(q:eG Z N T):T.length≤35184372088828:=by
 obtain⟨s,q⟩:=q;have:=q.len;rw [List.length_append] at this;omega
theorem eG.lt{Z:V}{N:Nat}{T:List Nat}(q:eG Z N T):N < Z.size:=by obtain⟨s,q⟩:=q;exact q.lt
theorem eG.take{Z:V}{N:Nat}{T:List Nat}(q:eG Z N T)(n:Nat):eG Z N (T.take n):=by
 obtain⟨s,q⟩:=q
 exact⟨T.drop n ++ s,by rw [← List.append_assoc,List.take_append_drop];exact q⟩
theorem eG.bT{o N:Nat}{Z A:V}{T:List Nat}(q:eG Z N T)(aP:N ≠ o)(M:a1 o Z A):eG A N T:=by
 obtain⟨s,q⟩:=q;exact⟨s,q.bT aP M⟩
theorem eG.B{N:Nat}{Z A:V}{T:List Nat}(q:eG Z N T)(M:a4 Z A):eG A N T:=by
 obtain⟨s,q⟩:=q;exact⟨s,q.B M⟩
theorem eG.word{Z:V}{N:Nat}{T:List Nat}(q:eG Z N T)(Q:Nat):T.getD Q 0 < 18446744073709551616:=v7 q.words Q
theorem eG.rd{Z:V}{N L:Nat}{T:List Nat}(q:eG Z N T)(a:T.length≤L):bJ Z (some ⟨N,0,none⟩) L T:=by
 refine⟨q.len,a,q.words,fun Q bE=>⟨_,rfl,?_⟩⟩
 obtain⟨s,q⟩:=q
 rw [w,q.cell (by rw [List.length_append];omega)]
 have J:(T ++ s).getD Q 0=T.getD Q 0:=by simp [List.getD,List.getElem?_append_left bE]
 rw [J]
theorem eG.set{Z:V}{N:Nat}{T:List Nat}(q:eG Z N T){C v:Nat}(a:C < T.length)(aU:v < 18446744073709551616):eG (fY Z ⟨N,C,none⟩ (g2 v)) N (T.set C v):=by
 obtain⟨s,q⟩:=q
 refine⟨s,?_⟩
 have:=q.set C aU
 rw [List.set_append_left _ _ a] at this;exact this
theorem vB{Z:V}{N l:Nat}{T:List Nat}(q:eG Z N T){Q:Int}{C:Nat}(bE:Q=(C:Int))(a:l=T.length)(b:C < T.length){I:Int}{v:Nat}(c:I=(v:Int))(aU:v < 18446744073709551616){p:V→Prop}
  (g:eG (fY Z ⟨N,C,none⟩ (g2 v)) N (T.set C v)→a1 N Z (fY Z ⟨N,C,none⟩ (g2 v))→p (fY Z ⟨N,C,none⟩ (g2 v))):cL (some ⟨N,0,none⟩) l Q 1 fun o=>aW Z o (.int .u64 I) p:=by
 subst bE;subst c;subst a
 have d:=g (q.set b aU) (a1.set _ _ _ _)
 obtain⟨s,q⟩:=q
 refine⟨⟨by omega,by omega⟩,?_⟩
 show aW Z ((⟨N,0,none⟩:Addr).add ((C:Int).toNat*1)) _ _
 have e:(C:Int).toNat*1=C:=by omega
 rw [e,w]
 exact⟨⟨⟨_,q.cell (by rw [List.length_append];omega)⟩,q.frozen C⟩,d⟩
theorem Aq{a:U}{l L:Nat}{I aN:Int}{n:Nat}(b:I=(n:Int))(c:aN=(n:Int))(d:n≤L){p:U→Nat→Nat→Prop}(g:p a n n):h7 1 a l L none (some (.int .i64 I)) (some (.int .i64 aN)) p:=by
 subst b;subst c
 show(0≤(n:Int)∧(n:Int)≤(L:Int))∧(0≤(n:Int)∧(n:Int)≤(((n:Int).toNat:Nat):Int))∧p (iP a (n:Int).toNat 0 1) ((n:Int).toNat - 0) ((n:Int).toNat - 0)
 refine⟨⟨by omega,by omega⟩,⟨by omega,by omega⟩,?_⟩
 have J:iP a (n:Int).toNat 0 1=a:=by
  unfold iP
  split
  ·rfl
  ·cases a <;> simp [Addr.add]
 rw [J];simpa using g
theorem CB{a:U}{l L:Nat}{I aN b3:Int}{m n:Nat}(b:I=(m:Int))(c:aN=(n:Int))(d:b3=(n:Int))(e:m≤n)(f:n≤L){p:U→Nat→Nat→Prop}(g:p (iP a n m 1) (n - m) (n - m)):h7 1 a l L (some (.int .i64 I)) (some (.int .i64 aN)) (some (.int .i64 b3)) p:=by
 subst b;subst c;subst d
 show(0≤(n:Int)∧(n:Int)≤(L:Int))∧(0≤(n:Int)∧(n:Int)≤(((n:Int).toNat:Nat):Int))∧(0≤(m:Int)∧(m:Int)≤(((n:Int).toNat:Nat):Int))∧p (iP a (n:Int).toNat (m:Int).toNat 1) ((n:Int).toNat - (m:Int).toNat) ((n:Int).toNat - (m:Int).toNat)
 refine⟨⟨by omega,by omega⟩,⟨by omega,by omega⟩,⟨by omega,by omega⟩,?_⟩
 simpa using g
theorem mE:∀ {aK:List Nat} {C v:Nat},C < aK.length→val (aK.set C v)+aK.getD C 0*2 ^ (64*C)=val aK+v*2 ^ (64*C)
 | [],_,_,Z=>absurd Z (by simp)
 | b3 :: aK,0,v,_=>by simp [val];omega
 | b3 :: aK,C+1,v,Z=>by
  have d:=mE (aK:=aK) (C:=C) (v:=v) (by simpa using Z)
  have J:2 ^ (64*(C+1))=18446744073709551616*2 ^ (64*C):=by
   rw [show 64*(C+1)=64+64*C by omega,Nat.pow_add]
  simp only [List.set_cons_succ,val,List.getD_cons_succ,J]
  have b:aK.getD C 0*(18446744073709551616*2 ^ (64*C))=18446744073709551616*(aK.getD C 0*2 ^ (64*C)):=Nat.mul_left_comm _ _ _
  have c:v*(18446744073709551616*2 ^ (64*C))=18446744073709551616*(v*2 ^ (64*C)):=Nat.mul_left_comm _ _ _
  rw [b,c]
  generalize aK.getD C 0*2 ^ (64*C)=a at *
  generalize v*2 ^ (64*C)=N at *
  omega
theorem jY(C:Nat):2 ^ (64*(C+1))=18446744073709551616*2 ^ (64*C):=by
 rw [show 64*(C+1)=64+64*C by omega,Nat.pow_add]
theorem xZ{aX eW a b3 kH L cW z s P:Nat}(a0:kH+aX*cW=z+L+b3)(g:a+b3*P=eW+kH*P):a+(s+cW)*(aX*P)=eW+(z+aX*s+L)*P:=by
 have b:(kH+aX*cW)*P=(z+L+b3)*P:=by rw [a0]
 have c:(kH+aX*cW)*P=kH*P+aX*cW*P:=Nat.add_mul _ _ _
 have d:(z+L+b3)*P=z*P+L*P+b3*P:=by rw [Nat.add_mul,Nat.add_mul]
 have e:(s+cW)*(aX*P)=aX*s*P+aX*cW*P:=by rw [Nat.add_mul,Nat.mul_left_comm s,Nat.mul_left_comm cW,Nat.mul_assoc,Nat.mul_assoc]
 have f:(z+aX*s+L)*P=z*P+aX*s*P+L*P:=by rw [Nat.add_mul,Nat.add_mul]
 rw [e,f];rw [c,d] at b
 omega
theorem CC{aX eW a b3 kH q fM dU s P dF:Nat}(a0:kH+dU+q=b3+aX*fM)(g:a+b3*P=eW+kH*P)(Z:eW=dF+(dU+aX*s+q)*P):a=dF+(s+fM)*(aX*P):=by
 have b:(kH+dU+q)*P=(b3+aX*fM)*P:=by rw [a0]
 have c:(kH+dU+q)*P=kH*P+dU*P+q*P:=by rw [Nat.add_mul,Nat.add_mul]
 have d:(b3+aX*fM)*P=b3*P+aX*fM*P:=Nat.add_mul _ _ _
 have e:(s+fM)*(aX*P)=aX*s*P+aX*fM*P:=by rw [Nat.add_mul,Nat.mul_left_comm s,Nat.mul_left_comm fM,Nat.mul_assoc,Nat.mul_assoc]
 have f:(dU+aX*s+q)*P=dU*P+aX*s*P+q*P:=by rw [Nat.add_mul,Nat.add_mul]
 rw [e];rw [c,d] at b;rw [f] at Z
 omega
theorem j7(T:List Nat)(Q:Nat):val (T.drop Q)=T.getD Q 0+18446744073709551616*val (T.drop (Q+1)):=by
 by_cases Z:Q < T.length
 ·rw [iI Z];rfl
 ·rw [List.drop_of_length_le (by omega),List.drop_of_length_le (by omega)]
  simp [val,List.getD,show T.length≤Q by omega]
theorem Ar{aK:List Nat}{dF P Q:Nat}(a:P=2 ^ (64*Q))(Z:P≤dF)(b:dF < 2 ^ (64*aK.length)):Q < aK.length:=by
 subst a
 refine Nat.lt_of_not_le fun c=>?_
 have:2 ^ (64*aK.length)≤2 ^ (64*Q):=Nat.pow_le_pow_right (by decide) (by omega)
 omega
theorem tM(m:Nat):val (List.replicate m 0)=0:=by
 induction m with
 | zero=>rfl
 | succ m a=>rw [List.replicate_succ];simp [val,a]
end Go.Gv
namespace Go.Gv.D
def val:List Nat→Nat
 | []=>0
 | I :: T=>I+4294967296*val T
def aE(n:Nat):List Nat:=if Z:n=0 then [] else n % 4294967296 :: aE (n / 4294967296)
 termination_by n
 decreasing_by omega
def Words(T:List Nat):Prop:=∀ I ∈ T,I < 4294967296
theorem Words.cons{I:Nat}{T:List Nat}(Z:Words (I :: T)):I < 4294967296∧Words T:=⟨Z I (by simp),fun aN a=>Z aN (by simp [a])⟩
theorem dM:aE 0=[]:=by unfold aE;simp
theorem lA{n:Nat}(Z:n ≠ 0):aE n=n % 4294967296 :: aE (n / 4294967296):=by
 rw [aE];simp [Z]
theorem p7(n:Nat):Words (aE n):=by
 induction n using Nat.strongRecOn with
 | ind n b=>
  by_cases Z:n=0
  ·subst Z;rw [dM];intro I a;cases a
  ·rw [lA Z];intro I a
   rcases List.mem_cons.mp a with J | J
   ·omega
   ·exact b _ (by omega) I J
theorem fA(n:Nat):val (aE n)=n:=by
 induction n using Nat.strongRecOn with
 | ind n a=>
  by_cases Z:n=0
  ·subst Z;rw [dM];rfl
  ·rw [lA Z];show n % _+_*val (aE _)=n
   rw [a _ (by omega)];omega
theorem o7{T:List Nat}:dH T=[]↔val T=0:=by
 induction T with
 | nil=>simp [dH,val]
 | cons I T a=>
  simp only [dH,val]
  split
  ·next Z=>simp only [true_iff];have:=a.mp Z.2;omega
  ·next Z=>
   simp only [reduceCtorEq,false_iff]
   intro J
   exact Z ⟨by omega,a.mpr (by omega)⟩
theorem mC{T:List Nat}(a:Words T):aE (val T)=dH T:=by
 induction T with
 | nil=>simp [val,dH,dM]
 | cons I T b=>
  have c:=a.cons
  simp only [dH,val]
  split
  ·next Z=>rw [Z.1,o7.mp Z.2];exact dM
  ·next Z=>
   have d:I+4294967296*val T ≠ 0:=fun J=>Z ⟨by omega,o7.mpr (by omega)⟩
   rw [lA d]
   have e:(I+4294967296*val T) % 4294967296=I:=by omega
   have f:(I+4294967296*val T) / 4294967296=val T:=by omega
   rw [e,f,b c.2]
theorem rY(T:List Nat):val (dH T)=val T:=by
 induction T with
 | nil=>rfl
 | cons I T a=>
  simp only [dH]
  split
  ·next Z=>simp only [val];rw [Z.1,o7.mp Z.2]
  ·simp only [val];rw [a]
theorem nR(n:Nat):dH (aE n)=aE n:=by rw [← mC (p7 n),fA]
theorem mD{n m:Nat}(Z:n≤m):(aE n).length≤(aE m).length:=by
 induction m using Nat.strongRecOn generalizing n with
 | ind m b=>
  by_cases a:n=0
  ·subst a;rw [dM];simp
  ·rw [lA a,lA (n:=m) (by omega)]
   simp only [List.length_cons]
   exact Nat.succ_le_succ (b (m / 4294967296) (by omega) (Nat.div_le_div_right Z))
theorem xW(u:List Nat):val u=u.headD 0+4294967296*val u.tail:=by cases u <;> simp [val]
theorem tK:∀ {T u:List Nat} {C:Nat},Words T→Words u→T.length=u.length→C < T.length→T.drop (C+1)=u.drop (C+1)→T.getD C 0 < u.getD C 0→val T < val u
 | [],_,_,_,_,_,a,_,_=>absurd a (by simp)
 | I :: T,[],_,_,_,b,_,_,_=>absurd b (by simp)
 | I :: T,aN :: u,0,c,d,b,a,aJ,Z=>by
  have J:T=u:=by simpa using aJ
  subst J
  simp only [List.getD_cons_zero] at Z
  simp only [val];omega
 | I :: T,aN :: u,C+1,c,d,b,a,aJ,Z=>by
  have:=tK (T:=T) (u:=u) (C:=C) c.cons.2 d.cons.2 (by simpa using b) (by simpa using a) (by simpa using aJ) (by simpa using Z)
  have a0:=c.cons.1
  have e:=d.cons.1
  simp only [val];omega
theorem q2:∀ {T u:List Nat},Words T→dH u=u→T.length < u.length→val T < val u
 | _,[],_,_,Z=>absurd Z (by simp)
 | [],aN :: u,_,a,_=>by
  have:val (aN :: u) ≠ 0:=fun J=>by rw [o7.mpr J] at a;cases a
  simp only [val] at this ⊢;omega
 | I :: T,aN :: u,b,a,Z=>by
  have:=q2 (T:=T) (u:=u) b.cons.2 (xX a) (by simpa using Z)
  have a0:=b.cons.1
  simp only [val];omega
theorem hR(T u:List Nat):val (T ++ u)=val T+2 ^ (32*T.length)*val u:=by
 induction T with
 | nil=>simp [val]
 | cons I T a=>
  simp only [List.cons_append,val,a,List.length_cons]
  have J:2 ^ (32*(T.length+1))=4294967296*2 ^ (32*T.length):=by
   rw [show 32*(T.length+1)=32+32*T.length by omega,Nat.pow_add]
  rw [J,Nat.mul_add,Nat.mul_assoc];omega
theorem hS{T:List Nat}(a:Words T):val T < 2 ^ (32*T.length):=by
 induction T with
 | nil=>simp [val]
 | cons I T b=>
  have J:2 ^ (32*(T.length+1))=4294967296*2 ^ (32*T.length):=by
   rw [show 32*(T.length+1)=32+32*T.length by omega,Nat.pow_add]
  rw [List.length_cons,J];simp only [val]
  have a0:=a.cons.1
  have c:=b a.cons.2
  omega
theorem wB{T:List Nat}(a:Words T){n:Nat}(b:T.length=n+1)(aB:T.getD n 0 ≠ 0):eU (val T)=32*n+eU (T.getD n 0):=by
 have J:T=T.take n ++ [T.getD n 0]:=by rw [← lX (by omega),← b,List.take_length]
 have aU:val T=val (T.take n)+2 ^ (32*n)*T.getD n 0:=by
  conv=>lhs;rw [J]
  rw [hR];simp [val,show min n T.length=n by omega]
 have dE:val (T.take n) < 2 ^ (32*n):=by
  have:=hS (T:=T.take n) (fun I c=>a I (List.mem_of_mem_take c))
  rwa [List.length_take,show min n T.length=n by omega] at this
 have aJ:val T / 2 ^ (32*n)=T.getD n 0:=by
  rw [aU,Nat.add_mul_div_left _ _ (Nat.pow_pos (by decide)),Nat.div_eq_of_lt dE,Nat.zero_add]
 have:=tL (val T) (32*n)
 rw [aJ] at this
 have:=q3 aB
 omega
theorem gF{n M:Nat}:(aE n).length≤M↔n < 2 ^ (32*M):=by
 constructor
 ·intro Z
  have:=hS (p7 n)
  rw [fA] at this
  exact Nat.lt_of_lt_of_le this (Nat.pow_le_pow_right (by decide) (by omega))
 ·intro Z
  induction M generalizing n with
  | zero=>
   have:n=0:=by simpa using Z
   subst this;rw [dM];simp
  | succ M a=>
   by_cases aB:n=0
   ·subst aB;rw [dM];simp
   ·rw [lA aB,List.length_cons]
    have J:2 ^ (32*(M+1))=2 ^ (32*M)*4294967296:=by
     rw [show 32*(M+1)=32*M+32 by omega,Nat.pow_add]
    rw [J] at Z
    have:=a (n:=n / 4294967296) (Nat.div_lt_of_lt_mul (by rw [Nat.mul_comm];exact Z))
    omega
theorem Al{aL bA M:Nat}(a:(aE aL).length≤M)(b:(aE bA).length≤M):(aE (aL+bA)).length≤M+1:=by
 refine gF.mpr ?_
 have a0:=gF.mp a
 have c:=gF.mp b
 have J:2 ^ (32*(M+1))=2 ^ (32*M)*4294967296:=by
  rw [show 32*(M+1)=32*M+32 by omega,Nat.pow_add]
 rw [J];generalize 2 ^ (32*M)=z at *;omega
theorem xY{v:Nat}(M:Nat):eU v≤32*M↔(aE v).length≤M:=by
 rw [gF,j6]
theorem kW{T:List Nat}(a:Words T)(m:Nat):val (T.drop m)=val T / 2 ^ (32*m):=by
 by_cases b:m≤T.length
 ·have J:val T=val (T.take m)+2 ^ (32*m)*val (T.drop m):=by
   conv=>lhs;rw [← List.take_append_drop m T]
   rw [hR,List.length_take,Nat.min_eq_left b]
  have dE:=hS (T:=T.take m) (fun I c=>a I (List.mem_of_mem_take c))
  rw [List.length_take,Nat.min_eq_left b] at dE
  rw [J,Nat.add_mul_div_left _ _ (Nat.pow_pos (by decide)),Nat.div_eq_of_lt dE,Nat.zero_add]
 ·rw [List.drop_of_length_le (by omega)]
  have:=hS a
  have d:2 ^ (32*T.length)≤2 ^ (32*m):=Nat.pow_le_pow_right (by decide) (by omega)
  rw [Nat.div_eq_of_lt (by omega)];rfl
theorem mY{M:Nat}(a:M < 32):2 ^ M*2 ^ (32 - M)=4294967296:=by
 rw [← Nat.pow_add,show M+(32 - M)=32 by omega]
theorem Cy{T:List Nat}(a:Words T){m M:Nat}(b:m < T.length)(c:M < 32):val (T.take m ++ [T.getD m 0 % 2 ^ M])=val T % 2 ^ (32*m+M):=by
 have J:val T=val (T.take m)+2 ^ (32*m)*val (T.drop m):=by
  conv=>lhs;rw [← List.take_append_drop m T]
  rw [hR,List.length_take,Nat.min_eq_left (by omega)]
 have dE:=hS (T:=T.take m) (fun I d=>a I (List.mem_of_mem_take d))
 rw [List.length_take,Nat.min_eq_left (by omega)] at dE
 rw [hR,List.length_take,Nat.min_eq_left (by omega),Nat.pow_add,Nat.mod_mul,J,Nat.add_mul_mod_self_left,Nat.mod_eq_of_lt dE,Nat.add_mul_div_left _ _ (Nat.pow_pos (by decide)),Nat.div_eq_of_lt dE,Nat.zero_add,iI b]
 simp only [val,Nat.mul_zero,Nat.add_zero]
 congr 2
 rw [← mY c,Nat.mul_assoc,Nat.add_mul_mod_self_left]
theorem mE:∀ {aK:List Nat} {C v:Nat},C < aK.length→val (aK.set C v)+aK.getD C 0*2 ^ (32*C)=val aK+v*2 ^ (32*C)
 | [],_,_,Z=>absurd Z (by simp)
 | b3 :: aK,0,v,_=>by simp [val];omega
 | b3 :: aK,C+1,v,Z=>by
  have d:=mE (aK:=aK) (C:=C) (v:=v) (by simpa using Z)
  have J:2 ^ (32*(C+1))=4294967296*2 ^ (32*C):=by
   rw [show 32*(C+1)=32+32*C by omega,Nat.pow_add]
  simp only [List.set_cons_succ,val,List.getD_cons_succ,J]
  have b:aK.getD C 0*(4294967296*2 ^ (32*C))=4294967296*(aK.getD C 0*2 ^ (32*C)):=Nat.mul_left_comm _ _ _
  have c:v*(4294967296*2 ^ (32*C))=4294967296*(v*2 ^ (32*C)):=Nat.mul_left_comm _ _ _
  rw [b,c]
  generalize aK.getD C 0*2 ^ (32*C)=a at *
  generalize v*2 ^ (32*C)=N at *
  omega
theorem jY(C:Nat):2 ^ (32*(C+1))=4294967296*2 ^ (32*C):=by
 rw [show 32*(C+1)=32+32*C by omega,Nat.pow_add]
theorem j7(T:List Nat)(Q:Nat):val (T.drop Q)=T.getD Q 0+4294967296*val (T.drop (Q+1)):=by
 by_cases Z:Q < T.length
 ·rw [iI Z];rfl
 ·rw [List.drop_of_length_le (by omega),List.drop_of_length_le (by omega)]
  simp [val,List.getD,show T.length≤Q by omega]
theorem Ar{aK:List Nat}{dF P Q:Nat}(a:P=2 ^ (32*Q))(Z:P≤dF)(b:dF < 2 ^ (32*aK.length)):Q < aK.length:=by
 subst a
 refine Nat.lt_of_not_le fun c=>?_
 have:2 ^ (32*aK.length)≤2 ^ (32*Q):=Nat.pow_le_pow_right (by decide) (by omega)
 omega
theorem tM(m:Nat):val (List.replicate m 0)=0:=by
 induction m with
 | zero=>rfl
 | succ m a=>rw [List.replicate_succ];simp [val,a]
end Go.Gv.D
namespace Go.Gv
structure lB(dC:Type) where
 eI:dC→Value
 ok:dC→Prop
 eS:Nat
 plain:∀ I,nO (eI I)=true
def dQ:lB Nat:=⟨fun I=>.int .u64 (I:Int),fun I=>I < 18446744073709551616,35184372088828,fun _=>rfl⟩
def b2:lB Nat:=⟨fun I=>.int .u32 (I:Int),fun I=>I < 4294967296,70368744177656,fun _=>rfl⟩
def CD:lB Nat:=⟨fun I=>.int .u8 (I:Int),fun I=>I < 256,281474976710656,fun _=>rfl⟩
instance (I:Nat):Decidable (dQ.ok I):=inferInstanceAs (Decidable (I < 18446744073709551616))
instance (I:Nat):Decidable (b2.ok I):=inferInstanceAs (Decidable (I < 4294967296))
instance (I:Nat):Decidable (CD.ok I):=inferInstanceAs (Decidable (I < 256))
theorem As:dQ.ok 0:=(by decide:0 < 18446744073709551616)
theorem n9:b2.ok 0:=(by decide:0 < 4294967296)
abbrev fU:=Option Addr × Nat × Nat
def tN:lB fU:=⟨fun O=>.slice O.1 O.2.1 O.2.2,fun _=>True,11728124029610,fun _=>rfl⟩
variable {dC:Type} {E:lB dC}
structure cB(E:lB dC)(Z:V)(a:U)(L:Nat)(T:List dC):Prop where
 len:T.length≤E.eS
 cap:T.length≤L
 ok:∀ I ∈ T,E.ok I
 at_:∀ Q I,T[Q]?=some I→∃ z,a=some z∧fQ Z (z.add Q)=some (E.eI I)
theorem cB.B{Z A:V}{a:U}{L:Nat}{T:List dC}(s:cB E Z a L T)(M:a4 Z A):cB E A a L T:=
 ⟨s.len,s.cap,s.ok,fun Q I bE=>let ⟨z,J,g⟩:=s.at_ Q I bE;⟨z,J,M.cell g⟩⟩
theorem cB.nil(Z:V)(a:U)(L:Nat):cB E Z a L []:=⟨by simp,by simp,by simp,fun Q I bE=>by simp at bE⟩
theorem cB.take{Z:V}{a:U}{L:Nat}{T:List dC}(s:cB E Z a L T)(n:Nat):cB E Z a L (T.take n):=by
 refine⟨?_,?_,fun I b=>s.ok I (List.mem_of_mem_take b),fun Q I bE=>?_⟩
 ·have:=s.len;rw [List.length_take];omega
 ·have:=s.cap;rw [List.length_take];omega
 ·rw [List.getElem?_take] at bE
  split at bE
  ·exact s.at_ Q I bE
  ·cases bE
theorem cB.drop{Z:V}{a:U}{L m:Nat}{T:List dC}(s:cB E Z a L T)(n:Nat)(c:n≤T.length)(d:T.length≤m):cB E Z (iP a m n 1) (m - n) (T.drop n):=by
 have a0:=s.len;have e:=s.cap
 refine⟨?_,?_,fun I b=>s.ok I (List.mem_of_mem_drop b),fun Q I bE=>?_⟩
 ·rw [List.length_drop];omega
 ·rw [List.length_drop];omega
 ·rw [List.getElem?_drop] at bE
  obtain⟨z,J,g⟩:=s.at_ (n+Q) I bE
  have dE:=(List.getElem?_eq_some_iff.mp bE).1
  refine⟨z.add n,?_,by rw [add_add];exact g⟩
  rw [J];unfold iP
  rw [if_neg (by omega)];simp
theorem At{Z:V}{a:U}{L l:Nat}{T:List dC}(s:cB E Z a L T){Q:Int}{C:Nat}(bE:Q=(C:Int))(c:l=T.length){I:dC}(b:T[C]?=some I){p:Value→Prop}
  (g:p (E.eI I)):cL a l Q 1 fun o=>e7 Z o p:=by
 subst bE;subst c
 obtain⟨z,J,d⟩:=s.at_ C I b
 have f:=(List.getElem?_eq_some_iff.mp b).1
 subst J
 refine⟨⟨by omega,by omega⟩,?_⟩
 show e7 Z (z.add ((C:Int).toNat*1)) _
 have e:(C:Int).toNat*1=C:=by omega
 rw [e]
 unfold e7;rw [d];exact g
theorem getD_some{T:List Nat}{C:Nat}(a:C < T.length):T[C]?=some (T.getD C 0):=by simp [List.getD,a]
theorem iJ{Z:V}{a:U}{L l:Nat}{T:List Nat}(s:cB b2 Z a L T){Q:Int}{C:Nat}(bE:Q=(C:Int))(b:l=T.length)(c:C < T.length){p:Int→Prop}
  (g:p (T.getD C 0:Nat)):cL a l Q 1 fun o=>e7 Z o fun v=>aV .u32 v p:=
 At s bE b (getD_some c) g
theorem wD{Z:V}{a:U}{L l:Nat}{T:List Nat}(s:cB dQ Z a L T){Q:Int}{C:Nat}(bE:Q=(C:Int))(b:l=T.length)(c:C < T.length){p:Int→Prop}
  (g:p (T.getD C 0:Nat)):cL a l Q 1 fun o=>e7 Z o fun v=>aV .u64 v p:=
 At s bE b (getD_some c) g
theorem nS{Z:V}{a:U}{L l:Nat}{T:List fU}(s:cB tN Z a L T){Q:Int}{C:Nat}(bE:Q=(C:Int))(b:l=T.length){I:fU}(c:T[C]?=some I){p:U→Nat→Nat→Prop}
  (g:p I.1 I.2.1 I.2.2):cL a l Q 1 fun o=>e7 Z o fun v=>aG v p:=
 At s bE b c g
theorem bJ.p8{Z:V}{a:U}{L:Nat}{T:List Nat}(s:bJ Z a L T):cB dQ Z a L T:=
 ⟨s.len,s.cap,s.words,fun Q I bE=>by
  obtain⟨dE,J⟩:=List.getElem?_eq_some_iff.mp bE
  obtain⟨z,b,c⟩:=s.at_ Q dE
  refine⟨z,b,?_⟩
  rw [c,show T.getD Q 0=I by simp [List.getD,dE,J]]
  rfl⟩
theorem cB.wE{Z:V}{a:U}{L:Nat}{T:List Nat}(s:cB dQ Z a L T):bJ Z a L T:=
 ⟨s.len,s.cap,s.ok,fun Q bE=>s.at_ Q _ (getD_some bE)⟩
structure dI(E:lB dC)(Z:V)(N:Nat)(aK:List dC):Prop where
 ok:∀ I ∈ aK,E.ok I
 at_:∃ J,Z[N]?=some (.cells (aK.map E.eI).toArray J (0,0))
theorem dI.lt{Z:V}{N:Nat}{aK:List dC}(q:dI E Z N aK):N < Z.size:=by
 obtain⟨J,g⟩:=q.at_;exact(Array.getElem?_eq_some_iff.mp g).1
theorem dI.cell{Z:V}{N:Nat}{aK:List dC}(q:dI E Z N aK){Q:Nat}{I:dC}(bE:aK[Q]?=some I):fQ Z ⟨N,Q,none⟩=some (E.eI I):=by
 obtain⟨J,g⟩:=q.at_
 unfold fQ
 simp only [g,Option.isSome_none,Bool.false_eq_true,if_false]
 simp [bE]
theorem dI.frozen{Z:V}{N:Nat}{aK:List dC}(q:dI E Z N aK)(Q:Nat):mB Z ⟨N,Q,none⟩=false:=by
 obtain⟨J,g⟩:=q.at_
 unfold mB
 simp [g]
theorem dI.Au{Z:V}{N off n L:Nat}{aK:List dC}(q:dI E Z N aK)(b:n≤E.eS)(c:off+n≤aK.length)(d:n≤L):cB E Z (some ⟨N,off,none⟩) L ((aK.drop off).take n):=by
 refine⟨by rw [List.length_take];omega,by rw [List.length_take];omega,fun I a=>q.ok I (List.mem_of_mem_drop (List.mem_of_mem_take a)),fun Q I bE=>⟨_,rfl,?_⟩⟩
 rw [List.getElem?_take] at bE
 split at bE
 ·rw [List.getElem?_drop] at bE
  have J:(⟨N,off,none⟩:Addr).add Q=⟨N,off+Q,none⟩:=by
   rw [← w N off,add_add,w]
  rw [J];exact q.cell bE
 ·cases bE
theorem dI.rd{Z:V}{N L:Nat}{T rest:List dC}(q:dI E Z N (T ++ rest))(a:T.length≤E.eS)(b:T.length≤L):cB E Z (some ⟨N,0,none⟩) L T:=by
 have:=q.Au (off:=0) (n:=T.length) (L:=L) a (by simp) b
 simpa using this
theorem dI.o9{Z:V}{N L:Nat}{T:List dC}(q:dI E Z N T)(a:T.length≤E.eS)(b:T.length≤L):cB E Z (some ⟨N,0,none⟩) L T:=
 dI.rd (rest:=[]) (by simpa using q) a b
theorem dI.set{Z:V}{N:Nat}{aK:List dC}(q:dI E Z N aK)(Q:Nat){v:dC}(aU:E.ok v):dI E (fY Z ⟨N,Q,none⟩ (E.eI v)) N (aK.set Q v):=by
 refine⟨fun I a=>?_,?_⟩
 ·rcases List.mem_or_eq_of_mem_set a with a0 | a0
  ·exact q.ok I a0
  ·subst a0;exact aU
 ·obtain⟨J,g⟩:=q.at_
  refine⟨J,?_⟩
  unfold fY
  rw [Array.getElem?_modify]
  simp only [if_true,g,Option.map_some]
  simp [List.map_set]
theorem dI.B{Z A:V}{N:Nat}{aK:List dC}(q:dI E Z N aK)(M:a4 Z A):dI E A N aK:=by
 obtain⟨J,g⟩:=q.at_
 exact⟨q.ok,J,by rw [M.pre N q.lt];exact g⟩
theorem dI.bT{o:Nat}{Z A:V}{N:Nat}{aK:List dC}(q:dI E Z N aK)(aP:N ≠ o)(M:a1 o Z A):dI E A N aK:=by
 obtain⟨J,g⟩:=q.at_
 exact⟨q.ok,J,by rw [M.pre N q.lt aP];exact g⟩
theorem Av{Z:V}{N l off:Nat}{aK:List dC}(q:dI E Z N aK){Q:Int}{C:Nat}(bE:Q=(C:Int))(d:C < l)(e:off+C < aK.length){I:Value}{v:dC}(a:I=E.eI v)(aU:E.ok v){p:V→Prop}
  (g:dI E (fY Z ⟨N,off+C,none⟩ (E.eI v)) N (aK.set (off+C) v)→a1 N Z (fY Z ⟨N,off+C,none⟩ (E.eI v))→p (fY Z ⟨N,off+C,none⟩ (E.eI v))):cL (some ⟨N,off,none⟩) l Q 1 fun o=>aW Z o I p:=by
 subst bE;subst a
 refine⟨⟨by omega,by omega⟩,?_⟩
 show aW Z ((⟨N,off,none⟩:Addr).add ((C:Int).toNat*1)) _ _
 have b:(C:Int).toNat*1=C:=by omega
 have J:(⟨N,off,none⟩:Addr).add C=⟨N,off+C,none⟩:=by
  rw [← w N off,add_add,w]
 rw [b,J]
 obtain⟨aA,c⟩:∃ aA,aK[off+C]?=some aA:=⟨aK[off+C],by simp⟩
 exact⟨⟨⟨_,q.cell c⟩,q.frozen _⟩,g (q.set _ aU) (a1.set _ _ _ _)⟩
theorem x0{Z:V}{N l:Nat}{aK:List dC}(q:dI E Z N aK){Q:Int}{C:Nat}(bE:Q=(C:Int))(a:C < l)(b:C < aK.length){I:Value}{v:dC}(c:I=E.eI v)(aU:E.ok v){p:V→Prop}
  (g:dI E (fY Z ⟨N,C,none⟩ (E.eI v)) N (aK.set C v)→a1 N Z (fY Z ⟨N,C,none⟩ (E.eI v))→p (fY Z ⟨N,C,none⟩ (E.eI v))):cL (some ⟨N,0,none⟩) l Q 1 fun o=>aW Z o I p:=by
 have J:0+C=C:=Nat.zero_add C
 refine Av (off:=0) q bE a (by rw [J];exact b) c aU ?_
 rw [J];exact g
theorem p9{Z:V}{J:TypeId}{Q:dO}{n m:Int}(E:lB dC)(b3:dC)(a N:Nat)(b:Q.aK=[E.eI b3])(ok:E.ok b3)(hP:Nat)(aP:Q.bytes=hP)(f:1≤hP)(c:n=(a:Int))(d:m=(N:Int))(h:a≤N)(i:hP*N≤281474976710656){p:Addr→V→Prop}
  (g:∀ A,dI E A Z.size (List.replicate N b3)→a4 Z A→p ⟨Z.size,0,none⟩ A):h8 Z J Q n m p:=by
 subst c;subst d;subst aP
 refine⟨⟨by omega,by omega,by omega,?_⟩,g _ ⟨?_,J,?_⟩ ⟨by simp,fun N aP=>?_⟩⟩
 ·have:((Q.bytes:Int)*(N:Int))=((Q.bytes*N:Nat):Int):=by simp
  rw [this];omega
 ·intro I e;rw [List.eq_of_mem_replicate e];exact ok
 ·rw [b,xU];simp
 ·rw [Array.getElem?_push];rw [if_neg (by omega)]
theorem wF{Z:V}{J:TypeId}{cQ:List Value}(E:lB dC)(T:List dC)(a:cQ=T.map E.eI)(b:∀ I ∈ T,E.ok I){p:Addr→V→Prop}
  (g:∀ A,dI E A Z.size T→a4 Z A→p ⟨Z.size,0,none⟩ A):b4 Z J cQ p:=by
 subst a
 refine g _ ⟨b,J,?_⟩ ⟨by simp,fun N aP=>?_⟩
 ·simp
 ·rw [Array.getElem?_push];rw [if_neg (by omega)]
theorem CE{Z:V}{z:Addr}:∀ {bW:List dC} {Q:Nat},(∀ C I,bW[C]?=some I→fQ Z (z.add (Q+C))=some (E.eI I))→jX Z z Q (bW.map E.eI)
 | [],_,_=>trivial
 | v :: bW,Q,g=>by
  refine⟨by have:=g 0 v (by simp);simpa using this,CE fun C I a=>?_⟩
  have:=g (C+1) I (by simpa using a)
  rw [show Q+1+C=Q+(C+1) by omega];exact this
theorem x1{Z:V}{z:Addr}:∀ {n Q:Nat},(∀ C,C < n→(∃ v,fQ Z (z.add (Q+C))=some v)∧mB Z (z.add (Q+C))=false)→o1 Z z Q n
 | 0,_,_=>trivial
 | n+1,Q,g=>by
  refine⟨by have:=g 0 (by omega);simpa using this,x1 fun C a=>?_⟩
  have:=g (C+1) (by omega)
  rw [show Q+1+C=Q+(C+1) by omega];exact this
theorem Aw{N:Nat}:∀ {bW:List dC} {Z:V} {aK:List dC} {off Q:Nat},dI E Z N aK→(∀ I ∈ bW,E.ok I)→off+Q+bW.length≤aK.length→
  dI E (iD Z ⟨N,off,none⟩ Q (bW.map E.eI)) N (aK.take (off+Q) ++ (bW ++ aK.drop (off+Q+bW.length)))∧a1 N Z (iD Z ⟨N,off,none⟩ Q (bW.map E.eI))
 | [],Z,aK,off,Q,q,_,a=>by
  refine⟨?_,a1.refl _ _⟩
  simp only [List.map_nil,iD,List.length_nil,Nat.add_zero,List.nil_append,List.take_append_drop];exact q
 | v :: bW,Z,aK,off,Q,q,aU,a=>by
  have J:(⟨N,off,none⟩:Addr).add Q=⟨N,off+Q,none⟩:=by
   rw [← w N off,add_add,w]
  simp only [List.length_cons] at a
  have b:=q.set (off+Q) (aU v (by simp))
  obtain⟨c,d⟩:=Aw (bW:=bW) (off:=off) (Q:=Q+1) b (fun I e=>aU I (by simp [e])) (by rw [List.length_set];omega)
  simp only [List.map_cons,iD,J]
  refine⟨?_,(a1.set _ _ _ _).trans d⟩
  have f:(aK.set (off+Q) v).take (off+(Q+1)) ++ (bW ++ (aK.set (off+Q) v).drop (off+(Q+1)+bW.length))=aK.take (off+Q) ++ ((v :: bW) ++ aK.drop (off+Q+(v :: bW).length)):=by
   rw [show off+(Q+1)=off+Q+1 by omega]
   rw [List.drop_set_of_lt (by omega),List.take_set,List.take_add_one]
   have:(aK.take (off+Q) ++ aK[off+Q]?.toList).set (off+Q) v=aK.take (off+Q) ++ [v]:=by
    rw [List.set_append_right _ _ (by rw [List.length_take];omega)]
    have g:aK[off+Q]?=some (aK[off+Q]'(by omega)):=by simp
    rw [g]
    have h:off+Q - (aK.take (off+Q)).length=0:=by rw [List.length_take];omega
    rw [h];rfl
   rw [this]
   simp only [List.length_cons,List.cons_append,List.append_assoc,List.nil_append]
   rw [show off+Q+1+bW.length=off+Q+(bW.length+1) by omega]
  rw [← f];exact c
theorem cB.wG{Z:V}{a:U}{L l bX:Nat}{T:List dC}(s:cB E Z a L T)(n:Nat)(e:n≤T.length):vV Z 1 (.slice a l bX) n ((T.take n).map E.eI):=by
 refine⟨by rw [List.length_map,List.length_take];omega,?_,?_⟩
 ·intro v aU
  obtain⟨I,_,J⟩:=List.mem_map.mp aU
  subst J;exact E.plain I
 ·cases a with
  | none=>
   show(T.take n).map E.eI=[]
   cases T with
   | nil=>simp
   | cons aN u=>obtain⟨z,J,_⟩:=s.at_ 0 aN (by simp);cases J
  | some z=>
   refine CE fun C I b=>?_
   rw [Nat.zero_add]
   obtain⟨o,c,d⟩:=(s.take n).at_ C I b
   cases c;exact d
theorem Fz{Z:V}{N l b8 bX:Nat}{aK u:List dC}{a:U}(q:dI E Z N aK)(s:cB E Z a bX u)(i:l≤aK.length)(c:b8=u.length){d:Nat}{p:Int→V→Prop}
  (g:∀ A,dI E A N (u.take (min u.length l) ++ aK.drop (min u.length l))→a1 N Z A→p ((min u.length l:Nat):Int) A):mW Z 1 (some ⟨N,0,none⟩) l (.slice a b8 d) p:=by
 subst c
 have j:Nat.min u.length l=min u.length l:=rfl
 refine⟨u.length,(u.take (min u.length l)).map E.eI,rfl,s.wG _ (by omega),?_⟩
 have b:(u.take (min u.length l)).length=min u.length l:=by rw [List.length_take];omega
 have:=Aw (bW:=u.take (min u.length l)) (off:=0) (Q:=0) q (fun I e=>s.ok I (List.mem_of_mem_take e)) (by rw [b];omega)
 refine⟨x1 fun C f=>?_,?_⟩
 ·rw [List.length_map,b] at f
  rw [Nat.zero_add,w]
  obtain⟨aA,h⟩:∃ aA,aK[C]?=some aA:=⟨aK[C]'(by omega),by simp⟩
  exact⟨⟨_,q.cell h⟩,q.frozen _⟩
 ·refine g _ ?_ this.2
  have a0:=this.1
  rw [b] at a0
  simpa using a0
structure cN(E:lB dC)(aB Z:V)(a:U)(L:Nat)(T:List dC):Prop where
 len:T.length≤E.eS
 cap:T.length≤L
 here:(T=[]∧a=none∧L=0)∨∃ N rest,a=some ⟨N,0,none⟩∧aB.size≤N∧dI E Z N (T ++ rest)∧L≤(T ++ rest).length
theorem cN.nil(aB Z:V):cN E aB Z none 0 []:=⟨by simp,by simp,Or.inl ⟨rfl,rfl,rfl⟩⟩
theorem cN.rd{aB Z:V}{a:U}{L:Nat}{T:List dC}(g:cN E aB Z a L T):cB E Z a L T:=by
 rcases g.here with ⟨b,c,d⟩ | ⟨N,rest,b,_,q,_⟩
 ·subst b;exact cB.nil _ _ _
 ·subst b;exact q.rd g.len g.cap
theorem cN.B{aB Z A:V}{a:U}{L:Nat}{T:List dC}(g:cN E aB Z a L T)(M:a4 Z A):cN E aB A a L T:=
 ⟨g.len,g.cap,g.here.imp id fun ⟨N,rest,b,c,q,d⟩=>⟨N,rest,b,c,q.B M,d⟩⟩
theorem cN.from{aB a0 Z:V}{a:U}{L:Nat}{T:List dC}(g:cN E a0 Z a L T)(M:aB.size≤a0.size):cN E aB Z a L T:=
 ⟨g.len,g.cap,g.here.imp id fun ⟨N,rest,b,c,q,d⟩=>⟨N,rest,b,Nat.le_trans M c,q,d⟩⟩
theorem dI.hV{aB Z:V}{N L:Nat}{T rest:List dC}(q:dI E Z N (T ++ rest))(aP:aB.size≤N)(a:T.length≤E.eS)(a0:T.length≤L)(b:L≤(T ++ rest).length):cN E aB Z (some ⟨N,0,none⟩) L T:=
 ⟨a,a0,Or.inr ⟨N,rest,rfl,aP,q,b⟩⟩
theorem dI.oA{aB Z:V}{N L:Nat}{T:List dC}(q:dI E Z N T)(aP:aB.size≤N)(a:T.length≤E.eS)(b:L=T.length):cN E aB Z (some ⟨N,0,none⟩) L T:=
 dI.hV (rest:=[]) (by simpa using q) aP a (by omega) (by simp;omega)
theorem cN.take{aB Z:V}{a:U}{L:Nat}{T:List dC}(g:cN E aB Z a L T)(n:Nat):cN E aB Z a L (T.take n):=by
 have a0:=g.len;have e:=g.cap
 refine⟨by rw [List.length_take];omega,by rw [List.length_take];omega,?_⟩
 rcases g.here with ⟨b,c,d⟩ | ⟨N,rest,b,c,q,d⟩
 ·subst b;exact Or.inl ⟨by simp,c,d⟩
 ·refine Or.inr ⟨N,T.drop n ++ rest,b,c,?_,?_⟩
  ·rw [← List.append_assoc,List.take_append_drop];exact q
  ·rw [← List.append_assoc,List.take_append_drop];exact d
structure qA(a:U)(Z A:V):Prop where
 le:Z.size≤A.size
 pre:∀ N,N < Z.size→fT N a→A[N]?=Z[N]?
theorem qA.B{a:U}{aB Z A:V}(aR:a4 aB Z)(M:qA a Z A)(b:∀ N,N < aB.size→fT N a):a4 aB A:=
 ⟨Nat.le_trans aR.le M.le,fun N aP=>(M.pre N (Nat.lt_of_lt_of_le aP aR.le) (b N aP)).trans (aR.pre N aP)⟩
theorem cN.Ax{aB Z:V}{a:U}{L:Nat}{T:List dC}(g:cN E aB Z a L T):∀ N,N < aB.size→fT N a:=by
 intro N aP z J
 rcases g.here with ⟨_,b,_⟩ | ⟨c,rest,d,b,_,_⟩
 ·rw [b] at J;cases J
 ·rw [d] at J;cases J;show c ≠ N;omega
theorem dI.Ay{a:U}{Z A:V}{N:Nat}{aK:List dC}(q:dI E Z N aK)(M:qA a Z A)(b:fT N a):dI E A N aK:=by
 obtain⟨J,g⟩:=q.at_
 exact⟨q.ok,J,by rw [M.pre N q.lt b];exact g⟩
theorem qA.refl(a:U)(Z:V):qA a Z Z:=⟨Nat.le_refl _,fun _ _ _=>rfl⟩
theorem CF{aB Z:V}{J:TypeId}{Q:dO}{a v:U}{l L bX D n:Nat}{T u:List dC}(g:cN E aB Z a L T)(aR:aB.size≤Z.size)(s:cB E Z v bX u)(K7:l=T.length)(K8:n=u.length)(f:Q.leaves.length=1)(b3:dC)(K9:Q.aK=[E.eI b3])(La:E.ok b3)
  (hP:Nat) (aP:Q.bytes=hP) (G:1≤hP) (H:T.length+u.length≤E.eS) (h:L < T.length+u.length→(T.length+u.length)*hP≤140737488355328) {p:U→Nat→Nat→V→Prop}
  (i:∀ b cW A,cN E aB A b cW (T ++ u)→qA a Z A→(T.length+u.length≤L→cW=L∧b=a)→(b=a∨∃ N,b=some ⟨N,0,none⟩∧Z.size≤N)→p b (T.length+u.length) cW A):gW Z J Q a l L (.slice v n D) p:=by
 subst K7;subst K8;subst aP
 have Li:=g.cap
 refine⟨u.length,u.map E.eI,rfl,?_,?_,?_⟩
 ·rw [f];have:=s.wG (l:=u.length) (bX:=D) u.length (Nat.le_refl _);rw [List.take_length] at this;exact this
 ·intro c
  rcases g.here with ⟨j,m,d⟩ | ⟨N,rest,j,m,q,d⟩
  ·subst j;subst m;subst d
   have:u=[]:=List.length_eq_zero_iff.mp (by simpa using c)
   subst this
   exact i none 0 Z (cN.nil _ _) (qA.refl _ _) (fun _=>⟨rfl,rfl⟩) (Or.inl rfl)
  ·subst j
   rw [f,Nat.mul_one]
   show o1 Z ((⟨N,0,none⟩:Addr).add T.length) 0 (List.map E.eI u).length∧p (some ⟨N,0,none⟩) (T.length+u.length) L (iD Z ((⟨N,0,none⟩:Addr).add T.length) 0 (List.map E.eI u))
   rw [w]
   have Lj:u.length≤rest.length:=by rw [List.length_append] at d;omega
   have e:=Aw (bW:=u) (off:=T.length) (Q:=0) q s.ok (by rw [List.length_append];omega)
   refine⟨x1 fun C Lb=>?_,?_⟩
   ·rw [List.length_map] at Lb
    have J:(⟨N,T.length,none⟩:Addr).add (0+C)=⟨N,T.length+C,none⟩:=by
     rw [Nat.zero_add,← w N T.length,add_add,w]
    rw [J]
    obtain⟨aA,Lc⟩:∃ aA,(T ++ rest)[T.length+C]?=some aA:=⟨_,List.getElem?_eq_getElem (by rw [List.length_append];omega)⟩
    exact⟨⟨_,q.cell Lc⟩,q.frozen _⟩
   ·have Ld:(T ++ rest).take (T.length+0) ++ (u ++ (T ++ rest).drop (T.length+0+u.length))=(T ++ u) ++ rest.drop u.length:=by
     rw [Nat.add_zero,List.take_left,List.drop_append,List.drop_of_length_le (by omega),List.nil_append,List.append_assoc]
     congr 3;omega
    rw [Ld] at e
    refine i _ _ _ ?_ ⟨e.2.le,fun P K5 Le=>e.2.pre P K5 (fun J=>Le _ rfl J.symm)⟩ (fun _=>⟨rfl,rfl⟩) (Or.inl rfl)
    refine⟨by rw [List.length_append];exact H,by rw [List.length_append];exact c,Or.inr ⟨N,rest.drop u.length,rfl,m,e.1,?_⟩⟩
    rw [List.length_append] at d
    rw [List.length_append,List.length_append,List.length_drop];omega
 ·intro c
  have dE:L < T.length+u.length:=by omega
  have h:=h dE
  refine⟨growslice_fits dE h,G,?_,(T.map E.eI),?_,?_⟩
  ·have:(T.length+u.length)*1≤(T.length+u.length)*Q.bytes:=Nat.mul_le_mul_left _ G
   omega
  ·rw [f];have:=g.rd.wG (l:=T.length) (bX:=L) T.length (Nat.le_refl _);rw [List.take_length] at this;exact this
  ·intro K6 Lf
   refine i _ _ _ ?_ ⟨by simp,fun P K5 _=>by rw [Array.getElem?_push];rw [if_neg (by omega)]⟩ (fun Lg=>absurd Lg c) (Or.inr ⟨_,rfl,Nat.le_refl _⟩)
   have q:dI E (Z.push (.cells (T.map E.eI ++ (u.map E.eI ++ hT Q.aK (K6 - (T.length+u.length)))).toArray J (0,0))) Z.size ((T ++ u) ++ List.replicate (K6 - (T.length+u.length)) b3):=by
    refine⟨fun I Lh=>?_,J,?_⟩
    ·rcases List.mem_append.mp Lh with a0 | a0
     ·rcases List.mem_append.mp a0 with t | t
      ·exact g.rd.ok I t
      ·exact s.ok I t
     ·rw [List.eq_of_mem_replicate a0];exact La
    ·rw [K9,xU];simp
   exact q.hV aR (by rw [List.length_append];exact H) (by rw [List.length_append];exact Lf) (by simp;omega)
theorem FA{aB Z:V}{J:TypeId}{Q:dO}{a b:U}{l L bX c n:Nat}{T u:List dC}(g:cN E aB Z a L T)(aR:aB.size≤Z.size)(s:cB E Z b bX u)(d:l=T.length)(e:n=u.length)(f:Q.leaves.length=1)(b3:dC)(h:Q.aK=[E.eI b3])(i:E.ok b3)
  (hP:Nat) (aP:Q.bytes=hP) (j:1≤hP) (m:T.length+u.length≤E.eS) (t:L < T.length+u.length→(T.length+u.length)*hP≤140737488355328) {p:U→Nat→Nat→V→Prop}
  (v:∀ D cW A,cN E aB A D cW (T ++ u)→qA a Z A→(T.length+u.length≤L→cW=L∧D=a)→p D (T.length+u.length) cW A):gW Z J Q a l L (.slice b n c) p:=
 CF g aR s d e f b3 h i hP aP j m t fun D cW A b eA c _=>v D cW A b eA c
theorem CG{aB Z:V}{J:TypeId}{Q:dO}{a b:U}{l L bX c n:Nat}{T u:List dC}(g:cN E aB Z a L T)(aR:aB.size≤Z.size)(s:cB E Z b bX u)(d:l=T.length)(e:n=u.length)(f:Q.leaves.length=1)(b3:dC)(h:Q.aK=[E.eI b3])(i:E.ok b3)
  (hP:Nat) (aP:Q.bytes=hP) (j:1≤hP) (m:T.length+u.length≤E.eS) (t:L < T.length+u.length→(T.length+u.length)*hP≤140737488355328) {p:U→Nat→Nat→V→Prop}
  (v:∀ D cW A,cN E aB A D cW (T ++ u)→qA a Z A→(T.length+u.length≤L→cW=L)→p D (T.length+u.length) cW A):gW Z J Q a l L (.slice b n c) p:=
 FA g aR s d e f b3 h i hP aP j m t fun D cW A b eA c=>v D cW A b eA fun D=>(c D).1
theorem Az{aB Z:V}{J:TypeId}{Q:dO}{a:U}{l L n m:Nat}{cQ:List Value}{T:List dC}(E:lB dC)(g:cN E aB Z a L T)(aR:a4 aB Z)(u:List dC)(e:cQ=u.map E.eI)(f:∀ aN ∈ u,E.ok aN)(h:l=T.length)(i:n=u.length)(j:Q.leaves.length=1)(b3:dC)(t:Q.aK=[E.eI b3])(v:E.ok b3)
  (hP:Nat) (aP:Q.bytes=hP) (D:1≤hP) (G:T.length+u.length≤E.eS) (H:L < T.length+u.length→(T.length+u.length)*hP≤140737488355328) {p:U→Nat→Nat→V→Prop}
  (P:∀ b cW A,cN E aB A b cW (T ++ u)→a4 aB A→(T.length+u.length≤L→cW=L)→p b (T.length+u.length) cW A):b4 Z J cQ fun o d=>gW d J Q a l L (.slice (some o) n m) p:=by
 refine wF E u e f fun d K5 c=>?_
 have s:=K5.o9 (L:=u.length) (by omega) (Nat.le_refl _)
 refine CG (g.B c) (Nat.le_trans aR.le c.le) s h i j b3 t v hP aP D G H fun b cW A K6 K7 K8=>P b cW A K6 ?_ K8
 exact K7.B (aR.trans c) g.Ax
abbrev jZ(gM:Type):=V→V→Value→gM→Prop
def dS{gM:Type}(dK:jZ gM)(aB:V)(p:Value→V→Prop)(s:gM):Prop:=∀ v A,a4 aB A→dK aB A v s→p v A
def h0:jZ Bool:=fun _ _ v N=>v=.bool N
def pA{dC:Type}(E:lB dC):jZ (List dC):=fun aB Z v T=>∃ a L,v=.slice a T.length L∧cN E aB Z a L T
abbrev qB:jZ (List Nat):=pA dQ
def s2{dC gM:Type}(dK:jZ dC)(dF:jZ gM):jZ (dC × gM):=fun aB Z v z=>∃ I aN,v=.tuple #[I,aN]∧dK aB Z I z.1∧dF aB Z aN z.2
def wH{dC gM a:Type}(dK:jZ dC)(dF:jZ gM)(dL:jZ a):jZ (dC × gM × a):=fun aB Z v z=>∃ I aN b3,v=.tuple #[I,aN,b3]∧dK aB Z I z.1∧dF aB Z aN z.2.1∧dL aB Z b3 z.2.2
def bY{dC gM:Type}(I:dC)(a9:dC→gM):gM:=a9 I
section
variable {gM:Type} {dK:jZ gM} {aB:V} {p:Value→V→Prop}
theorem iR{N:Bool}{aL bA:gM}{bD aX:Prop}(g:dS dK aB p (bif N then aL else bA))(a:N=true→dS dK aB p aL→bD)(b:N=false→dS dK aB p bA→aX):cond N bD aX:=by
 cases N
 ·exact b rfl g
 ·exact a rfl g
theorem hH{N:Bool}{aL bA:gM}{bD aX:Prop}(g:dS dK aB p (bif !N then aL else bA))(a:N=false→dS dK aB p aL→bD)(b:N=true→dS dK aB p bA→aX):cond (!N) bD aX:=by
 cases N
 ·exact a rfl g
 ·exact b rfl g
theorem jC{z:Prop}[Decidable z]{aL bA:gM}{bD aX:Prop}(g:dS dK aB p (bif decide z then aL else bA))(a:z→dS dK aB p aL→bD)(b:¬z→dS dK aB p bA→aX):cond (decide z) bD aX:=by
 by_cases Z:z
 ·simp only [Z,decide_true,cond_true] at g ⊢;exact a Z g
 ·simp only [Z,decide_false,cond_false] at g ⊢;exact b Z g
theorem fB{I aN:Int}{aL bA:gM}{bD aX:Prop}(g:dS dK aB p (bif I == aN then aL else bA))(a:I=aN→dS dK aB p aL→bD)(b:I ≠ aN→dS dK aB p bA→aX):cond (I == aN) bD aX:=by
 by_cases Z:I=aN
 ·simp only [Z,beq_self_eq_true,cond_true] at g ⊢;exact a Z g
 ·simp only [beq_eq_false_iff_ne.mpr Z,cond_false] at g ⊢;exact b Z g
theorem wI{I aN:Int}{aL bA:gM}{bD aX:Prop}(g:dS dK aB p (bif I != aN then aL else bA))(a:I ≠ aN→dS dK aB p aL→bD)(b:I=aN→dS dK aB p bA→aX):cond (I != aN) bD aX:=by
 by_cases Z:I=aN
 ·simp only [Z,bne_self_eq_false,cond_false] at g ⊢;exact b Z g
 ·simp only [bne_iff_ne.mpr Z,cond_true] at g ⊢;exact a Z g
end
theorem g3{n:Int}{p:Int→Prop}(g:p n):a2 n p:=⟨g⟩
def In(M:IntKind)(I:Int):Prop:=M.min≤I∧I≤M.max
theorem iS(M:IntKind)(I:Int):In M (M.wrap I):=by
 unfold In
 cases M <;> simp only [IntKind.wrap,IntKind.min,IntKind.max,IntKind.bits,IntKind.signed,Bool.true_and,Bool.false_and,Bool.false_eq_true,if_false,if_true,decide_eq_true_eq,ge_iff_le] <;> (try split) <;> omega
theorem mF{I:Int}:In .i64 I↔(-9223372036854775808≤I∧I < 9223372036854775808):=by
 unfold In;simp only [IntKind.min,IntKind.max,IntKind.bits,IntKind.signed,if_true]
 omega
theorem pB{I:Int}:In .u64 I↔(0≤I∧I < 18446744073709551616):=by
 unfold In;simp only [IntKind.min,IntKind.max,IntKind.bits,IntKind.signed,Bool.false_eq_true,if_false]
 omega
theorem cN.jD{aB Z:V}{a:U}{L:Nat}{T:List Nat}(g:cN dQ aB Z a L T):bJ Z a L T:=g.rd.wE
theorem eM.p8{Z:V}{N:Nat}{T:List Nat}(q:eM Z N T):dI dQ Z N T:=⟨q.words,q.at_⟩
theorem eM.hV{aB Z:V}{N L:Nat}{T rest:List Nat}(q:eM Z N (T ++ rest))(aP:aB.size≤N)(a0:T.length≤L)(a:L≤(T ++ rest).length):cN dQ aB Z (some ⟨N,0,none⟩) L T:=
 q.p8.hV aP (by have:=q.len;rw [List.length_append] at this;show _≤35184372088828;omega) a0 a
theorem eM.oA{aB Z:V}{N L:Nat}{T:List Nat}(q:eM Z N T)(aP:aB.size≤N)(a:L=T.length):cN dQ aB Z (some ⟨N,0,none⟩) L T:=
 eM.hV (rest:=[]) (by simpa using q) aP (by omega) (by simp;omega)
def split(T:List Nat):List Nat:=T.flatMap fun aA=>[aA % 4294967296,aA / 4294967296]
theorem CH(T:List Nat):(split T).length=2*T.length:=by
 induction T with
 | nil=>rfl
 | cons I T a=>simp only [split,List.flatMap_cons,List.length_append,List.length_cons,List.length_nil] at a ⊢;omega
theorem FB(T:List Nat):D.val (split T)=val T:=by
 induction T with
 | nil=>rfl
 | cons I T a=>
  simp only [split,List.flatMap_cons,List.cons_append,List.nil_append,D.val,val] at a ⊢
  rw [a]
  have:=Nat.mod_add_div I 4294967296
  omega
theorem FC(T u:List Nat):split (T ++ u)=split T ++ split u:=by simp [split]
theorem CI(aL M:Nat):(D.aE aL).length≤2*M↔(aE aL).length≤M:=by
 rw [D.gF,gF,show 32*(2*M)=64*M by omega]
theorem FD(aL:Nat):(D.aE aL).length≤16384↔(aE aL).length≤8192:=CI aL 8192
theorem CJ{aL M:Nat}:(D.aE aL).length≤M↔aL < 2 ^ (32*M):=D.gF
def join:List Nat→List Nat
 | []=>[]
 | [a]=>[a]
 | a :: N :: l=>(a+N*4294967296) :: join l
theorem CK:∀ (l:List Nat),val (join l)=D.val l
 | []=>rfl
 | [a]=>by simp [join,val,D.val]
 | a :: N :: l=>by
  simp only [join,val,D.val]
  rw [CK l];omega
theorem CL:∀ {l:List Nat},D.Words l→Words (join l)
 | [],_=>by intro I b;cases b
 | [a],Z=>by intro I b;have:=Z a (by simp);simp [join] at b;omega
 | a :: N :: l,Z=>by
  intro I b
  have a0:=Z a (by simp);have d:=Z N (by simp)
  rcases List.mem_cons.mp b with J | J
  ·subst J;omega
  ·exact CL (fun aN c=>Z aN (by simp [c])) I J
theorem CM:∀ {l:List Nat},dH l=l→dH (join l)=join l
 | [],_=>rfl
 | [a],Z=>by
  simp only [join]
  exact Z
 | a :: N :: l,Z=>by
  have a0:=xX Z
  have b:=xX a0
  have c:=CM b
  simp only [join,dH,c]
  rw [if_neg]
  rintro⟨f,d⟩
  have e:l=[]:=by
   cases l with
   | nil=>rfl
   | cons L l=>cases l <;> simp [join] at d
  subst e
  have aP:N=0:=by omega
  subst aP
  simp [dH] at a0
theorem FE(aL:Nat):join (D.aE aL)=aE aL:=by
 have a0:=CK (D.aE aL)
 rw [D.fA] at a0
 have a:=mC (CL (D.p7 aL))
 rw [CM (D.nR aL),a0] at a
 exact a.symm
theorem AA:∀ (l:List Nat),(join l).length=(l.length+1) / 2
 | []=>rfl
 | [a]=>by simp [join]
 | a :: N :: l=>by simp only [join,List.length_cons,AA l];omega
theorem CN:∀ {l:List Nat} {a N:Nat},l.length % 2=0→join (l ++ [a,N])=join l ++ [a+N*4294967296]
 | [],_,_,_=>rfl
 | [_],_,_,Z=>by simp at Z
 | I :: aN :: l,a,N,Z=>by
  simp only [List.cons_append,join]
  rw [CN (by simp at Z;omega)]
theorem CO:∀ {l:List Nat} {a:Nat},l.length % 2=0→join (l ++ [a])=join l ++ [a]
 | [],_,_=>rfl
 | [_],_,Z=>by simp at Z
 | I :: aN :: l,a,Z=>by
  simp only [List.cons_append,join]
  rw [CO (by simp at Z;omega)]
theorem D.CP{aK:List Nat}{Q t cW O a bD b:Nat}(c:aK.length=Q)(d:bD=O+4294967296*b)(Z:O+a=t+4294967296*cW):D.val (aK ++ [t])+(b+cW)*2 ^ (32*(Q+1))=D.val aK+(bD+a)*2 ^ (32*Q):=by
 rw [D.hR,c,D.jY]
 have J:bD+a=t+4294967296*(b+cW):=by omega
 rw [J]
 generalize 2 ^ (32*Q)=P
 simp only [D.val,Nat.mul_zero,Nat.add_zero]
 rw [Nat.add_mul t,Nat.mul_left_comm,Nat.mul_comm P t,Nat.mul_assoc 4294967296]
 omega
def c3(M:IntKind):jZ Int:=fun _ _ v n=>v=.int M n∧In M n
def gC:jZ Nat:=fun aB Z v aL=>∃ a L,v=.slice a (D.aE aL).length L∧cN b2 aB Z a L (D.aE aL)
def dZ:jZ (Bool × List Nat):=fun aB Z v z=>∃ a L,v=.agg #[.bool z.1,.slice a z.2.length L]∧cN dQ aB Z a L z.2
def fC:jZ (Bool × Nat):=fun aB Z v z=>∃ a L,v=.agg #[.bool z.1,.slice a (D.aE z.2).length L]∧cN b2 aB Z a L (D.aE z.2)
theorem FF{P:Program}{a9:FuncId}{args:Array Value}{Z:V}{dK p:Value→Prop}(a:xD P a9 args Z dK)(g:∀ v,dK v→p v):xD P a9 args Z p:=by
 obtain⟨v,L,O⟩:=a
 exact⟨v,L,g v O⟩
theorem CQ{Z:V}{a:U}{L:Nat}{T:List Nat}(s:cB dQ Z a L T)(C:Nat):In .u64 ((T.getD C 0:Nat):Int):=by
 rw [pB];have:=v7 (T:=T) s.ok C;omega
theorem nT{aX:Nat}(c4:0 < aX){T:List Nat}(a:∀ I ∈ T,I < aX)(Q:Nat):T.getD Q 0 < aX:=by
 by_cases bE:Q < T.length
 ·have J:T.getD Q 0=T[Q]:=by simp [List.getD,bE]
  rw [J];exact a _ (List.getElem_mem bE)
 ·have J:T.getD Q 0=0:=by simp [List.getD,Nat.le_of_not_lt bE]
  rw [J];exact c4
theorem cB.lC{Z:V}{a:U}{L:Nat}{T:List Nat}(s:cB b2 Z a L T)(C:Nat):T.getD C 0 < 4294967296:=nT (by decide) s.ok C
theorem cB.m0{Z:V}{a:U}{L:Nat}{T:List Nat}(s:cB b2 Z a L T):T.length≤70368744177656:=s.len
instance (M:IntKind) (I:Int):Decidable (In M I):=inferInstanceAs (Decidable (_∧_))
abbrev fD:jZ (List Nat × Int):=s2 qB (c3 .i64)
abbrev wJ:jZ (List Nat):=qB
section
variable {aB Z:V} {v:Value} {z:List Nat × Int} {T:List Nat}
theorem fD.nU{p:U→Nat→Nat→Int→Prop}(a:fD aB Z v z)(g:∀ a L,cN dQ aB Z a L z.1→In .i64 z.2→p a z.1.length L z.2):
  c0 v fun aN=>bR aN fun b g4=>aG b fun a l L=>bR g4 fun c d=>aV .i64 c fun I=>bC d (p a l L I):=by
 obtain⟨I,aN,J,⟨a,L,e,s⟩,f,Q⟩:=a
 subst J;subst e;subst f;exact g a L s Q
theorem fD.elim{p:U→Nat→Nat→Int→Prop}(a:fD aB Z v z)(g:∀ a L,bJ Z a L z.1→p a z.1.length L z.2):
  c0 v fun aN=>bR aN fun b g4=>aG b fun a l L=>bR g4 fun b c=>aV .i64 b fun I=>bC c (p a l L I):=
 a.nU fun a L s _=>g a L s.jD
theorem fD.back{a:U}{L:Nat}(s:cN dQ aB Z a L z.1)(Q:In .i64 z.2):fD aB Z (.tuple #[.slice a z.1.length L,.int .i64 z.2]) z:=
 ⟨_,_,rfl,⟨a,L,rfl,s⟩,rfl,Q⟩
theorem fD.mk{a:U}{L l:Nat}{I:Int}(b:l=z.1.length)(c:I=z.2)(s:cN dQ aB Z a L z.1)(Q:In .i64 z.2):fD aB Z (.tuple #[.slice a l L,.int .i64 I]) z:=by
 subst b;subst c;exact fD.back s Q
theorem fD.none{I:Int}(Q:In .i64 I:=by decide):fD aB Z (.tuple #[.slice Option.none 0 0,.int .i64 I]) ([],I):=⟨_,_,rfl,⟨Option.none,0,rfl,cN.nil _ _⟩,rfl,Q⟩
theorem wJ.nU{p:U→Nat→Nat→Prop}(a:wJ aB Z v T)(g:∀ a L,cN dQ aB Z a L T→p a T.length L):aG v p:=by
 obtain⟨a,L,J,s⟩:=a
 subst J;exact g a L s
end
theorem eG.hV{aB Z:V}{N:Nat}{T:List Nat}(q:eG Z N T)(aP:aB.size≤N):cN dQ aB Z (some ⟨N,0,none⟩) T.length T:=by
 obtain⟨rest,q⟩:=q
 exact q.hV aP (Nat.le_refl _) (by simp)
theorem cN.trim{aB Z:V}{a:U}{L:Nat}{T:List Nat}{E:lB Nat}(g:cN E aB Z a L T):cN E aB Z a L (dH T):=by
 have J:T.take (dH T).length=dH T:=by
  clear g
  induction T with
  | nil=>rfl
  | cons I T b=>
   simp only [dH]
   split
   ·rfl
   ·simp [b]
 have:=g.take (dH T).length
 rw [J] at this;exact this
theorem gC.elim{aB Z:V}{v:Value}{aL:Nat}{p:U→Nat→Nat→Prop}(O:gC aB Z v aL)(g:∀ a L,cN b2 aB Z a L (D.aE aL)→p a (D.aE aL).length L):aG v p:=by
 obtain⟨a,L,J,s⟩:=O
 subst J;exact g a L s
structure cR(Z:V)(N:Nat)(bW:List Value):Prop where
 at_:∃ J,Z[N]?=some (.cells bW.toArray J (0,0))
theorem cR.lt{Z:V}{N:Nat}{bW:List Value}(q:cR Z N bW):N < Z.size:=by
 obtain⟨J,g⟩:=q.at_;exact(Array.getElem?_eq_some_iff.mp g).1
theorem cR.B{Z A:V}{N:Nat}{bW:List Value}(q:cR Z N bW)(M:a4 Z A):cR A N bW:=by
 obtain⟨J,g⟩:=q.at_;exact⟨J,by rw [M.pre N q.lt];exact g⟩
theorem cR.bT{o:Nat}{Z A:V}{N:Nat}{bW:List Value}(q:cR Z N bW)(aP:N ≠ o)(M:a1 o Z A):cR A N bW:=by
 obtain⟨J,g⟩:=q.at_;exact⟨J,by rw [M.pre N q.lt aP];exact g⟩
theorem cK{Z:V}{J:TypeId}{cQ:List Value}{p:Addr→V→Prop}(g:∀ A,cR A Z.size cQ→a4 Z A→p ⟨Z.size,0,none⟩ A):b4 Z J cQ p:=
 g _ ⟨J,by simp⟩ ⟨by simp,fun N aP=>by rw [Array.getElem?_push];rw [if_neg (by omega)]⟩
theorem x2{Z:V}{N:Nat}{bW:List Value}(q:cR Z N bW){M:Nat}{v:Value}(a:bW[M]?=some v){p:Value→Prop}(g:p v):e7 Z ((⟨N,0,none⟩:Addr).add M) p:=by
 obtain⟨J,at_⟩:=q.at_
 unfold e7
 have:fQ Z ((⟨N,0,none⟩:Addr).add M)=some v:=by
  rw [w];unfold fQ
  simp only [at_,Option.isSome_none,Bool.false_eq_true,if_false]
  simpa using a
 rw [this];exact g
theorem kJ{Z:V}{N:Nat}{bW:List Value}(q:cR Z N bW){M:Nat}{v:Value}(a:M < bW.length){p:V→Prop}(g:∀ A,cR A N (bW.set M v)→a1 N Z A→p A):aW Z ((⟨N,0,none⟩:Addr).add M) v p:=by
 obtain⟨J,at_⟩:=q.at_
 rw [w]
 refine⟨⟨⟨bW[M],?_⟩,?_⟩,g _ ⟨J,?_⟩ (a1.set _ _ _ _)⟩
 ·unfold fQ
  simp only [at_,Option.isSome_none,Bool.false_eq_true,if_false]
  simp [a]
 ·unfold mB;simp [at_]
 ·unfold fY
  rw [Array.getElem?_modify]
  simp only [if_true,at_,Option.map_some]
  simp
theorem cR.qC{Z:V}{N:Nat}{bW:List Value}(q:cR Z N bW)(M:Nat):((⟨N,0,none⟩:Addr).add M).block < Z.size:=by
 rw [tD];exact q.lt
theorem a4.c1{a N:V}{n:Nat}(M:a4 a N)(b:n≤a.size):cG n a N:=fun Q bE=>M.pre Q (Nat.lt_of_lt_of_le bE b)
theorem vC{Z:V}{o:Addr}{v:Value}(J:fQ Z o=some v){p:Value→Prop}(g:p v):e7 Z o p:=by
 unfold e7;rw [J];exact g
theorem FG{dC:Type}{dK:hQ dC}{eZ m:Nat}{Z:V}{a:U}{L n:Nat}{l:List dC}(s:tG dK eZ m Z a L l){Q:Int}{C:Nat}(bE:Q=(C:Int))(c:n=l.length){I:dC}(b:l[C]?=some I){p:Addr→Prop}
  (g:∀ o bW,bW.length=eZ→jX Z o 0 bW→dK Z bW I→p o):cL a n Q eZ p:=by
 subst bE;subst c
 have h:=(List.getElem?_eq_some_iff.mp b).1
 obtain⟨z,bW,J,a0,d,e⟩:=s.at_ C I b
 subst J
 refine⟨⟨by omega,by omega⟩,?_⟩
 show p (z.add ((C:Int).toNat*eZ))
 have f:(C:Int).toNat=C:=by omega
 rw [f];exact g _ bW a0 d e
theorem CR{M:IntKind}{n:Int}(Z:(Lit.int M n).wf=true):In M n:=by
 simp only [Lit.wf,Bool.and_eq_true,decide_eq_true_eq] at Z;exact Z
def e8(c5 bE:Nat)(Z:V)(O:fU)(T:List Nat):Prop:=
 O.2.1=T.length∧T.length≤O.2.2∧T.length≤35184372088828∧((T=[]∧O.1=none∧O.2.2=0)∨∃ N rest,O.1=some ⟨N,0,none⟩∧c5≤N∧N < bE∧dI dQ Z N (T ++ rest)∧O.2.2≤(T ++ rest).length)
theorem e8.nil(c5 bE:Nat)(Z:V):e8 c5 bE Z (none,0,0) []:=⟨rfl,by simp,by simp,Or.inl ⟨rfl,rfl,rfl⟩⟩
theorem e8.tO{aB Z:V}{a:U}{L l:Nat}{T:List Nat}(g:cN dQ aB Z a L T)(b:l=T.length){c5 bE:Nat}(a0:c5≤aB.size)(c:Z.size≤bE):e8 c5 bE Z (a,l,L) T:=by
 subst b
 refine⟨rfl,g.cap,g.len,g.here.imp id ?_⟩
 rintro⟨N,rest,d,e,q,f⟩
 exact⟨N,rest,d,Nat.le_trans a0 e,Nat.lt_of_lt_of_le q.lt c,q,f⟩
theorem e8.rd{c5 bE:Nat}{Z:V}{O:fU}{T:List Nat}(q:e8 c5 bE Z O T):bJ Z O.1 O.2.2 T:=by
 obtain⟨a0,b,c,d⟩:=q
 rcases d with ⟨a,e,f⟩ | ⟨N,rest,a,_,_,q,_⟩
 ·subst a;exact bJ.nil _ _ _
 ·rw [a];exact(q.rd c b).wE
theorem e8.B{c5 bE:Nat}{Z A:V}{O:fU}{T:List Nat}(q:e8 c5 bE Z O T)(M:a4 Z A):e8 c5 bE A O T:=
 ⟨q.1,q.2.1,q.2.2.1,q.2.2.2.imp id fun ⟨N,rest,a,b,c,aA,d⟩=>⟨N,rest,a,b,c,aA.B M,d⟩⟩
theorem e8.bT{c5 bE o:Nat}{Z A:V}{O:fU}{T:List Nat}(q:e8 c5 bE Z O T)(a:o < c5∨bE≤o)(M:a1 o Z A):e8 c5 bE A O T:=
 ⟨q.1,q.2.1,q.2.2.1,q.2.2.2.imp id fun ⟨N,rest,a,b,c,aA,d⟩=>⟨N,rest,a,b,c,aA.bT (by omega) M,d⟩⟩
theorem e8.wide{c5 bE x3 hI:Nat}{Z:V}{O:fU}{T:List Nat}(q:e8 c5 bE Z O T)(a0:x3≤c5)(a:bE≤hI):e8 x3 hI Z O T:=
 ⟨q.1,q.2.1,q.2.2.1,q.2.2.2.imp id fun ⟨N,rest,b,c,d,aA,e⟩=>⟨N,rest,b,Nat.le_trans a0 c,Nat.lt_of_lt_of_le d a,aA,e⟩⟩
theorem e8.block{c5 bE:Nat}{Z:V}{O:fU}{T:List Nat}(q:e8 c5 bE Z O T):∀ z,O.1=some z→c5≤z.block∧z.block < bE:=by
 intro z a
 rcases q.2.2.2 with ⟨_,J,_⟩ | ⟨N,rest,b,c,d,_,_⟩
 ·rw [J] at a;cases a
 ·rw [b] at a;cases a;exact⟨c,d⟩
structure x4(c5 bE:Nat)(Z:V)(aY:List fU)(CS:List (List Nat)):Prop where
 len:aY.length=CS.length
 at_:∀ (Q:Nat) O T,aY[Q]?=some O→CS[Q]?=some T→e8 c5 bE Z O T
 two:∀ (Q C:Nat) (O t:fU) (z o:Addr),aY[Q]?=some O→aY[C]?=some t→O.1=some z→t.1=some o→z.block=o.block→Q=C
theorem x4.pair{c5 bE M:Nat}{Z:V}{O t:fU}{T u:List Nat}(a0:c5≤M)(h:M≤bE)(q:(e8 c5 M Z O T∧e8 M bE Z t u)∨(e8 M bE Z O T∧e8 c5 M Z t u)):x4 c5 bE Z [O,t] [T,u]:=by
 have d:∀ z o,O.1=some z→t.1=some o→z.block ≠ o.block:=fun z o b c=>by
  rcases q with ⟨a,N⟩ | ⟨a,N⟩
  ·have:=a.block z b;have:=N.block o c;omega
  ·have:=a.block z b;have:=N.block o c;omega
 have os:e8 c5 bE Z O T:=by rcases q with ⟨a,N⟩ | ⟨a,N⟩ <;> exact a.wide (by omega) (by omega)
 have g:e8 c5 bE Z t u:=by rcases q with ⟨a,N⟩ | ⟨a,N⟩ <;> exact N.wide (by omega) (by omega)
 refine⟨rfl,fun Q aA fI b c=>?_,fun Q C a N z o b c e f J=>?_⟩
 ·match Q with
  | 0=>simp at b c;subst b;subst c;exact os
  | 1=>simp at b c;subst b;subst c;exact g
  | Q+2=>simp at b
 ·match Q,C with
  | 0,0 | 1,1=>rfl
  | 0,1=>simp at b c;subst b;subst c;exact absurd J (d _ _ e f)
  | 1,0=>simp at b c;subst b;subst c;exact absurd J.symm (d _ _ f e)
  | Q+2,_=>simp at b
  | _,C+2=>simp at c
theorem e8.hV{c5 bE:Nat}{aB Z:V}{O:fU}{T:List Nat}(q:e8 c5 bE Z O T)(a:aB.size≤c5):cN dQ aB Z O.1 O.2.2 T:=
 ⟨q.2.2.1,q.2.1,q.2.2.2.imp id fun ⟨N,rest,b,c,_,aA,d⟩=>⟨N,rest,b,Nat.le_trans a c,aA,d⟩⟩
theorem lY{Z:V}{N:Nat}{bW:List Value}(q:cR Z N bW){M:Nat}{t:IntKind}{I:Int}(a:bW[M]?=some (.int t I)){p:Int→Prop}(g:p I):e7 Z ((⟨N,0,none⟩:Addr).add M) fun v=>aV t v p:=x2 q a (bI rfl g)
theorem qD{Z:V}{N:Nat}{bW:List Value}(q:cR Z N bW){M:Nat}{a:U}{l L:Nat}(b:bW[M]?=some (.slice a l L)){p:U→Nat→Nat→Prop}(g:p a l L):e7 Z ((⟨N,0,none⟩:Addr).add M) fun v=>aG v p:=x2 q b (k rfl g)
theorem tP{Z:V}{N:Nat}{bW:List Value}(q:cR Z N bW)(h:bW.length=4){a b c d:Value}{p:V→Prop}(g:∀ A,cR A N [a,b,c,d]→a1 N Z A→p A):
  aW Z ((⟨N,0,none⟩:Addr).add 0) a fun a0=>aW a0 ((⟨N,0,none⟩:Addr).add 1) b fun e=>aW e ((⟨N,0,none⟩:Addr).add 2) c fun f=>aW f ((⟨N,0,none⟩:Addr).add 3) d p:=by
 match bW,h with
 | [S,G,H,P],_=>
  refine kJ q (Nat.le_of_ble_eq_true rfl) fun a0 i j=>?_
  refine kJ i (Nat.le_of_ble_eq_true rfl) fun e l m=>?_
  refine kJ l (Nat.le_of_ble_eq_true rfl) fun f n t=>?_
  refine kJ n (Nat.le_of_ble_eq_true rfl) fun v D E=>?_
  exact g v D (j.trans (m.trans (t.trans E)))
theorem AB{Z:V}{N:Nat}{bW:List Value}(q:cR Z N bW)(j:bW.length=5){a b c d e:Value}{p:V→Prop}(g:∀ A,cR A N [a,b,c,d,e]→a1 N Z A→p A):
  aW Z ((⟨N,0,none⟩:Addr).add 0) a fun a0=>aW a0 ((⟨N,0,none⟩:Addr).add 1) b fun f=>aW f ((⟨N,0,none⟩:Addr).add 2) c fun h=>aW h ((⟨N,0,none⟩:Addr).add 3) d fun i=>aW i ((⟨N,0,none⟩:Addr).add 4) e p:=by
 match bW,j with
 | [S,K6,K7,K8,K9],_=>
  refine kJ q (Nat.le_of_ble_eq_true rfl) fun a0 l m=>?_
  refine kJ l (Nat.le_of_ble_eq_true rfl) fun f n t=>?_
  refine kJ n (Nat.le_of_ble_eq_true rfl) fun h v D=>?_
  refine kJ v (Nat.le_of_ble_eq_true rfl) fun i E G=>?_
  refine kJ E (Nat.le_of_ble_eq_true rfl) fun H P K5=>?_
  exact g H P (m.trans (t.trans (D.trans (G.trans K5))))
def vD:Value→Bool
 | .int .u64 _ | .int .u32 _ | .int .u8 _=>true
 | _=>false
structure m1(Z A:V):Prop where
 le:Z.size≤A.size
 cell:∀ o v,vD v=true→fQ Z o=some v→fQ A o=some v
 x5:∀ (N:Nat) (cQ:Array Value) (J:TypeId) (a9:Nat × Nat),Z[N]?=some (Obj.cells cQ J a9)→(∀ v ∈ cQ,vD v=true)→A[N]?=Z[N]?
theorem m1.trans{a N L:V}(I:m1 a N)(aN:m1 N L):m1 a L:=
 ⟨Nat.le_trans I.le aN.le,fun _ _ aA J=>aN.cell _ _ aA (I.cell _ _ aA J),fun M _ _ _ b c=>by
  have a0:=I.x5 M _ _ _ b c
  rw [← a0,aN.x5 M _ _ _ (a0.trans b) c]⟩
theorem a4.aD{Z A:V}(M:a4 Z A):m1 Z A:=
 ⟨M.le,fun _ _ _ J=>M.cell J,fun N _ _ _ aP _=>M.pre N (Array.getElem?_eq_some_iff.mp aP).1⟩
class vE (E:lB Nat):Prop where
 word:∀ I,vD (E.eI I)=true
instance :vE dQ:=⟨fun _=>rfl⟩
instance :vE b2:=⟨fun _=>rfl⟩
instance :vE CD:=⟨fun _=>rfl⟩
theorem bJ.aD{Z A:V}{a:U}{L:Nat}{T:List Nat}(s:bJ Z a L T)(m:m1 Z A):bJ A a L T:=
 ⟨s.len,s.cap,s.words,fun Q bE=>let ⟨z,J,g⟩:=s.at_ Q bE;⟨z,J,m.cell _ _ rfl g⟩⟩
theorem cB.aD{E:lB Nat}[bV:vE E]{Z A:V}{a:U}{L:Nat}{T:List Nat}(s:cB E Z a L T)(m:m1 Z A):cB E A a L T:=
 ⟨s.len,s.cap,s.ok,fun Q I bE=>let ⟨z,J,g⟩:=s.at_ Q I bE;⟨z,J,m.cell _ _ (bV.word I) g⟩⟩
theorem dI.aD{E:lB Nat}[bV:vE E]{Z A:V}{N:Nat}{aK:List Nat}(q:dI E Z N aK)(m:m1 Z A):dI E A N aK:=by
 obtain⟨J,g⟩:=q.at_
 refine⟨q.ok,J,?_⟩
 rw [m.x5 N _ _ _ g (fun v aU=>?_)]
 ·exact g
 ·simp only [List.mem_toArray,List.mem_map] at aU
  obtain⟨I,_,J⟩:=aU
  subst J;exact bV.word I
theorem cN.aD{E:lB Nat}[vE E]{aB Z A:V}{a:U}{L:Nat}{T:List Nat}(g:cN E aB Z a L T)(m:m1 Z A):cN E aB A a L T:=
 ⟨g.len,g.cap,g.here.imp id fun ⟨N,rest,b,c,q,d⟩=>⟨N,rest,b,c,q.aD m,d⟩⟩
theorem FH{Z:V}{N:Nat}{bW:List Value}(q:cR Z N bW){M:Nat}{v:Value}(b:(bW[M]?.map vD)=some false){p:V→Prop}(g:∀ A,cR A N (bW.set M v)→a1 N Z A→m1 Z A→p A):aW Z ((⟨N,0,none⟩:Addr).add M) v p:=by
 have e:M < bW.length:=by
  rcases Nat.lt_or_ge M bW.length with a0 | a0
  ·exact a0
  ·rw [List.getElem?_eq_none a0] at b;cases b
 rw [List.getElem?_eq_getElem e] at b
 have b:vD bW[M]=false:=by simpa using b
 obtain⟨J,at_⟩:=q.at_
 rw [w]
 have d:a1 N Z (fY Z ⟨N,M,none⟩ v):=a1.set _ _ _ _
 have f:(fY Z ⟨N,M,none⟩ v)[N]?=some (.cells (bW.set M v).toArray J (0,0)):=by
  unfold fY
  rw [Array.getElem?_modify]
  simp only [if_true,at_,Option.map_some]
  simp
 refine⟨⟨⟨bW[M],?_⟩,?_⟩,g _ ⟨J,f⟩ d ⟨d.le,?_,?_⟩⟩
 ·unfold fQ
  simp only [at_,Option.isSome_none,Bool.false_eq_true,if_false]
  simp [e]
 ·unfold mB;simp [at_]
 ·intro o dU aA a
  by_cases c:o.block=N
  ·have l:=a
   unfold fQ at a ⊢
   rw [c] at a ⊢
   rw [at_] at a;rw [f]
   simp only at a ⊢
   split at a
   ·cases a
   ·rename_i aY
    rw [if_neg aY]
    simp only [List.getElem?_toArray] at a ⊢
    by_cases h:o.off=M
    ·rw [h,List.getElem?_eq_getElem e] at a
     cases a;rw [b] at aA;cases aA
    ·rw [List.getElem?_set_ne (fun J=>h J.symm)];exact a
  ·rw [tC (d.pre _ (xT a) c)];exact a
 ·intro i cQ m a9 aP j
  by_cases c:i=N
  ·exfalso
   rw [c,at_] at aP
   cases aP
   have:=j bW[M] (by simp)
   rw [b] at this;cases this
  ·exact d.pre _ (Array.getElem?_eq_some_iff.mp aP).1 c
theorem c9(N Q C:Nat):((⟨N,0,none⟩:Addr).add Q).add C=⟨N,Q+C,none⟩:=(add_add _ _ _).trans (w _ _)
theorem aI{Z:V}{N M:Nat}{o:Addr}{bW:List Value}{v:Value}(q:cR Z N bW)(J:o=⟨N,M,none⟩)(a:bW[M]?=some v){p:Value→Prop}(g:p v):e7 Z o p:=by
 subst J
 have:=x2 (M:=M) q a g
 rw [w] at this;exact this
theorem bK{Z:V}{N M:Nat}{o:Addr}{bW:List Value}{v:Value}(q:cR Z N bW)(J:o=⟨N,M,none⟩)(a:(bW[M]?.map vD)=some false){p:V→Prop}(g:∀ A,cR A N (bW.set M v)→a1 N Z A→m1 Z A→p A):aW Z o v p:=by
 subst J
 have:=FH (M:=M) (v:=v) q a g
 rw [w] at this;exact this
theorem eY{o:Addr}{N M n:Nat}(J:o=⟨N,M,none⟩)(Z:N < n):o.block < n:=by subst J;exact Z
theorem m1.lt{Z A:V}{N:Nat}(m:m1 Z A)(l:N < Z.size):N < A.size:=Nat.lt_of_lt_of_le l m.le
theorem cC{dC gM:Type}{dK:jZ gM}{aB:V}{Y:Value→V→Prop}{I z:dC}{a9:dC→gM}(J:z=I)(g:dS dK aB Y (bY I a9)):dS dK aB Y (a9 z):=by subst J;exact g
end Go.Gv
