import Derived.Test.YtllhckjfhefcdaaGreatDoorKB
import Derived.Test.YtllhckjfhefcdaaGreatDoorKC0
namespace Go.Proofs.YtllhckjfhefcdaaGreatDoor.G
open Go.Gv
set_option maxRecDepth 100000
set_option linter.unusedVariables false
theorem yJ{Z:V}{o off l:Nat}{bD bV aX:List Nat}(q:dI dQ Z o (bD ++ (bV ++ aX)))(a:bD.length=off)(b:l=bV.length)(c:bV.length≤35184372088828){Q:Int}{C:Nat}(bE:Q=(C:Int))(d:C < bV.length){p:Int→Prop}
  (g:p (bV.getD C 0:Nat)):cL (some ⟨o,off,none⟩) l Q 1 fun o=>e7 Z o fun v=>aV .u64 v p:=by
 have s:=q.Au (off:=off) (n:=bV.length) (L:=bV.length) c (by simp;omega) (Nat.le_refl _)
 have J:((bD ++ (bV ++ aX)).drop off).take bV.length=bV:=by rw [← a,List.drop_left,List.take_left]
 rw [J] at s
 exact wD s bE b d g
def sB(aU:V)(o:Nat)(a0 Z:V):Prop:=a1 o aU Z∧a1 o a0 Z
theorem Dt{o z:Nat}{aU Z A:V}(M:a1 o aU Z)(a:a1 z Z A)(f:aU.size≤z)(c:z ≠ o):a1 o aU A:=
 ⟨Nat.le_trans M.le a.le,fun N aP d=>(a.pre N (Nat.lt_of_lt_of_le aP M.le) (by omega)).trans (M.pre N aP d),fun m J=>by
  have b:=M.len m J
  have e:=a.pre o (Cz b) (fun J=>c J.symm)
  unfold n8 at *;rw [e];exact b⟩
theorem yK{Z aU a0:V}{o off l:Nat}{bD bV aX:List Nat}(q:dI dQ Z o (bD ++ (bV ++ aX)))(c:bD.length=off)(h:l=bV.length)(b1:sB aU o a0 Z){Q:Int}{C:Nat}(bE:Q=(C:Int))(d:C < bV.length){I:Int}{v:Nat}(e:I=(v:Int))(f:v < 18446744073709551616){p:V→Prop}
  (g:∀ A,dI dQ A o (bD ++ (bV.set C v ++ aX))→sB aU o a0 A→p A):cL (some ⟨o,off,none⟩) l Q 1 fun o=>aW Z o (.int .u64 I) p:=by
 refine Av q bE (by omega) (by simp;omega) (by rw [e];rfl) f fun a b=>?_
 refine g _ ?_ ⟨b1.1.trans b,b1.2.trans b⟩
 have J:(bD ++ (bV ++ aX)).set (off+C) v=bD ++ (bV.set C v ++ aX):=by
  rw [← c,List.set_append_right _ _ (by omega),Nat.add_sub_cancel_left,List.set_append_left _ _ d]
 rw [J] at a;exact a
theorem AM{T:List Nat}{Q:Nat}:val (T.take (Q+1))=val (T.take Q)+2 ^ (64*Q)*T.getD Q 0:=by
 by_cases bE:Q < T.length
 ·rw [lX bE,hR,List.length_take,Nat.min_eq_left (by omega)];simp [val]
 ·rw [List.take_of_length_le (by omega),List.take_of_length_le (by omega)]
  simp [List.getD,show T.length≤Q by omega]
theorem GZ{a N:Nat}(b:a < 18446744073709551616)(aP:N < 18446744073709551616):a*N≤340282366920938463426481119284349108225:=Nat.mul_le_mul (show a≤18446744073709551615 by omega) (show N≤18446744073709551615 by omega)
theorem Du{bV u:List Nat}{C aA dL L q cW fM t:Nat}(a:C < bV.length)(a0:L+aA*u.getD C 0+q+t=bV.getD C 0+18446744073709551616*(cW+fM))(J:val bV+aA*val (u.take C)=dL+(L+q)*2 ^ (64*C)):
  val (bV.set C t)+aA*val (u.take (C+1))=dL+(cW+fM)*2 ^ (64*(C+1)):=by
 have aY:=mE (aK:=bV) (C:=C) (v:=t) a
 rw [AM,jY]
 generalize 2 ^ (64*C)=P at *
 generalize bV.getD C 0=b3 at *
 have b:(L+aA*u.getD C 0+q+t)*P=(b3+18446744073709551616*(cW+fM))*P:=by rw [a0]
 have c:(L+aA*u.getD C 0+q+t)*P=(L+q)*P+aA*(P*u.getD C 0)+t*P:=by
  have:aA*(P*u.getD C 0)=aA*u.getD C 0*P:=by rw [Nat.mul_comm P,Nat.mul_assoc]
  rw [this,← Nat.add_mul,← Nat.add_mul];congr 1;omega
 have d:(b3+18446744073709551616*(cW+fM))*P=b3*P+(cW+fM)*(18446744073709551616*P):=by
  rw [Nat.add_mul,Nat.mul_comm 18446744073709551616,Nat.mul_assoc]
 rw [Nat.mul_add]
 omega
theorem Dv{T:List Nat}{n:Nat}(Z:T.length=n):T.getD n 0=0:=by simp [List.getD,show T.length≤n by omega]
theorem G0{Y:K}{N:U}{L bH n o off aA dL:Nat}{u bD aX:List Nat}{aU a0:V}(O:bJ aU N bH u)(m:u.length=n)(e:bD.length=off)(K5:fT o N)(D:aA < 18446744073709551616)(Ld:n < 35184372088820)
  (g:∀ Z q bV,q≤1→bV.length=n+1→dI dQ Z o (bD ++ (bV ++ aX))→sB aU o a0 Z→val bV+aA*val u=dL+q*2 ^ (64*(n+1))→Y (.int .u64 (q:Int)) Z) :
  ∀ (M C b q:Nat) (bV:List Nat) (Z:V),C+M=n→bV.length=n+1→b < 18446744073709551616→q≤1→dI dQ Z o (bD ++ (bV ++ aX))→sB aU o a0 Z→val bV+aA*val (u.take C)=dL+(b+q)*2 ^ (64*C)→
   m6.bG.t Y (M+1) (some ⟨o,off,none⟩) (n+1) L N n bH (aA:Int) (b:Int) (q:Int) (n:Int) (C:Int) Z:=by
 intro M
 induction M with
 | zero=>
  intro C b q bV Z K6 c E f d b1 J
  have K7:C=n:=by omega
  subst K7
  have K8:bV.getD C 0 < 18446744073709551616:=nT (by decide) (fun I h=>d.ok I (List.mem_append_right _ (List.mem_append_left _ h))) C
  unfold m6.bG.t m6.b0.t
  refine cD (fun aP=>absurd aP (by omega)) fun _=>?_
  unfold m6.aC.t
  refine yJ d e c.symm (by omega) rfl (by omega) ?_
  refine vH rfl rfl rfl f E ?_
  refine yK d e c.symm b1 rfl (by omega) rfl (Nat.mod_lt _ (by decide)) fun i j l=>?_
  refine g i _ _ (by split <;> omega) (by simp [c]) j l ?_
  have G:=Du (u:=u) (aA:=aA) (dL:=dL) (L:=b) (q:=q) (cW:=0) (fM:=if bV.getD C 0 < b+q then 1 else 0) (t:=(bV.getD C 0+18446744073709551616 - b - q) % 18446744073709551616) (show C < bV.length by omega) (by rw [Dv m,Nat.mul_zero];split <;> omega) J
  rw [List.take_of_length_le (by omega),Nat.zero_add] at G
  exact G
 | succ M K9=>
  intro C b q bV Z K6 c E f d b1 J
  have K8:bV.getD C 0 < 18446744073709551616:=nT (by decide) (fun I h=>d.ok I (List.mem_append_right _ (List.mem_append_left _ h))) C
  have H:=O.word C
  have La:=GZ D H
  unfold m6.bG.t m6.b0.t
  refine cD (fun _=>?_) fun aP=>absurd (by omega) aP
  refine fG (O.bT K5 b1.1) (C:=C) rfl m.symm (by omega) ?_
  refine bF (Dl H D Z) fun v A ⟨Lb,Lc⟩=>?_
  subst Lb
  refine Lc.elim ?_
  rw [Nat.mul_comm (u.getD C 0) aA]
  obtain⟨z,P⟩:∃ z,z=aA*u.getD C 0:=⟨_,rfl⟩
  rw [← P] at La ⊢
  refine q6 (a:=z % 18446744073709551616) (N:=b) (L:=0) rfl rfl rfl (by decide) ?_
  refine dR (z / 18446744073709551616+(z % 18446744073709551616+b+0) / 18446744073709551616) (by omega) (by omega) ?_
  refine yJ d e c.symm (by omega) rfl (by omega) ?_
  refine vH rfl rfl rfl f (Nat.mod_lt _ (by decide)) ?_
  refine yK d e c.symm b1 rfl (by omega) rfl (Nat.mod_lt _ (by decide)) fun i j l=>?_
  refine cP ((C+1:Nat):Int) (by omega) (by omega) (by omega) ?_
  refine K9 (C+1) _ _ _ i (by omega) (by simp [c]) (by omega) (by split <;> omega) j l (Du (by omega) ?_ J)
  rw [← P]
  split <;> omega
theorem G1{N:U}{L bH l m n o off aA:Nat}{u bD bV aX:List Nat}{aU Z:V}(O:bJ aU N bH u)(b:u.length=n)(c:l=n+1)(d:m=n)(e:bD.length=off)(f:fT o N)(g:aA < 18446744073709551616)(h:n < 35184372088820)(i:bV.length=n+1)(j:dI dQ Z o (bD ++ (bV ++ aX)))(b1:a1 o aU Z):
  aF m6.id #[.slice (some ⟨o,off,none⟩) l L,.slice N m bH,.int .u64 (aA:Int)] Z fun v A=>∃ (q:Nat) (a:List Nat),q≤1∧v=.int .u64 (q:Int)∧a.length=n+1∧dI dQ A o (bD ++ (a ++ aX))∧sB aU o Z A∧val a+aA*val u=val bV+q*2 ^ (64*(n+1)):=by
 subst c;subst d
 refine m6.ok ?_
 unfold m6.t m6.F.t m6.a7.t
 refine⟨m+1,G0 (a0:=Z) (dL:=val bV) O b e f g h (fun K5 q D E G H P J=>⟨q,D,E,rfl,G,H,P,J⟩) m 0 0 0 bV Z (by omega) i (by decide) (by decide) j ⟨b1,a1.refl _ _⟩ (by simp [val])⟩
theorem Dw{bV u:List Nat}{C dF L cW t:Nat}(a:C < bV.length)(a0:L+bV.getD C 0+u.getD C 0=t+18446744073709551616*cW)(J:val bV+L*2 ^ (64*C)=dF+val (u.take C)):
  val (bV.set C t)+cW*2 ^ (64*(C+1))=dF+val (u.take (C+1)):=by
 have aY:=mE (aK:=bV) (C:=C) (v:=t) a
 rw [AM,jY]
 generalize 2 ^ (64*C)=P at *
 generalize bV.getD C 0=b3 at *
 have b:(L+b3+u.getD C 0)*P=(t+18446744073709551616*cW)*P:=by rw [a0]
 have c:(L+b3+u.getD C 0)*P=L*P+b3*P+P*u.getD C 0:=by rw [Nat.add_mul,Nat.add_mul,Nat.mul_comm P]
 have d:(t+18446744073709551616*cW)*P=t*P+cW*(18446744073709551616*P):=by rw [Nat.add_mul,Nat.mul_comm 18446744073709551616,Nat.mul_assoc]
 omega
theorem G2{Y:K}{N:U}{L bH n o off dF:Nat}{u bD aX:List Nat}{aU a0:V}(O:bJ aU N bH u)(l:u.length=n)(d:bD.length=off)(v:fT o N)(P:n < 35184372088820)
  (g:∀ Z a bV,a≤1→bV.length=n+1→dI dQ Z o (bD ++ (bV ++ aX))→sB aU o a0 Z→val bV+a*2 ^ (64*(n+1))=dF+val u→Y (.int .u64 (a:Int)) Z) :
  ∀ (M C a:Nat) (bV:List Nat) (Z:V),C+M=n→bV.length=n+1→a≤1→dI dQ Z o (bD ++ (bV ++ aX))→sB aU o a0 Z→val bV+a*2 ^ (64*C)=dF+val (u.take C)→
   m7.bG.t Y (M+1) (some ⟨o,off,none⟩) (n+1) L N n bH (a:Int) (n:Int) (C:Int) Z:=by
 intro M
 induction M with
 | zero=>
  intro C a bV Z D b e c b1 J
  have E:C=n:=by omega
  subst E
  have G:bV.getD C 0 < 18446744073709551616:=nT (by decide) (fun I f=>c.ok I (List.mem_append_right _ (List.mem_append_left _ f))) C
  unfold m7.bG.t m7.b0.t
  refine cD (fun aP=>absurd aP (by omega)) fun _=>?_
  unfold m7.aC.t
  refine yJ c d b.symm (by omega) rfl (by omega) ?_
  refine q6 (N:=0) rfl rfl rfl e ?_
  refine yK c d b.symm b1 rfl (by omega) rfl (Nat.mod_lt _ (by decide)) fun h i j=>?_
  refine g h _ _ (by omega) (by simp [b]) i j ?_
  have m:=Dw (u:=u) (dF:=dF) (L:=a) (cW:=(bV.getD C 0+0+a) / 18446744073709551616) (t:=(bV.getD C 0+0+a) % 18446744073709551616) (show C < bV.length by omega) (by rw [Dv l];omega) J
  rw [List.take_of_length_le (by omega)] at m
  exact m
 | succ M H=>
  intro C a bV Z D b e c b1 J
  have G:bV.getD C 0 < 18446744073709551616:=nT (by decide) (fun I f=>c.ok I (List.mem_append_right _ (List.mem_append_left _ f))) C
  have K5:=O.word C
  unfold m7.bG.t m7.b0.t
  refine cD (fun _=>?_) fun aP=>absurd (by omega) aP
  refine yJ c d b.symm (by omega) rfl (by omega) ?_
  refine fG (O.bT v b1.1) (C:=C) rfl l.symm (by omega) ?_
  refine q6 rfl rfl rfl e ?_
  refine yK c d b.symm b1 rfl (by omega) rfl (Nat.mod_lt _ (by decide)) fun h i j=>?_
  refine cP ((C+1:Nat):Int) (by omega) (by omega) (by omega) ?_
  exact H (C+1) _ _ h (by omega) (by simp [b]) (by omega) i j (Dw (by omega) (by omega) J)
theorem Dx{N:U}{L bH l m n o off:Nat}{u bD bV aX:List Nat}{aU Z:V}(O:bJ aU N bH u)(c:u.length=n)(d:l=n+1)(e:m=n)(f:bD.length=off)(g:fT o N)(h:n < 35184372088820)(i:bV.length=n+1)(j:dI dQ Z o (bD ++ (bV ++ aX)))(b1:a1 o aU Z):
  aF m7.id #[.slice (some ⟨o,off,none⟩) l L,.slice N m bH] Z fun v A=>∃ (a:Nat) (b:List Nat),a≤1∧v=.int .u64 (a:Int)∧b.length=n+1∧dI dQ A o (bD ++ (b ++ aX))∧sB aU o Z A∧val b+a*2 ^ (64*(n+1))=val bV+val u:=by
 subst d;subst e
 refine m7.ok ?_
 unfold m7.t m7.F.t m7.a7.t
 refine⟨m+1,G2 (a0:=Z) (dF:=val bV) O c f g h (fun K5 q D E G H P J=>⟨q,D,E,rfl,G,H,P,J⟩) m 0 0 bV Z (by omega) i (by decide) j ⟨b1,a1.refl _ _⟩ (by simp [val])⟩
def sC(bE c5 bH:Nat):Nat:=if bH≤bE then 18446744073709551615 else(bE*18446744073709551616+c5) / bH
theorem G3{bE c5 bH:Nat}(a:c5 < 18446744073709551616):sC bE c5 bH < 18446744073709551616:=by
 unfold sC
 split
 ·decide
 ·rw [Nat.div_lt_iff_lt_mul (by omega)]
  have:(bE+1)*18446744073709551616≤bH*18446744073709551616:=Nat.mul_le_mul_right _ (by omega)
  omega
theorem G4{bE c5 bH:Nat}(a:c5 < 18446744073709551616)(aJ:bH < 18446744073709551616)(Z:V):
  aF tR.id #[.int .u64 (bE:Int),.int .u64 (c5:Int),.int .u64 (bH:Int)] Z fun v A=>A=Z∧v=.int .u64 ((sC bE c5 bH:Nat):Int):=by
 refine tR.ok ?_
 unfold tR.t tR.F.t
 refine cD (fun aP=>?_) fun aP=>?_
 ·unfold sC;rw [if_pos (by omega)];exact⟨rfl,rfl⟩
 ·refine bF (Dq (by omega) a aJ Z) fun v A ⟨J,b⟩=>?_
  subst J
  refine b.elim ?_
  unfold sC;rw [if_neg (by omega)];exact⟨rfl,rfl⟩
theorem G5{Y:K}{K5:U→Nat→Nat→U→Nat→Nat→Int→U→Nat→Nat→Int→V→Prop}{N:U}{L hK bH eK n a c m K6 C dL b7 yL:Nat}{u bD aX e:List Nat}{aU a0:V}(O:bJ aU N bH u)(K7:u.length=n)(K8:bD.length=C)(K9:fT a N)(Ld:aU.size≤c)(h:c ≠ a)(La:n < 35184372088820)(Lq:0 < val u)
  (Lr:val u*b7+yL=dL) (Ls:yL < val u) (Lt:dL < 2 ^ (64*(n+1))) (Lu:C < e.length) (Lv:m=e.length) (Le:b7 < 18446744073709551616)
  (g:∀ b bV,bV.length=n+1→dI dQ b a (bD ++ (bV ++ aX))→a1 a aU b→val bV=yL→dI dQ b c (e.set C b7)→iK.eC.t Y K5 (some ⟨a,0,none⟩) eK hK N n bH (n:Int) (some ⟨c,0,none⟩) m K6 (C:Int) b) :
  ∀ (M aA:Nat) (bV:List Nat) (Z:V),b7+(M+1)=aA→aA < 18446744073709551616→bV.length=n+1→dI dQ Z a (bD ++ (bV ++ aX))→dI dQ Z c e→a1 a aU Z→val bV+aA*val u=dL+2 ^ (64*(n+1))→
   iK.eT.t Y K5 (M+1) (some ⟨a,0,none⟩) eK hK N n bH (n:Int) (some ⟨c,0,none⟩) m K6 (C:Int) (aA:Int) (some ⟨a,C,none⟩) (n+1) L Z:=by
 intro M
 induction M with
 | zero=>
  intro aA bV Z Lb Lf D E G b1 J
  unfold iK.eT.t iK.g7.t
  refine dR (aA - 1) (by omega) (by omega) ?_
  refine bF (Dx O K7 rfl rfl K8 K9 La D E b1) fun v b ⟨d,i,Lg,cO,j,l,f,Lh⟩=>?_
  subst cO
  refine bI rfl ?_
  have Li:Words i:=fun I Lj=>l.ok I (List.mem_append_right _ (List.mem_append_left _ Lj))
  have dE:=hS Li
  rw [j] at dE
  have Lk:aA*val u=val u*b7+val u:=by rw [← Lb,Nat.add_mul,Nat.mul_comm b7];omega
  have H:d=1:=by
   rcases Nat.lt_or_ge d 1 with aB | aB
   ·have:d=0:=by omega
    subst this
    omega
   ·omega
  subst H
  refine hU (fun _=>?_) fun P=>absurd rfl P
  have Ll:dI dQ b c e:=G.bT h f.2
  have Lm:aA - 1=b7:=by omega
  rw [Lm]
  refine x0 Ll (C:=C) (v:=b7) rfl (by omega) (by omega) rfl Le fun Ln Lc=>?_
  exact g _ i j (l.bT (fun J=>h J.symm) Lc) (Dt f.1 Lc Ld h) (by omega) Ln
 | succ M Lo=>
  intro aA bV Z Lb Lf D E G b1 J
  unfold iK.eT.t iK.g7.t
  refine dR (aA - 1) (by omega) (by omega) ?_
  refine bF (Dx O K7 rfl rfl K8 K9 La D E b1) fun v b ⟨d,i,Lg,cO,j,l,f,Lh⟩=>?_
  subst cO
  refine bI rfl ?_
  have Lk:aA*val u=(aA - 1)*val u+val u:=by
   have:aA=aA - 1+1:=by omega
   conv=>lhs;rw [this,Nat.add_mul,Nat.one_mul]
  have Lw:dL < (aA - 1)*val u:=by
   have Lp:(b7+1)*val u≤(aA - 1)*val u:=Nat.mul_le_mul_right _ (by omega)
   rw [Nat.add_mul,Nat.one_mul,Nat.mul_comm] at Lp
   omega
  have H:d=0:=by
   rcases Nat.lt_or_ge d 1 with aB | aB
   ·omega
   ·have:d=1:=by omega
    subst this
    omega
  subst H
  refine hU (fun P=>absurd P (by decide)) fun _=>?_
  exact Lo (aA - 1) i b (by omega) (by omega) j l (G.bT h f.2) f.1 (by omega)
theorem Dy{a:List Nat}{M eW:Nat}(d:eW≤2 ^ (64*M))(Z:val a < eW)(b:Words a):val (a.drop M)=0∧val (a.take M)=val a:=by
 have J:val a=val (a.take M)+2 ^ (64*M)*val (a.drop M):=by
  by_cases c:M≤a.length
  ·conv=>lhs;rw [← List.take_append_drop M a]
   rw [hR,List.length_take,Nat.min_eq_left c]
  ·rw [List.take_of_length_le (by omega),List.drop_of_length_le (by omega)];simp [val]
 have aB:val (a.drop M)=0:=by
  rw [kW b];exact Nat.div_eq_of_lt (by omega)
 rw [aB] at J
 exact⟨aB,by omega⟩
theorem yM{T:List Nat}(a:Words T){m:Nat}(b:T.length=m+1):val T / 2 ^ (64*m)=T.getD m 0:=by
 rw [← kW a,iI (by omega),List.drop_of_length_le (by omega)];simp [val]
theorem G6{T:List Nat}(a:Words T){m:Nat}(b:T.length=m+2):val T / 2 ^ (64*m)=T.getD m 0+18446744073709551616*T.getD (m+1) 0:=by
 rw [← kW a,iI (by omega),iI (by omega),List.drop_of_length_le (by omega)];simp [val]
theorem G7{bV u:List Nat}{n dL:Nat}(b:Words bV)(c:Words u)(g:bV.length=n+1)(h:u.length=n)(i:0 < n)(j:u.getD (n - 1) 0 ≠ 0)(d:val bV=dL)(dE:dL < 18446744073709551616*val u):
  dL / val u≤sC (bV.getD n 0) (bV.getD (n - 1) 0) (u.getD (n - 1) 0):=by
 have e:0 < val u:=by
  rcases Nat.eq_zero_or_pos (val u) with J | J
  ·rw [J] at dE;omega
  ·exact J
 unfold sC
 split
 ·have:dL / val u < 18446744073709551616:=by rw [Nat.div_lt_iff_lt_mul e];exact dE
  omega
 ·have a:=yM c (m:=n - 1) (by omega)
  have f:=G6 b (m:=n - 1) (by omega)
  rw [show n - 1+1=n by omega,d] at f
  rw [show bV.getD n 0*18446744073709551616+bV.getD (n - 1) 0=dL / 2 ^ (64*(n - 1)) by omega,← a,Nat.div_div_eq_div_mul]
  refine Nat.div_le_div_left (Nat.mul_div_le _ _) ?_
  rw [a];exact Nat.mul_pos (Nat.pow_pos (by decide)) (by omega)
theorem G8{Y:K}{N:U}{bH n b d eK hK hX:Nat}{u g6:List Nat}{aU:V}(O:bJ aU N bH u)(j:u.length=n)(K9:fT b N)(Ll:aU.size≤d)(K5:d ≠ b)(Lm:n < 35184372088820)(LN:0 < n)(Ln:u.getD (n - 1) 0 ≠ 0)(L9:eK < 35184372088820)(Ma:eK≤hK)(Mb:n < eK)
  (LO:val g6=hX) (Mc:g6.length=eK) (Lo:Words g6)
  (LP:∀ Z a c,a.length=eK→c.length=eK - n→dI dQ Z b a→dI dQ Z d c→a1 b aU Z→val a=hX % val u→val c=hX / val u→Y (.slice (some ⟨d,0,none⟩) (eK - n) (eK - n)) Z) :
  ∀ (C:Nat) (a c:List Nat) (Z:V),C≤eK - n→a.length=eK→c.length=eK - n→dI dQ Z b a→dI dQ Z d c→a1 b aU Z→a.take C=g6.take C→val (a.drop C) < val u→val (c.drop C)*val u+val (a.drop C)=hX / 2 ^ (64*C)→
   iK.dN.t Y (C+1) (some ⟨b,0,none⟩) eK hK N n bH (n:Int) (some ⟨d,0,none⟩) (eK - n) (eK - n) ((C:Int) - 1) Z:=by
 have Lp:=hS O.words
 rw [j] at Lp
 have l:0 < val u:=by
  rcases Nat.eq_zero_or_pos (val u) with J | J
  ·exfalso
   have:=yM O.words (m:=n - 1) (by omega)
   rw [J,Nat.zero_div] at this;exact Ln this.symm
  ·exact J
 intro C
 induction C with
 | zero=>
  intro a c Z LQ K6 K7 D La b1 _ dE J
  unfold iK.dN.t iK.dD.t
  refine cD (fun aP=>absurd aP (by omega)) fun _=>?_
  rw [List.drop_zero] at dE J
  rw [List.drop_zero,Nat.mul_zero,Nat.pow_zero,Nat.div_one] at J
  unfold iK.a7.t
  refine LP Z a c K6 K7 D La b1 ?_ ?_
  ·rw [← J,Nat.mul_comm,Nat.mul_add_mod,Nat.mod_eq_of_lt dE]
  ·rw [← J,Nat.mul_comm,Nat.mul_add_div l,Nat.div_eq_of_lt dE,Nat.add_zero]
 | succ C LR=>
  intro a c Z LQ K6 K7 D La b1 Lq dE J
  have Lr:Words a:=D.ok
  unfold iK.dN.t iK.dD.t
  refine cD (fun _=>?_) fun aP=>absurd (by omega) aP
  unfold iK.eL.t
  have LS:(((C+1:Nat):Int) - 1)=(C:Int):=by omega
  rw [LS]
  obtain⟨bD,Lb⟩:∃ bD,bD=a.take C:=⟨_,rfl⟩
  obtain⟨bV,K8⟩:∃ bV,bV=(a.drop C).take (n+1):=⟨_,rfl⟩
  obtain⟨aX,c4⟩:∃ aX,aX=a.drop (C+(n+1)):=⟨_,rfl⟩
  have Ls:a=bD ++ (bV ++ aX):=by
   rw [Lb,K8,c4,← List.drop_drop,List.take_append_drop,List.take_append_drop]
  have E:bD.length=C:=by rw [Lb,List.length_take];omega
  have Lt:bV.length=n+1:=by rw [K8,List.length_take,List.length_drop];omega
  have Md:aX.length=eK - (C+(n+1)):=by rw [c4,List.length_drop];omega
  have Me:val (a.drop C)=a.getD C 0+18446744073709551616*val (a.drop (C+1)):=j7 a C
  have Mf:a.getD C 0 < 18446744073709551616:=nT (by decide) Lr C
  have Lc:val (a.drop C) < 18446744073709551616*val u:=by omega
  have Lu:val (a.drop C) < 2 ^ (64*(n+1)):=by
   rw [jY]
   calc val (a.drop C) < 18446744073709551616*val u:=Lc
    _≤18446744073709551616*2 ^ (64*n):=Nat.mul_le_mul_left _ (Nat.le_of_lt Lp)
  have Lv:Words (a.drop C):=fun I f=>Lr I (List.mem_of_mem_drop f)
  have Lw:=Dy (Nat.le_refl _) Lu Lv
  have Lx:val bV=val (a.drop C):=by rw [K8];exact Lw.2
  have Ly:Words bV:=fun I f=>Lv I (by rw [K8] at f;exact List.mem_of_mem_take f)
  have LU:val aX=0:=by
   have:=Lw.1
   rw [List.drop_drop] at this
   rw [c4];exact this
  have Lz:bJ Z (some ⟨b,0,none⟩) eK a:=(D.o9 (L:=eK) (by show _≤35184372088828;omega) (by omega)).wE
  have LA:∀ Q,Q < n+1→a.getD (C+Q) 0=bV.getD Q 0:=by
   intro Q bE
   rw [Ls]
   simp only [List.getD]
   rw [List.getElem?_append_right (by omega),E,Nat.add_sub_cancel_left,List.getElem?_append_left (by omega)]
  refine cP ((C+n:Nat):Int) (by omega) (by omega) (by omega) ?_
  refine fG Lz (C:=C+n) rfl K6.symm (by omega) ?_
  refine cP ((C+n:Nat):Int) (by omega) (by omega) (by omega) ?_
  refine cP ((C+(n - 1):Nat):Int) (by omega) (by omega) (by omega) ?_
  refine fG Lz (C:=C+(n - 1)) rfl K6.symm (by omega) ?_
  refine cP ((n - 1:Nat):Int) (by omega) (by omega) (by omega) ?_
  refine fG (O.bT K9 b1) (C:=n - 1) rfl j.symm (by omega) ?_
  rw [LA n (by omega),LA (n - 1) (by omega)]
  have LB:=v7 Ly (n - 1)
  refine bF (G4 LB (O.word _) Z) fun v LV ⟨G,H⟩=>?_
  subst G;subst H
  refine bI rfl ?_
  have LC:=G7 Ly O.words Lt j LN Ln Lx Lc
  have Ld:=G3 (bE:=bV.getD n 0) (bH:=u.getD (n - 1) 0) LB
  generalize sC (bV.getD n 0) (bV.getD (n - 1) 0) (u.getD (n - 1) 0)=aA at LC Ld ⊢
  refine cP ((C+n:Nat):Int) (by omega) (by omega) (by omega) ?_
  refine cP ((C+n+1:Nat):Int) (by omega) (by omega) (by omega) ?_
  have LW:∀ {p:U→Nat→Nat→Prop},p (some ⟨b,C,none⟩) (n+1) (hK - C)→h7 1 (some ⟨b,0,none⟩) eK hK (some (.int .i64 (C:Int))) (some (.int .i64 ((C+n+1:Nat):Int))) none p:=by
   intro p g
   refine⟨⟨by omega,by omega⟩,⟨by omega,by omega⟩,?_⟩
   show p (iP (some ⟨b,0,none⟩) hK ((C:Int)).toNat 1) ((((C+n+1:Nat):Int)).toNat - ((C:Int)).toNat) (hK - ((C:Int)).toNat)
   have G:(((C+n+1:Nat):Int)).toNat - ((C:Int)).toNat=n+1:=by omega
   have H:hK - ((C:Int)).toNat=hK - C:=by omega
   have h:iP (some ⟨b,0,none⟩) hK ((C:Int)).toNat 1=some ⟨b,C,none⟩:=by
    unfold iP
    rw [if_neg (by omega),Int.toNat_natCast,Nat.mul_one]
    show some ((⟨b,0,none⟩:Addr).add C)=_
    rw [w]
   rw [G,H,h];exact g
  refine LW ?_
  have LX:dI dQ LV b (bD ++ (bV ++ aX)):=by rw [← Ls];exact D
  have LD:val (a.drop C) / val u < 18446744073709551616:=by rw [Nat.div_lt_iff_lt_mul l];exact Lc
  have LF:=Nat.mod_lt (val (a.drop C)) l
  have LY:=Nat.div_add_mod (val (a.drop C)) (val u)
  have LZ:a.take C=g6.take C:=by
   have:=congrArg (List.take C) Lq
   rwa [List.take_take,List.take_take,Nat.min_eq_left (by omega)] at this
  have L0:a.getD C 0=g6.getD C 0:=by
   have G:(a.take (C+1)).getD C 0=a.getD C 0:=by simp [List.getD]
   have H:(g6.take (C+1)).getD C 0=g6.getD C 0:=by simp [List.getD]
   rw [← G,← H,Lq]
  have next:∀ i e,e.length=n+1→dI dQ i b (bD ++ (e ++ aX))→a1 b aU i→val e=val (a.drop C) % val u→dI dQ i d (c.set C (val (a.drop C) / val u))→
    iK.eC.t Y (iK.dN.t Y (C+1)) (some ⟨b,0,none⟩) eK hK N n bH (n:Int) (some ⟨d,0,none⟩) (eK - n) (eK - n) (C:Int) i:=by
   intro i e Mg L1 L2 L3 Le
   unfold iK.eC.t
   refine cP ((C:Int) - 1) (by omega) (by omega) (by omega) ?_
   have LG:(bD ++ (e ++ aX)).drop C=e ++ aX:=by rw [← E,List.drop_left]
   have LH:val (e ++ aX)=val (a.drop C) % val u:=by rw [hR,LU,L3];simp
   refine LR (bD ++ (e ++ aX)) (c.set C (val (a.drop C) / val u)) i (by omega) (by simp;omega) (by simp [K7]) L1 Le L2 ?_ ?_ ?_
   ·have LI:(bD ++ (e ++ aX)).take bD.length=bD:=List.take_left
    rw [E] at LI;rw [LI,Lb];exact LZ
   ·rw [LG,LH];exact LF
   ·rw [LG,LH]
    have L4:(c.set C (val (a.drop C) / val u)).drop C=val (a.drop C) / val u :: c.drop (C+1):=by
     rw [iI (by simp;omega),List.drop_set_of_lt (by omega)]
     simp [List.getD,show C < c.length by omega]
    have L5:hX / 2 ^ (64*C)=g6.getD C 0+18446744073709551616*(hX / 2 ^ (64*(C+1))):=by
     rw [← LO,← kW Lo,← kW Lo,j7]
    rw [L4,L5,← J,← L0]
    simp only [val]
    rw [Nat.add_mul,Nat.mul_comm (val (a.drop C) / val u),Nat.mul_assoc]
    generalize val (c.drop (C+1))*val u=P at *
    omega
  refine bF (G1 (L:=hK - C) O j rfl rfl E K9 Ld Lm Lt LX b1) fun v Lf ⟨q,Lg,Mh,cO,Lh,Li,Lj,h⟩=>?_
  subst cO
  refine bI rfl ?_
  rw [Lx] at h
  have LJ:dI dQ Lf d c:=La.bT K5 Lj.2
  have L6:Words Lg:=fun I f=>Li.ok I (List.mem_append_right _ (List.mem_append_left _ f))
  have L7:=hS L6
  rw [Lh] at L7
  refine hU (fun LK=>?_) fun LL=>?_
  ·have LK:q=0:=by omega
   subst LK
   have Lk:aA=val (a.drop C) / val u:=by
    refine Nat.le_antisymm ?_ LC
    rw [Nat.le_div_iff_mul_le l];omega
   refine x0 LJ (C:=C) (v:=val (a.drop C) / val u) rfl (by omega) (by omega) (by rw [Lk];rfl) LD fun Le LM=>?_
   refine next _ Lg Lh (Li.bT (fun J=>K5 J.symm) LM) (Dt Lj.1 LM Ll K5) ?_ Le
   rw [Lk,Nat.mul_comm] at h
   omega
  ·have LL:q=1:=by omega
   subst LL
   rw [Nat.one_mul] at h
   have Lk:val (a.drop C) / val u < aA:=by
    refine Nat.lt_of_not_le fun L8=>?_
    have:aA*val u≤val (a.drop C) / val u*val u:=Nat.mul_le_mul_right _ L8
    rw [Nat.mul_comm (val (a.drop C) / val u)] at this
    omega
   refine⟨aA - val (a.drop C) / val u - 1+1,?_⟩
   exact G5 (a0:=Lf) (dL:=val (a.drop C)) (b7:=val (a.drop C) / val u) (yL:=val (a.drop C) % val u) O j E K9 Ll K5 Lm l LY LF Lu (by omega) K7.symm LD next _ aA Lg Lf (by omega) Ld Lh Li LJ Lj.1 h
theorem G9{N:U}{bH l n b eK hK:Nat}{u a:List Nat}{Z:V}(O:bJ Z N bH u)(j:u.length=n)(m:l=n)(D:fT b N)(E:0 < n)(G:u.getD (n - 1) 0 ≠ 0)(H:eK < 35184372088820)(P:eK≤hK)(K5:n < eK)(g:a.length=eK)(d:dI dQ Z b a)(dE:val (a.drop (eK - n)) < val u):
  aF iK.id #[.slice (some ⟨b,0,none⟩) eK hK,.slice N l bH] Z fun v A=>∃ e f c,v=.slice (some ⟨e,0,none⟩) (eK - n) (eK - n)∧f.length=eK∧c.length=eK - n∧dI dQ A b f∧dI dQ A e c∧a1 b Z A∧Z.size≤e∧val f=val a % val u∧val c=val a / val u:=by
 subst m
 have Lf:=d.lt
 refine iK.ok ?_
 unfold iK.t iK.F.t iK.aC.t
 refine cP ((eK - l:Nat):Int) (by omega) (by omega) (by omega) ?_
 refine nQ (eK - l) rfl rfl rfl rfl (by omega) fun a0 K6 h=>?_
 unfold iK.cA.t
 refine cP ((eK - l:Nat):Int) (by omega) (by omega) (by omega) ?_
 refine cP (((eK - l:Nat):Int) - 1) rfl (by omega) (by omega) ?_
 refine⟨eK - l+1,?_⟩
 rw [Int.toNat_natCast]
 have i:Words a:=d.ok
 refine G8 (hX:=val a) (g6:=a) O j D (Nat.le_refl _) (by omega) (by omega) E G H P K5 rfl g i (fun Lg K7 c K8 K9 La Lb Lc Ld Le=>⟨Z.size,K7,c,rfl,K8,K9,La,Lb,Lc,Nat.le_refl _,Ld,Le⟩) (eK - l) a (List.replicate (eK - l) 0) a0 (Nat.le_refl _) g (by simp) (d.B h) K6.p8 h.Ap rfl dE ?_
 rw [List.drop_of_length_le (by simp)]
 simp only [val,Nat.zero_mul,Nat.zero_add]
 exact kW i _
theorem Ha{O I:Nat}(aY:O≤64):I / 2 ^ (64 - O)=I*2 ^ O / 18446744073709551616:=by
 have J:18446744073709551616=2 ^ (64 - O)*2 ^ O:=by rw [← Nat.pow_add,show 64 - O+O=64 by omega]
 rw [J,Nat.mul_div_mul_right _ _ (Nat.pow_pos (by decide))]
theorem Hb{Y:K}{n O eW o:Nat}{g6:List Nat}{aB:V}(e:aB.size≤o)(K7:0 < O)(aY:O < 64)(K8:g6.length=n)(K9:n < 35184372088820)(f:Words g6)(g:val g6*2 ^ O=eW)(La:eW < 2 ^ (64*n))
  (h:∀ Z a,a.length=n→eM Z o a→a4 aB Z→val a=eW→Y (.slice (some ⟨o,0,none⟩) n n) Z) :
  ∀ (M Q L:Nat) (a:List Nat) (Z:V),Q+M=n→a.length=n→eM Z o a→a4 aB Z→a.drop Q=g6.drop Q→L < 2 ^ O→val (a.take Q)+L*2 ^ (64*Q)=val (g6.take Q)*2 ^ O→
   mJ.bG.t Y (M+1) (O:Int) (some ⟨o,0,none⟩) n n (L:Int) (n:Int) (Q:Int) Z:=by
 intro M
 induction M with
 | zero=>
  intro Q L a Z bE b q b1 aJ c J
  unfold mJ.bG.t mJ.b0.t
  refine cD (fun aP=>absurd aP (by omega)) fun _=>?_
  unfold mJ.aC.t
  have i:Q=n:=by omega
  subst i
  rw [List.take_of_length_le (by omega),List.take_of_length_le (by omega),g] at J
  have j:L=0:=by
   rcases Nat.eq_zero_or_pos L with aB | aB
   ·exact aB
   ·have:1*2 ^ (64*Q)≤L*2 ^ (64*Q):=Nat.mul_le_mul_right _ aB
    omega
  subst j
  exact h Z a b q b1 (by omega)
 | succ M m=>
  intro Q L a Z bE b q b1 aJ c J
  have d:a.getD Q 0=g6.getD Q 0:=by
   have:=congrArg (fun l=>l.headD 0) aJ
   simpa [xV] using this
  have v:=v7 f Q
  unfold mJ.bG.t mJ.b0.t
  refine cD (fun _=>?_) fun aP=>absurd (by omega) aP
  have s:bJ Z (some ⟨o,0,none⟩) n a:=q.rd (by omega)
  have D:L < 18446744073709551616:=Nat.lt_trans c (An aY)
  refine fG s (C:=Q) rfl b.symm (by omega) ?_
  rw [d]
  refine rZ rfl O (2 ^ O) (by omega) rfl rfl ?_
  refine x9 rfl rfl (Nat.mod_lt _ (by decide)) D ?_
  rw [Nat.or_comm,Dg aY c]
  refine fG s (C:=Q) rfl b.symm (by omega) ?_
  rw [d]
  refine cP ((64 - O:Nat):Int) (by omega) (by omega) (by omega) ?_
  refine lZ rfl (64 - O) (2 ^ (64 - O)) (by omega) rfl rfl ?_
  rw [Ha (by omega)]
  have E:=Di (I:=g6.getD Q 0) aY c
  have G:=Dh (M:=O) v
  refine mX q (C:=Q) rfl b.symm (by omega) rfl E fun H=>?_
  refine cP ((Q+1:Nat):Int) (by omega) (by omega) (by omega) ?_
  refine m (Q+1) _ _ _ (by omega) (by simp [b]) H (a1.B b1 (a1.set _ _ _ _) e) ?_ G ?_
  ·rw [List.drop_set_of_lt (by omega),← List.drop_drop,← List.drop_drop,aJ]
  ·have K5:(a.set Q (g6.getD Q 0*2 ^ O % 18446744073709551616+L)).take (Q+1)=a.take Q ++ [g6.getD Q 0*2 ^ O % 18446744073709551616+L]:=tJ (by omega)
   rw [K5,hR,List.length_take,Nat.min_eq_left (by omega),AM,Nat.add_mul,← J,jY]
   have K6:2 ^ (64*Q)*g6.getD Q 0*2 ^ O=g6.getD Q 0*2 ^ O*2 ^ (64*Q):=by rw [Nat.mul_assoc,Nat.mul_comm]
   rw [K6]
   generalize g6.getD Q 0*2 ^ O=aN
   generalize 2 ^ (64*Q)=P
   simp only [val,Nat.mul_zero,Nat.add_zero]
   have Lb:aN*P=aN % 18446744073709551616*P+aN / 18446744073709551616*(18446744073709551616*P):=by
    rw [← Nat.mul_assoc,← Nat.add_mul];congr 1;omega
   rw [Nat.mul_add,Nat.mul_comm P,Nat.mul_comm P]
   omega
theorem Dz(aK:List Nat)(m:Nat):val (aK ++ List.replicate m 0)=val aK:=by rw [hR,tM];simp
theorem DA{a:U}{L l n O:Nat}{T:List Nat}{Z:V}(s:bJ Z a L T)(g:l=T.length)(aY:O < 64)(h:T.length≤n)(i:n < 35184372088820)(dE:val T*2 ^ O < 2 ^ (64*n)):
  aF mJ.id #[.slice a l L,.int .i64 (O:Int),.int .i64 (n:Int)] Z fun v A=>a4 Z A∧∃ o b,v=.slice (some ⟨o,0,none⟩) n n∧Z.size≤o∧eM A o b∧b.length=n∧val b=val T*2 ^ O:=by
 refine mJ.ok ?_
 unfold mJ.t mJ.F.t
 refine nQ n rfl rfl rfl rfl (by omega) fun a0 j e=>?_
 rw [Int.toNat_natCast]
 refine v8 j (s.B e) (by simp) g (Nat.le_refl _) e fun m c f=>?_
 have D:List.take (List.replicate n 0).length T ++ List.drop T.length (List.replicate n 0)=T ++ List.replicate (n - T.length) 0:=by
  rw [List.length_replicate,List.take_of_length_le h,List.drop_replicate]
 rw [D] at c
 have d:(T ++ List.replicate (n - T.length) 0).length=n:=by simp;omega
 refine hU (fun E=>?_) fun E=>?_
 ·have:O=0:=by omega
  subst this
  exact⟨f,Z.size,_,rfl,Nat.le_refl _,c,d,by rw [Dz];simp⟩
 ·unfold mJ.a7.t
  refine⟨n+1,Hb (g6:=T ++ List.replicate (n - T.length) 0) (Nat.le_refl Z.size) (by omega) aY d i c.words (by rw [Dz]) dE (fun K5 b G H P cO=>⟨P,Z.size,b,rfl,Nat.le_refl _,H,G,cO⟩) n 0 0 _ m (by omega) d c f rfl (Nat.pow_pos (by decide)) (by simp [val])⟩
theorem Hc{N o:Nat}(Z:N ≠ o):fT o (some ⟨N,0,none⟩):=fun z J=>by cases J;exact Z
def m8(T u:List Nat):List Nat × List Nat × Int:=if gI T∧gI u then(if val u=0 then([],[],4) else(aE (val T / val u),aE (val T % val u),0)) else([],[],2)
abbrev tS:jZ (List Nat × List Nat × Int):=wH qB qB (c3 .i64)
theorem tS.mk{aB Z:V}{a N:U}{L bH l m:Nat}{T u:List Nat}{I:Int}(s:cN dQ aB Z a L T)(O:cN dQ aB Z N bH u)(b:l=T.length)(c:m=u.length)(Q:In .i64 I):tS aB Z (.tuple #[.slice a l L,.slice N m bH,.int .i64 I]) (T,u,I):=by
 subst b;subst c
 exact⟨_,_,_,rfl,⟨_,_,rfl,s⟩,⟨_,_,rfl,O⟩,rfl,Q⟩
def oG(aB Z:V)(v:Value)(z:List Nat × List Nat × Int):Prop:=tS aB Z v z∧∀ a l L N m bH I,v=.tuple #[.slice a l L,.slice N m bH,I]→x4 aB.size Z.size Z [(a,l,L),(N,m,bH)] [z.1,z.2.1]
theorem oG.mk{aB Z:V}{a N:U}{L bH l m:Nat}{T u:List Nat}{I:Int}(M:Nat)(a0:aB.size≤M)(b:M≤Z.size)(q:(e8 aB.size M Z (a,l,L) T∧e8 M Z.size Z (N,m,bH) u)∨(e8 M Z.size Z (a,l,L) T∧e8 aB.size M Z (N,m,bH) u))(Q:In .i64 I):
  oG aB Z (.tuple #[.slice a l L,.slice N m bH,.int .i64 I]) (T,u,I):=by
 refine⟨?_,fun c d cW e f g p4 J=>?_⟩
 ·rcases q with ⟨z,o⟩ | ⟨z,o⟩
  ·exact tS.mk (e8.hV z (Nat.le_refl _)) (e8.hV o a0) z.1 o.1 Q
  ·exact tS.mk (e8.hV z a0) (e8.hV o (Nat.le_refl _)) z.1 o.1 Q
 ·simp only [Value.tuple.injEq,Array.mk.injEq,List.cons.injEq,Value.slice.injEq,and_true] at J
  obtain⟨⟨rfl,rfl,rfl⟩,⟨rfl,rfl,rfl⟩,rfl⟩:=J
  exact x4.pair a0 b q
theorem oG.none{aB Z:V}{I:Int}(M:aB.size≤Z.size)(Q:In .i64 I:=by decide):oG aB Z (.tuple #[.slice Option.none 0 0,.slice Option.none 0 0,.int .i64 I]) ([],[],I):=
 oG.mk aB.size (Nat.le_refl _) M (Or.inl ⟨e8.nil _ _ _,e8.nil _ _ _⟩) Q
theorem Hd{u:List Nat}(a9:dH u=u)(Z:u ≠ []):u.getD (u.length - 1) 0 ≠ 0:=(tI.mp a9).resolve_left Z
theorem He{a N:U}{L bH l m:Nat}{T u:List Nat}{Z:V}(s:bJ Z a L T)(O:bJ Z N bH u)(Ly:l=T.length)(Lz:m=u.length):
  aF m9.id #[.slice a l L,.slice N m bH] Z fun v A=>a4 Z A∧oG Z A v (m8 T u):=by
 subst Ly;subst Lz
 refine m9.ok ?_
 unfold m9.t m9.F.t
 refine bF (oB s rfl) fun v a0 ⟨d,e⟩=>?_
 subst d;subst e
 refine aO rfl ?_
 refine h9 (fun dJ=>⟨a4.refl _,?_⟩) fun dJ=>?_
 ·unfold m8;rw [if_neg (fun h=>of_decide_eq_false dJ h.1)];exact oG.none (Nat.le_refl _)
 refine bF (oB O rfl) fun v Mh ⟨d,e⟩=>?_
 subst d;subst e
 refine aO rfl ?_
 refine h9 (fun K5=>⟨a4.refl _,?_⟩) fun K5=>?_
 ·unfold m8;rw [if_neg (fun h=>of_decide_eq_false K5 h.2)];exact oG.none (Nat.le_refl _)
 have i:=of_decide_eq_true dJ
 have E:=of_decide_eq_true K5
 have G:=i.aE s.words
 have LA:=E.aE O.words
 have Lg:=i.1;have LB:=E.1
 unfold m9.aC.t
 unfold m8
 rw [if_pos ⟨i,E⟩]
 refine hU (fun aB=>⟨a4.refl _,?_⟩) fun aB=>?_
 ·have:u=[]:=List.length_eq_zero_iff.mp (by omega)
  subst this
  rw [if_pos (show val []=0 from rfl)];exact oG.none (Nat.le_refl _)
 have Lh:u ≠ []:=fun J=>aB (by subst J;rfl)
 have K6:=Hd E.2 Lh
 have LC:0 < u.length:=List.length_pos_iff.mpr Lh
 have H:=yM O.words (m:=u.length - 1) (by omega)
 have Li:2 ^ (64*(u.length - 1))≤val u:=by
  refine Nat.le_of_not_lt fun h=>?_
  rw [Nat.div_eq_of_lt h] at H
  exact K6 H.symm
 have Lj:val u ≠ 0:=by
  have:0 < 2 ^ (64*(u.length - 1)):=Nat.pow_pos (by decide)
  omega
 rw [if_neg Lj]
 refine bF (AJ s O rfl rfl) fun v Mi ⟨d,e⟩=>?_
 subst d;subst e
 refine bI rfl ?_
 refine cD (fun aP=>?_) fun aP=>?_
 ·have dE:val T < val u:=by unfold e6 at aP;split at aP <;> (try split at aP) <;> omega
  refine bF (x6 s rfl) fun v K7 ⟨j,c⟩=>?_
  rw [i.eS s.words] at c
  refine c.nU fun LD LF K8 _=>⟨j,?_⟩
  rw [Nat.div_eq_of_lt dE,Nat.mod_eq_of_lt dE,dM,G]
  exact oG.mk _ (Nat.le_refl _) j.le (Or.inl ⟨e8.nil _ _ _,e8.tO K8 rfl (Nat.le_refl _) (Nat.le_refl _)⟩) (by decide)
 have LG:val u≤val T:=by unfold e6 at aP;split at aP <;> (try split at aP) <;> omega
 refine hU (fun a0=>?_) fun a0=>?_
 ·have LH:u.length=1:=by omega
  have LI:u.getD 0 0=val u:=by
   rw [LH] at H
   simpa using H.symm
  have Lk:=O.word 0
  refine fG O (C:=0) rfl rfl (by omega) ?_
  rw [LI] at Lk ⊢
  refine bF (GL s rfl Lk) fun v K7 ⟨j,c⟩=>?_
  have Mj:=Nat.mod_lt (val T) (show 0 < val u by omega)
  have LJ:wM T (val u)=(aE (val T / val u),((val T % val u:Nat):Int),0):=by unfold wM;rw [if_pos i,if_neg Lj]
  rw [LJ] at c
  refine c.elim fun LD LF K8=>?_
  refine bF (Dm (aA:=val T % val u) (by omega) K7) fun v LK ⟨g,LL⟩=>?_
  refine wJ.nU LL fun Mk Ml LM=>?_
  exact⟨j.trans g,oG.mk _ j.le g.le (Or.inl ⟨(e8.tO K8 rfl (Nat.le_refl _) (Nat.le_refl _)).B g,e8.tO LM rfl (Nat.le_refl _) (Nat.le_refl _)⟩) (by decide)⟩
 refine cP ((u.length - 1:Nat):Int) (by omega) (by omega) (by omega) ?_
 refine fG O (C:=u.length - 1) rfl rfl (by omega) ?_
 have LN:=O.word (u.length - 1)
 refine bF (Dn LN _) fun v K7 ⟨d,e⟩=>?_
 subst d;subst e
 refine bI rfl ?_
 have Mm:=q3 K6
 have Mn:=wB O.words (n:=u.length - 1) (by omega) K6
 obtain⟨b,LO⟩:∃ b,b=64 - eU (u.getD (u.length - 1) 0):=⟨_,rfl⟩
 rw [← LO]
 have Ll:b < 64:=by omega
 have Mo:(2:Nat) ^ 64=18446744073709551616:=by decide
 have Mp:eU (u.getD (u.length - 1) 0)≤64:=j6.mpr (by omega)
 refine cP ((T.length+1:Nat):Int) (by omega) (by omega) (by omega) ?_
 have LP:2 ^ b≤2 ^ 64:=Nat.pow_le_pow_right (by decide) (by omega)
 have f:0 < 2 ^ b:=Nat.pow_pos (by decide)
 have Lm:=hS s.words
 have LQ:val T*2 ^ b < 2 ^ (64*(T.length+1)):=by
  rw [Nat.mul_add,Nat.pow_add,Nat.mul_one]
  calc val T*2 ^ b < 2 ^ (64*T.length)*2 ^ b:=Nat.mul_lt_mul_of_pos_right Lm f
   _≤_:=Nat.mul_le_mul_left _ LP
 have Ln:val u*2 ^ b < 2 ^ (64*u.length):=by
  have a0:val u < 2 ^ (64*(u.length - 1)+eU (u.getD (u.length - 1) 0)):=j6.mp (by omega)
  have d:64*u.length=64*(u.length - 1)+eU (u.getD (u.length - 1) 0)+b:=by omega
  rw [d,Nat.pow_add]
  exact Nat.mul_lt_mul_of_pos_right a0 f
 refine bF (DA (n:=T.length+1) s rfl Ll (by omega) (by omega) LQ) fun v LK ⟨g,Lo,LR,cO,LS,K9,LU,Lp⟩=>?_
 subst cO
 refine k rfl ?_
 refine bF (DA (n:=u.length) (O.B g) rfl Ll (Nat.le_refl _) (by omega) Ln) fun v LV ⟨Lq,Lr,bW,cO,Mq,Ls,LW,La⟩=>?_
 subst cO
 refine k rfl ?_
 have LX:bW.getD (u.length - 1) 0 ≠ 0:=by
  rw [← yM Ls.words (m:=u.length - 1) (by omega),La]
  have a0:2 ^ (64*(u.length - 1))≤val u*2 ^ b:=Nat.le_trans Li (Nat.le_mul_of_pos_right _ f)
  have:=Nat.div_pos a0 (Nat.pow_pos (by decide))
  omega
 have Mr:u.length≤T.length:=by
  rw [← G,← LA];exact mD LG
 have LY:val (LR.drop (T.length+1 - u.length)) < val bW:=by
  rw [kW K9.words,Lp,La,Nat.div_lt_iff_lt_mul (Nat.pow_pos (by decide))]
  calc val T*2 ^ b < 2 ^ (64*T.length)*2 ^ b:=Nat.mul_lt_mul_of_pos_right Lm f
   _=2 ^ (64*(u.length - 1))*2 ^ b*2 ^ (64*(T.length+1 - u.length)):=by
    rw [← Nat.pow_add,← Nat.pow_add,← Nat.pow_add];congr 1;omega
   _≤_:=Nat.mul_le_mul_right _ (Nat.mul_le_mul_right _ Li)
 have Ms:=K9.lt
 have LZ:bJ LV (some ⟨Lr,0,none⟩) u.length bW:=Ls.rd (by omega)
 have L0:Lr ≠ Lo:=by omega
 refine bF (G9 LZ LW rfl (Hc L0) LC LX (by omega) (Nat.le_refl _) (by omega) LU (K9.B Lq).p8 LY) fun v Lt ⟨L1,Lu,Lv,cO,Mt,L2,Lw,L3,L4,Mu,D,Lb⟩=>?_
 subst cO
 refine k rfl ?_
 rw [Lp,La] at D Lb
 rw [Nat.mul_mod_mul_right] at D
 rw [Nat.mul_div_mul_right _ _ f] at Lb
 have Lc:val Lu < 2 ^ (64*u.length):=by
  rw [D]
  exact Nat.lt_trans (Nat.mul_lt_mul_of_pos_right (Nat.mod_lt _ (by omega)) f) Ln
 have L5:=Dy (Nat.le_refl _) Lc Lw.ok
 refine u3 rfl (by omega) ?_
 have L6:bJ Lt (some ⟨Lo,0,none⟩) (T.length+1) (Lu.take u.length):=((Lw.o9 (L:=T.length+1) (by show _≤35184372088828;omega) (by omega)).wE).take _
 refine bF (x6 L6 (by rw [List.length_take];omega)) fun v Mv ⟨P,c⟩=>?_
 rw [L5.2,D] at c
 have Mw:val T % val u < val u:=Nat.mod_lt _ (by omega)
 have Lx:(aE (val T % val u*2 ^ b)).length≤8192:=Nat.le_trans (gF.mpr (by rw [D] at Lc;exact Lc)) LB
 have L7:eS (val T % val u*2 ^ b)=(aE (val T % val u*2 ^ b),0):=by unfold eS;rw [if_pos Lx]
 rw [L7] at c
 refine c.elim fun Mx My L8=>?_
 refine bF (Dk L8 rfl (by omega)) fun v L9 ⟨Ld,c⟩=>?_
 have Ma:(aE (val T % val u)).length≤8192:=Nat.le_trans (mD (Nat.mod_le _ _)) (by rw [G];exact Lg)
 have Mb:qI (aE (val T % val u*2 ^ b)) (b:Int)=(aE (val T % val u),0):=by
  unfold qI
  rw [if_neg (by omega),if_pos ⟨Lx,nR _⟩,fA,Int.toNat_natCast,Nat.mul_div_cancel _ f]
  unfold eS;rw [if_pos Ma]
 rw [Mb] at c
 refine c.nU fun Mz MA Mc _=>?_
 have Md:bJ L9 (some ⟨L1,0,none⟩) (T.length+1 - u.length) Lv:=((L3.o9 (L:=T.length+1 - u.length) (by show _≤35184372088828;omega) (by omega)).wE).B (P.trans Ld)
 refine bF (x6 Md L2.symm) fun v MB ⟨Le,c⟩=>?_
 have Me:(aE (val T / val u)).length≤8192:=Nat.le_trans (mD (Nat.div_le_self _ _)) (by rw [G];exact Lg)
 have Mf:eS (val Lv)=(aE (val T / val u),0):=by rw [Lb];unfold eS;rw [if_pos Me]
 rw [Mf] at c
 refine c.nU fun MC MD Mg _=>?_
 have Lf:a4 _ Lt:=L4.B (g.trans Lq) LS
 exact⟨Lf.trans (P.trans (Ld.trans Le)),oG.mk _ (Lf.trans (P.trans Ld)).le Le.le (Or.inr ⟨e8.tO Mg rfl (Nat.le_refl _) (Nat.le_refl _),(e8.tO Mc rfl (Lf.trans P).le (Nat.le_refl _)).B Le⟩) (by decide)⟩
theorem Hf{a N:U}{L bH l m:Nat}{T u:List Nat}{Z:V}(s:bJ Z a L T)(O:bJ Z N bH u)(b:l=T.length)(c:m=u.length):
  aF m9.id #[.slice a l L,.slice N m bH] Z fun v A=>a4 Z A∧tS Z A v (m8 T u):=
 bF (He s O b c) fun v A ⟨M,t⟩=>⟨M,t.1⟩
theorem DB(T:List Nat):T.take (dH T).length=dH T:=by
 induction T with
 | nil=>rfl
 | cons I T a=>
  simp only [dH]
  split
  ·rfl
  ·simp [a]
theorem Hg{Y:K}{a:U}{L l:Nat}{T:List Nat}{Z:V}(s:bJ Z a L T)(f:l=T.length)(g:Y (.slice a (dH T).length (dH T).length) Z):
  ∀ n:Nat,n≤T.length→dH (T.take n)=dH T→mK.cZ.t Y (n+1) a l L (n:Int) Z:=by
 have a0:=s.len
 intro n
 have d:∀ n:Nat,n≤T.length→dH T=T.take n→mK.aC.t Y a l L (n:Int) Z:=by
  intro n b J
  refine Aq rfl rfl (Nat.le_trans b s.cap) ?_
  have h:(dH T).length=n:=by rw [J,List.length_take];omega
  rw [← h];exact g
 induction n with
 | zero=>
  intro b c
  unfold mK.cZ.t mK.cA.t
  refine cD (fun Z=>absurd Z (by omega)) fun _=>d 0 b ?_
  rw [← c];rfl
 | succ n i=>
  intro b c
  refine cD (fun _=>?_) fun Z=>absurd (by omega) Z
  refine cP (n:Int) (by omega) (by omega) (by omega) ?_
  refine fG s (C:=n) rfl f (by omega) ?_
  have e:=lX (T:=T) (n:=n) (by omega)
  refine hU (fun j=>?_) fun j=>?_
  ·refine cP (n:Int) (by omega) (by omega) (by omega) ?_
   refine i (by omega) ?_
   rw [← c,e,show T.getD n 0=0 by omega,vA]
  ·refine d (n+1) b ?_
   rw [← c,e,wA _ (by omega)]
theorem yN{Z:V}{a:U}{L:Nat}{T:List Nat}(s:bJ Z a L T):bJ Z a (dH T).length (dH T):=by
 have:=s.take (dH T).length
 rw [DB] at this;exact this.rW (Nat.le_refl _)
theorem wP{a:U}{L l:Nat}{T:List Nat}{Z:V}(s:bJ Z a L T)(b:l=T.length):
  aF mK.id #[.slice a l L] Z fun v A=>A=Z∧v=.slice a (dH T).length (dH T).length:=by
 refine mK.ok ?_
 refine⟨T.length+1,?_⟩
 subst b
 exact Hg s rfl ⟨rfl,rfl⟩ T.length (Nat.le_refl _) (by rw [List.take_length])
theorem Hh{Y:K}{L n dF o:Nat}{aB:V}(d:dF < 2 ^ (64*n))(g:∀ A aK,a1 o aB A→eG A o aK→aK.length=n→val aK=dF→Y (.tuple #[]) A)(i:n≤35184372088828):
  ∀ (M Q a:Nat) (aK:List Nat) (Z:V),Q+M=n→a≤1→aK.length=n→eG Z o aK→a1 o aB Z→val aK+a*2 ^ (64*Q)=dF→
   jT.cZ.t Y (M+1) (some ⟨o,0,none⟩) n L (a:Int) (Q:Int) Z:=by
 intro M
 induction M with
 | zero=>
  intro Q a aK Z bE c b q b1 J
  unfold jT.cZ.t jT.cA.t
  refine cD (fun aP=>?_) fun aP=>?_
  ·have:a=1:=by omega
   subst this
   have:=Ar (aK:=aK) (dF:=dF) (Q:=Q) rfl (by omega) (by rw [b];exact d)
   omega
  ·have:a=0:=by omega
   subst this
   exact g _ _ b1 q b (by omega)
 | succ M e=>
  intro Q a aK Z bE c b q b1 J
  unfold jT.cZ.t jT.cA.t
  refine cD (fun aP=>?_) fun aP=>?_
  ·have j:=q.word Q
   refine fG (q.rd (L:=n) (by omega)) (C:=Q) rfl (by omega) (by omega) ?_
   refine q6 (N:=0) rfl rfl rfl c ?_
   refine vB q (C:=Q) rfl b.symm (by omega) rfl (by omega) fun f h=>?_
   refine cP ((Q+1:Nat):Int) (by omega) (by omega) (by omega) ?_
   refine e (Q+1) _ _ _ (by omega) (by omega) (by simp [b]) f (b1.trans h) ?_
   have aY:=mE (aK:=aK) (C:=Q) (v:=(aK.getD Q 0+0+a) % 18446744073709551616) (by omega)
   have:=xZ (aX:=18446744073709551616) (z:=0) (L:=a) (s:=0) (kH:=(aK.getD Q 0+0+a) % 18446744073709551616) (cW:=(aK.getD Q 0+0+a) / 18446744073709551616) (by omega) aY
   rw [jY]
   simp only [Nat.zero_add,Nat.mul_zero] at this ⊢
   omega
  ·have:a=0:=by omega
   subst this
   exact g _ _ b1 q b (by omega)
theorem Hi{Y:K}{a:U}{L h l n at_ dF o:Nat}{b:List Nat}{aB:V}(s:bJ aB a h b)(i:l=b.length)(j:b=[]∨fT o a)(m:dF < 2 ^ (64*n))(K6:at_+b.length≤n)(D:n≤35184372088828)
  (g:∀ A aK,a1 o aB A→eG A o aK→aK.length=n→val aK=dF→Y (.tuple #[]) A) :
  ∀ (M Q c:Nat) (aK:List Nat) (Z:V),Q+M=b.length→c≤1→aK.length=n→eG Z o aK→a1 o aB Z→val aK+(val (b.drop Q)+c)*2 ^ (64*(at_+Q))=dF→
   jT.hG.t Y (M+1) (some ⟨o,0,none⟩) n L a l h (at_:Int) (c:Int) (l:Int) (Q:Int) Z:=by
 subst i
 intro M
 induction M with
 | zero=>
  intro Q c aK Z bE e d q b1 J
  unfold jT.hG.t jT.eL.t
  refine cD (fun aP=>absurd aP (by omega)) fun aP=>?_
  unfold jT.aC.t
  have E:Q=b.length:=by omega
  subst E
  refine cP ((at_+b.length:Nat):Int) (by omega) (by omega) (by omega) ?_
  refine⟨n - (at_+b.length)+1,?_⟩
  refine Hh m g D _ _ _ aK Z (by omega) e d q b1 ?_
  rw [List.drop_length] at J
  simpa [val] using J
 | succ M G=>
  intro Q c aK Z bE e d q b1 J
  have K7:=q.word (at_+Q)
  have K8:=s.word Q
  have H:fT o a:=by
   rcases j with f | f
   ·subst f;simp at bE
   ·exact f
  unfold jT.hG.t jT.eL.t
  refine cD (fun aP=>?_) fun aP=>absurd (by omega) aP
  refine cP ((at_+Q:Nat):Int) (by omega) (by omega) (by omega) ?_
  refine cP ((at_+Q:Nat):Int) (by omega) (by omega) (by omega) ?_
  refine fG (q.rd (L:=n) (by omega)) (C:=at_+Q) rfl (by omega) (by omega) ?_
  refine fG (s.bT H b1) (C:=Q) rfl rfl (by omega) ?_
  refine q6 rfl rfl rfl e ?_
  refine vB q (C:=at_+Q) rfl d.symm (by omega) rfl (by omega) fun P K5=>?_
  refine cP ((Q+1:Nat):Int) (by omega) (by omega) (by omega) ?_
  refine G (Q+1) _ _ _ (by omega) (by omega) (by simp [d]) P (b1.trans K5) ?_
  have aY:=mE (aK:=aK) (C:=at_+Q) (v:=(aK.getD (at_+Q) 0+b.getD Q 0+c) % 18446744073709551616) (by omega)
  have:=xZ (aX:=18446744073709551616) (z:=b.getD Q 0) (L:=c) (s:=val (b.drop (Q+1))) (kH:=(aK.getD (at_+Q) 0+b.getD Q 0+c) % 18446744073709551616) (cW:=(aK.getD (at_+Q) 0+b.getD Q 0+c) / 18446744073709551616) (by omega) aY
  rw [← Nat.add_assoc,jY,this,← j7];exact J
theorem yO{a:U}{L d l n m at_ o:Nat}{aK b:List Nat}{Z:V}(q:eG Z o aK)(s:bJ Z a d b)(e:l=b.length)(f:n=aK.length)(g:b=[]∨fT o a)(h:val aK+val b*2 ^ (64*at_) < 2 ^ (64*aK.length))(i:at_+b.length≤aK.length){I:Int}(j:I=(at_:Int))(D:m=n):
  aF jT.id #[.slice (some ⟨o,0,none⟩) m L,.slice a l d,.int .i64 I] Z fun v A=>v=.tuple #[]∧a1 o Z A∧∃ c,eG A o c∧c.length=aK.length∧val c=val aK+val b*2 ^ (64*at_):=by
 subst j;subst f;subst D
 refine jT.ok ?_
 unfold jT.t jT.F.t jT.dD.t
 have E:=q.len
 refine⟨b.length+1,?_⟩
 refine Hi s e g h i E (fun A c M fM G J=>⟨rfl,M,c,fM,G,J⟩) b.length 0 0 aK Z (by omega) (by omega) rfl q (a1.refl _ _) ?_
 simp
theorem Hj{Y:K}{L n dF o:Nat}{aB:V}(g:∀ A aK,a1 o aB A→eG A o aK→aK.length=n→val aK=dF→Y (.tuple #[]) A)(h:n≤35184372088828):
  ∀ (M Q a:Nat) (aK:List Nat) (Z:V),Q+M=n→a≤1→aK.length=n→eG Z o aK→a1 o aB Z→val aK=dF+a*2 ^ (64*Q)→
   kC.cZ.t Y (M+1) (some ⟨o,0,none⟩) n L (a:Int) (Q:Int) Z:=by
 intro M
 induction M with
 | zero=>
  intro Q a aK Z bE c b q b1 J
  unfold kC.cZ.t kC.cA.t
  refine cD (fun aP=>?_) fun aP=>?_
  ·have:a=1:=by omega
   subst this
   have:=Ar (aK:=aK) (dF:=val aK) (Q:=Q) rfl (by omega) (hS q.words)
   omega
  ·have:a=0:=by omega
   subst this
   exact g _ _ b1 q b (by omega)
 | succ M d=>
  intro Q a aK Z bE c b q b1 J
  unfold kC.cZ.t kC.cA.t
  refine cD (fun aP=>?_) fun aP=>?_
  ·have i:=q.word Q
   refine fG (q.rd (L:=n) (by omega)) (C:=Q) rfl (by omega) (by omega) ?_
   refine vH (N:=0) rfl rfl rfl c (by omega) ?_
   refine vB q (C:=Q) rfl b.symm (by omega) rfl (by omega) fun e f=>?_
   refine cP ((Q+1:Nat):Int) (by omega) (by omega) (by omega) ?_
   refine d (Q+1) _ _ _ (by omega) (by split <;> omega) (by simp [b]) e (b1.trans f) ?_
   have aY:=mE (aK:=aK) (C:=Q) (v:=(aK.getD Q 0+18446744073709551616 - 0 - a) % 18446744073709551616) (by omega)
   have:=CC (aX:=18446744073709551616) (dU:=0) (q:=a) (s:=0) (dF:=dF) (kH:=(aK.getD Q 0+18446744073709551616 - 0 - a) % 18446744073709551616) (fM:=if aK.getD Q 0 < 0+a then 1 else 0) (by split <;> omega) aY (by simpa using J)
   rw [jY]
   simpa using this
  ·have:a=0:=by omega
   subst this
   exact g _ _ b1 q b (by omega)
theorem Hk{Y:K}{a:U}{L h l n dF o:Nat}{b:List Nat}{aB:V}(s:bJ aB a h b)(i:l=b.length)(j:b=[]∨fT o a)(K6:b.length≤n)(m:n≤35184372088828)
  (g:∀ A aK,a1 o aB A→eG A o aK→aK.length=n→val aK=dF→Y (.tuple #[]) A) :
  ∀ (M Q c:Nat) (aK:List Nat) (Z:V),Q+M=b.length→c≤1→aK.length=n→eG Z o aK→a1 o aB Z→val aK=dF+(val (b.drop Q)+c)*2 ^ (64*Q)→
   kC.hG.t Y (M+1) (some ⟨o,0,none⟩) n L a l h (c:Int) (l:Int) (Q:Int) Z:=by
 subst i
 intro M
 induction M with
 | zero=>
  intro Q c aK Z bE e d q b1 J
  unfold kC.hG.t kC.eL.t
  refine cD (fun aP=>absurd aP (by omega)) fun aP=>?_
  unfold kC.aC.t
  have D:Q=b.length:=by omega
  subst D
  refine⟨n - b.length+1,?_⟩
  refine Hj g m _ _ _ aK Z (by omega) e d q b1 ?_
  rw [List.drop_length] at J
  simpa [val] using J
 | succ M E=>
  intro Q c aK Z bE e d q b1 J
  have K7:=q.word Q
  have G:=s.word Q
  have H:fT o a:=by
   rcases j with f | f
   ·subst f;simp at bE
   ·exact f
  unfold kC.hG.t kC.eL.t
  refine cD (fun aP=>?_) fun aP=>absurd (by omega) aP
  refine fG (q.rd (L:=n) (by omega)) (C:=Q) rfl (by omega) (by omega) ?_
  refine fG (s.bT H b1) (C:=Q) rfl rfl (by omega) ?_
  refine vH rfl rfl rfl e G ?_
  refine vB q (C:=Q) rfl d.symm (by omega) rfl (by omega) fun P K5=>?_
  refine cP ((Q+1:Nat):Int) (by omega) (by omega) (by omega) ?_
  refine E (Q+1) _ _ _ (by omega) (by split <;> omega) (by simp [d]) P (b1.trans K5) ?_
  have aY:=mE (aK:=aK) (C:=Q) (v:=(aK.getD Q 0+18446744073709551616 - b.getD Q 0 - c) % 18446744073709551616) (by omega)
  rw [j7] at J
  have:=CC (aX:=18446744073709551616) (dU:=b.getD Q 0) (q:=c) (s:=val (b.drop (Q+1))) (dF:=dF) (kH:=(aK.getD Q 0+18446744073709551616 - b.getD Q 0 - c) % 18446744073709551616) (fM:=if aK.getD Q 0 < b.getD Q 0+c then 1 else 0) (by split <;> omega) aY J
  rw [jY];exact this
theorem DC{a:U}{L d l n o:Nat}{aK b:List Nat}{Z:V}(q:eG Z o aK)(s:bJ Z a d b)(e:l=b.length)(f:n=aK.length)(g:b=[]∨fT o a)(m:val b≤val aK)(h:b.length≤aK.length):
  aF kC.id #[.slice (some ⟨o,0,none⟩) n L,.slice a l d] Z fun v A=>v=.tuple #[]∧a1 o Z A∧∃ c,eG A o c∧c.length=aK.length∧val c=val aK - val b:=by
 subst f
 refine kC.ok ?_
 unfold kC.t kC.F.t kC.dD.t
 have i:=q.len
 refine⟨b.length+1,?_⟩
 refine Hk (dF:=val aK - val b) s e g h i (fun A c M fM j J=>⟨rfl,M,c,fM,j,J⟩) b.length 0 0 aK Z (by omega) (by omega) rfl q (a1.refl _ _) ?_
 simp;omega
theorem getD_set_ne{aK:List Nat}{Q t v:Nat}(Z:Q ≠ t):(aK.set Q v).getD t 0=aK.getD t 0:=by
 simp [List.getD,Z]
theorem Hl{Y:K}{j:U→Nat→Nat→U→Nat→Nat→U→Nat→Nat→Int→Int→V→Prop}{a N:U}{L e bX fV fW n C o dF:Nat}{T u:List Nat}{aB:V}{aL:Int}
  (s:bJ aB a e T) (O:bJ aB N bX u) (D:fV=T.length) (E:fW=u.length) (G:T=[]∨fT o a) (H:fT o N) (Le:C < u.length) (Lf:n=T.length+u.length)
  (g:∀ A aK,a1 o aB A→eG A o aK→aK.length=n→(∀ t,C+1+T.length≤t→aK.getD t 0=0)→val aK+val (u.drop (C+1))*val T*2 ^ (64*(C+1))=dF→j (some ⟨o,0,none⟩) n L a fV e N fW bX aL ((C+1:Nat):Int) A) :
  ∀ (M Q b:Nat) (aK:List Nat) (Z:V),Q+M=T.length→b < 18446744073709551616→aK.length=n→eG Z o aK→a1 o aB Z→(∀ t,C+T.length≤t→aK.getD t 0=0)→
   val aK+(val (T.drop Q)*u.getD C 0+b)*2 ^ (64*(Q+C))+val (u.drop (C+1))*val T*2 ^ (64*(C+1))=dF→
   j3.hF.t Y j (M+1) (some ⟨o,0,none⟩) n L a fV e N fW bX (C:Int) (b:Int) aL (C:Int) (fV:Int) (Q:Int) Z:=by
 subst D;subst E
 intro M
 induction M with
 | zero=>
  intro Q b aK Z bE l c q b1 d J
  have P:=q.len
  unfold j3.hF.t j3.gJ.t
  refine cD (fun aP=>absurd aP (by omega)) fun aP=>?_
  have K5:Q=T.length:=by omega
  subst K5
  unfold j3.dD.t
  refine cP ((C+T.length:Nat):Int) (by omega) (by omega) (by omega) ?_
  refine vB q (C:=C+T.length) rfl c.symm (by omega) rfl l fun f h=>?_
  unfold j3.cA.t
  refine cP ((C+1:Nat):Int) (by omega) (by omega) (by omega) ?_
  refine g _ _ (b1.trans h) f (by simp [c]) (fun t m=>?_) ?_
  ·rw [getD_set_ne (by omega)];exact d t (by omega)
  ·have aY:=mE (aK:=aK) (C:=C+T.length) (v:=b) (by omega)
   rw [d _ (Nat.le_refl _)] at aY
   rw [List.drop_length,Nat.add_comm T.length C] at J
   simp only [val,Nat.zero_mul,Nat.zero_add,Nat.add_zero] at aY J
   omega
 | succ M K6=>
  intro Q b aK Z bE l c q b1 d J
  have P:=q.len
  have K7:=s.word Q
  have K8:=O.word C
  have Lg:=q.word (Q+C)
  have K9:fT o a:=by
   rcases G with i | i
   ·subst i;simp at bE
   ·exact i
  have Lh:T.getD Q 0*u.getD C 0≤340282366920938463426481119284349108225:=Nat.mul_le_mul (show T.getD Q 0≤18446744073709551615 by omega) (show u.getD C 0≤18446744073709551615 by omega)
  unfold j3.hF.t j3.gJ.t
  refine cD (fun aP=>?_) fun aP=>absurd (by omega) aP
  refine fG (s.bT K9 b1) (C:=Q) rfl rfl (by omega) ?_
  refine fG (O.bT H b1) (C:=C) rfl rfl (by omega) ?_
  refine bF (Dl K7 K8 _) fun v A ⟨La,Lb⟩=>?_
  subst La
  refine Lb.elim ?_
  have cO:val (T.drop Q)*u.getD C 0=T.getD Q 0*u.getD C 0+18446744073709551616*(val (T.drop (Q+1))*u.getD C 0):=by
   rw [j7,Nat.add_mul,Nat.mul_assoc]
  rw [cO] at J
  generalize T.getD Q 0*u.getD C 0=z at *
  refine q6 (L:=0) rfl rfl rfl (by omega) ?_
  refine dR ((z+b) / 18446744073709551616) (by omega) (by omega) ?_
  refine cP ((Q+C:Nat):Int) (by omega) (by omega) (by omega) ?_
  refine cP ((Q+C:Nat):Int) (by omega) (by omega) (by omega) ?_
  refine fG (q.rd (L:=n) (by omega)) (C:=Q+C) rfl (by omega) (by omega) ?_
  refine q6 (L:=0) rfl rfl rfl (by omega) ?_
  have Lc:(aK.getD (Q+C) 0+(z % 18446744073709551616+b+0) % 18446744073709551616+0) % 18446744073709551616=(z+b+aK.getD (Q+C) 0) % 18446744073709551616:=by omega
  have Ld:(z+b) / 18446744073709551616+(aK.getD (Q+C) 0+(z % 18446744073709551616+b+0) % 18446744073709551616+0) / 18446744073709551616=(z+b+aK.getD (Q+C) 0) / 18446744073709551616:=by omega
  rw [Lc]
  refine vB q (C:=Q+C) rfl c.symm (by omega) rfl (by omega) fun f h=>?_
  refine dR ((z+b+aK.getD (Q+C) 0) / 18446744073709551616) (by rw [← Int.natCast_add,Ld]) (by omega) ?_
  refine cP ((Q+1:Nat):Int) (by omega) (by omega) (by omega) ?_
  refine K6 (Q+1) _ _ _ (by omega) (by omega) (by simp [c]) f (b1.trans h) (fun t m=>?_) ?_
  ·rw [getD_set_ne (by omega)];exact d t m
  ·have aY:=mE (aK:=aK) (C:=Q+C) (v:=(z+b+aK.getD (Q+C) 0) % 18446744073709551616) (by omega)
   have:=xZ (aX:=18446744073709551616) (z:=z) (L:=b) (s:=val (T.drop (Q+1))*u.getD C 0) (kH:=(z+b+aK.getD (Q+C) 0) % 18446744073709551616) (cW:=(z+b+aK.getD (Q+C) 0) / 18446744073709551616) (by omega) aY
   rw [show Q+1+C=Q+C+1 by omega,jY (Q+C),this];exact J
theorem Hm{Y:K}{a N:U}{L d bX fV fW n o dF:Nat}{T u:List Nat}{aB:V}
  (s:bJ aB a d T) (O:bJ aB N bX u) (h:fV=T.length) (i:fW=u.length) (j:T=[]∨fT o a) (l:u=[]∨fT o N) (m:n=T.length+u.length)
  (g:∀ A aK,a1 o aB A→eG A o aK→aK.length=n→val aK=dF→Y (.tuple #[]) A) :
  ∀ (M C:Nat) (aK:List Nat) (Z:V),C+M=u.length→aK.length=n→eG Z o aK→a1 o aB Z→(∀ t,C+T.length≤t→aK.getD t 0=0)→val aK+val (u.drop C)*val T*2 ^ (64*C)=dF→
   j3.e3.t Y (M+1) (some ⟨o,0,none⟩) n L a fV d N fW bX (fW:Int) (C:Int) Z:=by
 subst h;subst i
 intro M
 induction M with
 | zero=>
  intro C aK Z e b q b1 f J
  unfold j3.e3.t j3.a7.t
  refine cD (fun aP=>absurd aP (by omega)) fun aP=>?_
  refine g _ _ b1 q b ?_
  rw [List.drop_of_length_le (by omega)] at J
  simpa [val] using J
 | succ M v=>
  intro C aK Z e b q b1 f J
  have D:fT o N:=by
   rcases l with c | c
   ·subst c;simp at e
   ·exact c
  unfold j3.e3.t j3.a7.t
  refine cD (fun aP=>?_) fun aP=>absurd (by omega) aP
  unfold j3.b0.t j3.eC.t
  refine⟨T.length+1,?_⟩
  refine Hl (dF:=dF) s O rfl rfl j D (by omega) m (fun A E eA fM G H P=>?_) T.length 0 0 aK Z (by omega) (by omega) b q b1 f ?_
  ·exact v (C+1) E A (by omega) G fM eA H P
  ·rw [j7] at J
   rw [← J,jY,Nat.zero_add,List.drop_zero,Nat.add_zero,Nat.add_mul,Nat.add_mul,Nat.mul_comm (val T)]
   have K5:val (u.drop (C+1))*val T*(18446744073709551616*2 ^ (64*C))=18446744073709551616*val (u.drop (C+1))*val T*2 ^ (64*C):=by
    rw [Nat.mul_left_comm,Nat.mul_assoc 18446744073709551616,Nat.mul_assoc 18446744073709551616]
   rw [K5];omega
theorem Hn{a N:U}{L b bX fV fW n o:Nat}{T u:List Nat}{Z:V}(q:eG Z o (List.replicate n 0))(s:bJ Z a b T)(O:bJ Z N bX u)(c:fV=T.length)(d:fW=u.length)(e:T=[]∨fT o a)(f:u=[]∨fT o N)(g:n=T.length+u.length):
  aF j3.id #[.slice (some ⟨o,0,none⟩) n L,.slice a fV b,.slice N fW bX] Z fun v A=>v=.tuple #[]∧a1 o Z A∧∃ aK,eG A o aK∧aK.length=n∧val aK=val T*val u:=by
 refine j3.ok ?_
 unfold j3.t j3.F.t
 refine⟨u.length+1,?_⟩
 refine Hm s O c d e f g (fun A h M fM i J=>⟨rfl,M,h,fM,i,J⟩) u.length 0 _ Z (by omega) (by simp) q (a1.refl _ _) (fun t _=>?_) ?_
 ·simp only [List.getD,List.getElem?_replicate];split <;> rfl
 ·rw [tM,List.drop_zero];simp [Nat.mul_comm]
def tT(Z A:V)(v:Value)(T:List Nat):Prop:=∃ o,Z.size≤o∧v=.slice (some ⟨o,0,none⟩) T.length T.length∧eG A o T
theorem tT.elim{Z A:V}{v:Value}{T:List Nat}{p:U→Nat→Nat→Prop}(a9:tT Z A v T)(g:∀ o,Z.size≤o→eG A o T→p (some ⟨o,0,none⟩) T.length T.length):aG v p:=by
 obtain⟨o,a,J,q⟩:=a9
 subst J;exact g o a q
theorem wQ{N o:Nat}(Z:N ≠ o):fT o (some ⟨N,0,none⟩):=fun z J=>by cases J;exact Z
theorem DD{aB Z:V}{o n L:Nat}{aK:List Nat}{p:Value→V→Prop}(a:aB.size≤o)(q:eG Z o aK)(b:n=aK.length)(e:n≤L)(g:∀ v,tT aB Z v (aE (val aK))→p v Z):
  aF mK.id #[.slice (some ⟨o,0,none⟩) n L] Z p:=by
 refine bF (wP (q.rd (L:=L) (by omega)) b) fun v A ⟨c,d⟩=>?_
 subst c;subst d
 refine g _ ?_
 rw [mC q.words]
 exact⟨o,a,rfl,by have:=q.take (dH aK).length;rw [DB] at this;exact this⟩
theorem DE{a:U}{L l M:Nat}{T:List Nat}{Z:V}{I:Int}(s:bJ Z a L T)(h:l=T.length)(i:I=(M:Int)):
  aF sD.id #[.slice a l L,.int .i64 I] Z fun v A=>A=Z∧∃ b,v=.tuple #[.slice a (dH (T.take M)).length (dH (T.take M)).length,.slice b (T.drop M).length (T.drop M).length]∧
   bJ Z a (dH (T.take M)).length (dH (T.take M))∧bJ Z b (T.drop M).length (T.drop M)∧∀ o,fT o a→fT o b:=by
 subst h;subst i
 have f:=s.cap
 refine sD.ok ?_
 unfold sD.t sD.F.t
 refine cD (fun aP=>?_) fun aP=>?_
 ·refine Aq rfl rfl f ?_
  refine bF (wP (s.rW (Nat.le_refl _)) rfl) fun v A ⟨c,d⟩=>?_
  subst c;subst d
  refine k rfl ?_
  rw [List.take_of_length_le (by omega),List.drop_of_length_le (by omega)]
  exact⟨rfl,none,rfl,yN s,bJ.nil _ _ _,fun o _=>fT.none o⟩
 ·refine Aq rfl rfl (by omega) ?_
  have g:(T.take M).length=M:=by rw [List.length_take];omega
  have e:=(s.take M).rW (Nat.le_refl _)
  rw [g] at e
  refine bF (wP e g.symm) fun v A ⟨c,d⟩=>?_
  subst c;subst d
  refine k rfl ?_
  refine CB rfl rfl rfl (by omega) f ?_
  refine⟨rfl,iP a T.length M 1,?_,yN e,?_,fun o j=>j.sub _ _ _⟩
  ·rw [List.length_drop]
  ·have rd:=(s.rW (Nat.le_refl _)).drop M (by omega)
   exact rd.rW (Nat.le_refl _)
theorem DF(T:List Nat)(M:Nat):val T=val (dH (T.take M))+2 ^ (64*M)*val (T.drop M):=by
 rw [rY]
 by_cases Z:M≤T.length
 ·conv=>lhs;rw [← List.take_append_drop M T]
  rw [hR,List.length_take,Nat.min_eq_left Z]
 ·rw [List.take_of_length_le (by omega),List.drop_of_length_le (by omega)];simp [val]
theorem AN{a n M:Nat}(b:M≤n)(Z:a*2 ^ (64*M) < 2 ^ (64*n)):M+(aE a).length≤n:=by
 have:(aE a).length≤n - M:=by
  rw [gF]
  have J:2 ^ (64*n)=2 ^ (64*(n - M))*2 ^ (64*M):=by rw [← Nat.pow_add,show 64*(n - M)+64*M=64*n by omega]
  rw [J] at Z
  exact Nat.lt_of_mul_lt_mul_right Z
 omega
theorem DG{Y:K}{a N:U}{L bH l m:Nat}{T u:List Nat}{Z:V}(s:bJ Z a L T)(O:bJ Z N bH u)(d:l=T.length)(e:m=u.length)(H:u.length≤T.length)(K5:T.length < 35184372088828)
  (g:∀ v A,a4 Z A→tT Z A v (aE (val T+val u))→Y v A):qJ.aC.t Y a l L N m bH Z:=by
 subst d;subst e
 unfold qJ.aC.t
 refine cP ((T.length+1:Nat):Int) (by omega) (by omega) (by omega) ?_
 refine nQ (T.length+1) rfl rfl rfl rfl (by omega) fun a0 q M=>?_
 refine v8 q (s.B M) (by simp) rfl (Nat.le_refl _) M fun K6 b c=>?_
 have J:List.take (List.replicate (T.length+1) 0).length T ++ List.drop T.length (List.replicate (T.length+1) 0)=T ++ [0]:=by
  rw [List.take_of_length_le (by simp)];simp
 rw [J] at b
 have cO:val (T ++ [0])=val T:=by rw [← rY,vA,rY]
 have K7:=hS s.words
 have K8:=hS O.words
 have K9:2 ^ (64*u.length)≤2 ^ (64*T.length):=Nat.pow_le_pow_right (by decide) (by omega)
 refine bF (yO (at_:=0) b.CA (O.B c) rfl (by simp) (O.off (Nat.le_refl _)) ?_ (by simp;omega) rfl rfl) fun v La ⟨f,h,aK,i,j,n⟩=>?_
 ·rw [cO,List.length_append,List.length_singleton,jY,Nat.mul_zero,Nat.pow_zero,Nat.mul_one]
  generalize 2 ^ (64*T.length)=P at *;omega
 subst f
 refine dP rfl (bP ?_)
 refine DD (Nat.le_refl Z.size) i (by rw [j];simp) (by omega) fun v a9=>?_
 rw [n,cO,Nat.mul_zero,Nat.pow_zero,Nat.mul_one] at a9
 obtain⟨o,D,E,G⟩:=a9
 subst E
 exact g _ _ (h.B c (Nat.le_refl _)) ⟨o,D,rfl,G⟩
theorem DH{a N:U}{L bH l m:Nat}{T u:List Nat}{Z:V}(s:bJ Z a L T)(O:bJ Z N bH u)(b:l=T.length)(c:m=u.length)(d:T.length < 35184372088828)(e:u.length < 35184372088828):
  aF qJ.id #[.slice a l L,.slice N m bH] Z fun v A=>a4 Z A∧tT Z A v (aE (val T+val u)):=by
 refine qJ.ok ?_
 unfold qJ.t qJ.F.t
 refine cD (fun aP=>?_) fun aP=>?_
 ·refine DG O s c b (by omega) e fun v A M a9=>⟨M,?_⟩
  rw [Nat.add_comm];exact a9
 ·exact DG s O b c (by omega) d fun v A M a9=>⟨M,a9⟩
theorem DI{o:Nat}:∀ {bW:List Value} {Z:V} {Q:Nat},a1 o Z (iD Z ⟨o,0,none⟩ Q bW)
 | [],Z,_=>a1.refl _ _
 | v :: bW,Z,Q=>by
  have J:iD Z ⟨o,0,none⟩ Q (v :: bW)=iD (fY Z ⟨o,Q,none⟩ v) ⟨o,0,none⟩ (Q+1) bW:=by
   show iD (fY Z ((⟨o,0,none⟩:Addr).add Q) v) _ _ _=_
   rw [w]
  rw [J];exact(a1.set o Z Q v).trans DI
theorem Ho{Z:V}{N l b8 bX:Nat}{T u:List Nat}{a:U}(q:eG Z N T)(s:bJ Z a bX u)(e:l=T.length)(f:b8=u.length)(c:u.length≤T.length){p:Int→V→Prop}
  (g:∀ A,eG A N (u ++ T.drop u.length)→a1 N Z A→p (u.length:Int) A):mW Z 1 (some ⟨N,0,none⟩) l (.slice a b8 bX) p:=by
 subst e;subst f
 obtain⟨rest,q⟩:=q
 have d:Nat.min u.length T.length=u.length:=Nat.min_eq_left c
 refine⟨u.length,u.map g2,rfl,⟨by rw [List.length_map,d];omega,?_,?_⟩,?_,?_⟩
 ·intro v aU
  obtain⟨I,_,J⟩:=List.mem_map.mp aU
  subst J;rfl
 ·cases a with
  | none=>
   show u.map g2=[]
   cases u with
   | nil=>simp
   | cons aN u=>obtain⟨z,J,_⟩:=s.at_ 0 (by simp);cases J
  | some z=>
   refine Ac fun C b=>?_
   obtain⟨Af,J,h⟩:=s.at_ C b
   cases J
   rw [Nat.zero_add];exact h
 ·refine Ad fun C b=>?_
  rw [Nat.zero_add,w]
  rw [List.length_map] at b
  exact⟨⟨_,q.cell (by rw [List.length_append];omega)⟩,q.frozen C⟩
 ·have:=Ae (aB:=#[]) (bW:=u) (Q:=0) q s.words (by rw [List.length_append];omega) (by simp) ⟨by simp,fun N aP=>absurd aP (by simp)⟩
  rw [d]
  refine g _ ⟨rest,?_⟩ DI
  have J:List.take 0 (T ++ rest) ++ (u ++ List.drop (0+u.length) (T ++ rest))=u ++ T.drop u.length ++ rest:=by
   rw [List.take_zero,List.nil_append,Nat.zero_add,List.drop_append_of_le_length c,List.append_assoc]
  rw [← J];exact this.1
def yP(bN:Nat):Prop:=∀ {a N:U} {L b bX fV fW n o:Nat} {T u:List Nat} {Z:V},T.length+u.length≤bN→eG Z o (List.replicate n 0)→bJ Z a b T→bJ Z N bX u→fV=T.length→fW=u.length→(T=[]∨fT o a)→(u=[]∨fT o N)→n=T.length+u.length→
 aF q8.id #[.slice (some ⟨o,0,none⟩) n L,.slice a fV b,.slice N fW bX] Z fun v A=>v=.tuple #[]∧a1 o Z A∧∃ aK,eG A o aK∧aK.length=n∧val aK=val T*val u
theorem wR{bN:Nat}(ok:yP bN){a N:U}{L bH l m:Nat}{T u:List Nat}{Z:V}(b:T.length+u.length≤bN)(s:bJ Z a L T)(O:bJ Z N bH u)(c:l=T.length)(d:m=u.length)(aP:T.length+u.length≤35184372088828):
  aF oH.id #[.slice a l L,.slice N m bH] Z fun v A=>a4 Z A∧tT Z A v (aE (val T*val u)):=by
 subst c;subst d
 refine oH.ok ?_
 unfold oH.t oH.F.t
 refine cP ((T.length+u.length:Nat):Int) (by omega) (by omega) (by omega) ?_
 refine nQ (T.length+u.length) rfl rfl rfl rfl aP fun a0 q M=>?_
 refine bF (ok b q.CA (s.B M) (O.B M) rfl rfl (s.off (Nat.le_refl _)) (O.off (Nat.le_refl _)) rfl) fun v D ⟨e,f,aK,g,h,cO⟩=>?_
 subst e
 refine dP rfl (bP ?_)
 refine DD (Nat.le_refl Z.size) g h.symm (Nat.le_refl _) fun v a9=>?_
 rw [cO] at a9
 obtain⟨o,i,j,n⟩:=a9
 subst j
 exact⟨f.B M (Nat.le_refl _),o,i,rfl,n⟩
theorem DJ{T u:List Nat}(a:Words T)(b:Words u):val T*val u < 2 ^ (64*(T.length+u.length)):=by
 rw [Nat.mul_add,Nat.pow_add]
 exact Nat.mul_lt_mul'' (hS a) (hS b)
theorem Hp{bN:Nat}(ok:∀ d,d < bN→yP d){Y:K}{a N:U}{L e bX fV fW n o:Nat}{T u:List Nat}{aB:V}(Lm:T.length+u.length≤bN)(s:bJ aB a e T)(O:bJ aB N bX u)(l:fV=T.length)(D:fW=u.length)(E:fT o a)(G:fT o N)(H:n=T.length+u.length)
  (Ln:1≤u.length) (Lo:2*u.length≤T.length) (Lp:o < aB.size)
  (g:∀ A aK,a1 o aB A→eG A o aK→aK.length=n→val aK=val T*val u→Y (.tuple #[]) A) :
  ∀ (M Q:Nat) (aK:List Nat) (Z:V),T.length≤Q+M→Q≤T.length+u.length→aK.length=n→eG Z o aK→a1 o aB Z→val aK=val (T.take Q)*val u→
   oI.e3.t Y (M+1) (some ⟨o,0,none⟩) n L a fV e N fW bX (Q:Int) Z:=by
 subst l;subst D
 intro M
 induction M with
 | zero=>
  intro Q aK Z bE P b q b1 J
  unfold oI.e3.t oI.a7.t
  refine cD (fun aP=>absurd aP (by omega)) fun aP=>?_
  rw [List.take_of_length_le (by omega)] at J
  exact g _ _ b1 q b J
 | succ M K5=>
  intro Q aK Z bE P b q b1 J
  have Lq:=q.len
  have Lr:=s.cap
  unfold oI.e3.t oI.a7.t
  refine cD (fun aP=>?_) fun aP=>?_
  ·refine cP ((Q+u.length:Nat):Int) (by omega) (by omega) (by omega) ?_
   obtain⟨m,K6⟩:∃ m,m=min (Q+u.length) T.length:=⟨_,rfl⟩
   have em:(if (((T.length:Nat):Int)) < ((Q+u.length:Nat):Int) then(((T.length:Nat):Int)) else((Q+u.length:Nat):Int))=(m:Int):=by
    split <;> omega
   rw [em]
   refine CB rfl rfl rfl (by omega) (by omega) ?_
   have c:(T.take m).length=m:=by rw [List.length_take];omega
   have K7:=((s.bT E b1).take m).rW (cW:=m) (by omega)
   have rd:=K7.drop Q (by omega)
   have K8:((T.take m).drop Q).length=m - Q:=by rw [List.length_drop,c]
   refine bF (wP (rd.rW (cW:=m - Q) (by omega)) K8.symm) fun v a0 ⟨K9,La⟩=>?_
   subst K9;subst La
   refine k rfl ?_
   have Lb:=yN (rd.rW (cW:=m - Q) (by omega))
   have Ls:=u9 ((T.take m).drop Q)
   refine bF (wR (ok (u.length+u.length) (by omega)) (by omega) Lb (O.bT G b1) rfl rfl (by omega)) fun v Lt ⟨f,a9⟩=>?_
   refine a9.elim fun gG Lu h=>?_
   rw [rY] at h ⊢
   have Lc:val (T.take m)=val (T.take Q)+2 ^ (64*Q)*val ((T.take m).drop Q):=by
    conv=>lhs;rw [← List.take_append_drop Q (T.take m)]
    rw [hR,List.length_take,c,Nat.min_eq_left (by omega),List.take_take,Nat.min_eq_left (by omega)]
   have Ld:val (T.take m)≤val T:=by
    have:val T=val (T.take m)+2 ^ (64*m)*val (T.drop m):=by
     conv=>lhs;rw [← List.take_append_drop m T]
     rw [hR,c]
    omega
   have i:val aK+val ((T.take m).drop Q)*val u*2 ^ (64*Q)=val (T.take m)*val u:=by
    rw [J,Lc,Nat.add_mul,Nat.mul_right_comm,Nat.mul_comm (2 ^ (64*Q))]
   have dE:val (T.take m)*val u < 2 ^ (64*aK.length):=by
    rw [b,H]
    exact Nat.lt_of_le_of_lt (Nat.mul_le_mul_right _ Ld) (DJ s.words O.words)
   have Le:=q.B f
   have Lf:o ≠ gG:=by have:=b1.le;omega
   refine bF (yO (at_:=Q) Le (h.rd (Nat.le_refl _)) rfl b.symm (Or.inr (wQ (Ne.symm Lf))) (by rw [fA,i];exact dE) (AN (by omega) (by omega)) rfl rfl) fun v Lg ⟨Lh,Li,Lj,Lk,Lv,j⟩=>?_
   subst Lh
   refine dP rfl (bP ?_)
   refine cP ((Q+u.length:Nat):Int) (by omega) (by omega) (by omega) ?_
   rw [fA,i] at j
   refine K5 (Q+u.length) Lj Lg (by omega) (by omega) (by omega) Lk ((b1.trans f.Ap).trans Li) ?_
   rw [j]
   congr 2
   by_cases Ll:Q+u.length≤T.length
   ·rw [K6,Nat.min_eq_left Ll]
   ·rw [List.take_of_length_le (by omega),List.take_of_length_le (by omega)]
  ·rw [List.take_of_length_le (by omega)] at J
   exact g _ _ b1 q b J
theorem Hq{aL bA a3 aQ kM g4 bV:Nat}(a:aL=a3+bV*aQ)(b:bA=kM+bV*g4):(a3+aQ)*(kM+g4)=a3*kM+(a3*g4+aQ*kM)+aQ*g4∧aL*bA=a3*kM+(a3*g4+aQ*kM)*bV+aQ*g4*(bV*bV):=by
 subst a;subst b
 constructor
 ·rw [Nat.add_mul,Nat.mul_add,Nat.mul_add];omega
 ·have c:a3*(bV*g4)=a3*g4*bV:=by rw [Nat.mul_comm bV,Nat.mul_assoc]
  have d:bV*aQ*kM=aQ*kM*bV:=by rw [Nat.mul_assoc,Nat.mul_comm]
  have e:bV*aQ*(bV*g4)=aQ*g4*(bV*bV):=by
   rw [Nat.mul_mul_mul_comm,Nat.mul_comm]
  rw [Nat.add_mul,Nat.mul_add,Nat.mul_add,c,d,e,Nat.add_mul];omega
theorem Hr{bN:Nat}(ok:∀ b,b < bN→yP b){a N:U}{L Lf bX fV fW n o:Nat}{T u:List Nat}{Z:V}(Md:T.length+u.length≤bN)(q:eG Z o (List.replicate n 0))(s:bJ Z a Lf T)(O:bJ Z N bX u)(Ly:fV=T.length)(Lz:fW=u.length)(Me:fT o a)(Mf:fT o N)(LA:n=T.length+u.length)
  (Mg:40≤u.length) (Mh:u.length≤T.length) (Mi:T.length < 2*u.length) :
  aF tU.id #[.slice (some ⟨o,0,none⟩) n L,.slice a fV Lf,.slice N fW bX] Z fun v A=>v=.tuple #[]∧a1 o Z A∧∃ aK,eG A o aK∧aK.length=n∧val aK=val T*val u:=by
 subst Ly;subst Lz
 have LB:=q.len
 rw [List.length_replicate] at LB
 have Mj:=q.lt
 refine tU.ok ?_
 unfold tU.t tU.F.t
 refine cP ((T.length+1:Nat):Int) (by omega) (by omega) (by omega) ?_
 obtain⟨M,LC⟩:∃ M,M=(T.length+1) / 2:=⟨_,rfl⟩
 refine⟨by omega,cP (M:Int) (by rw [LC];exact oC _ 2) (by omega) (by omega) ?_⟩
 refine bF (DE (M:=M) s rfl rfl) fun v a0 ⟨f,Mk,g,h,i,Ml⟩=>?_
 subst f;subst g
 refine dP rfl (aM (k rfl (aM (k rfl (bP ?_)))))
 refine bF (DE (M:=M) O rfl rfl) fun v a0 ⟨f,Mm,g,j,l,Mn⟩=>?_
 subst f;subst g
 refine dP rfl (aM (k rfl (aM (k rfl (bP ?_)))))
 have LD:=DF T M
 have LF:=DF u M
 have Mo:(dH (T.take M)).length≤M:=Nat.le_trans (u9 _) (by rw [List.length_take];omega)
 have Mp:(dH (u.take M)).length≤M:=Nat.le_trans (u9 _) (by rw [List.length_take];omega)
 have Mq:(T.drop M).length≤M:=by rw [List.length_drop];omega
 have Mr:(u.drop M).length≤M:=by rw [List.length_drop];omega
 have Lg:=DJ s.words O.words
 rw [← LA] at Lg
 generalize dH (T.take M)=a3 at *
 generalize dH (u.take M)=kM at *
 generalize T.drop M=aQ at *
 generalize u.drop M=g4 at *
 refine bF (wR (ok (M+M) (by omega)) (by omega) h j rfl rfl (by omega)) fun v LG ⟨d,a9⟩=>?_
 refine a9.elim fun LH Ms m=>?_
 refine bF (wR (ok (M+M) (by omega)) (by omega) (i.B d) (l.B d) rfl rfl (by omega)) fun v Lh ⟨D,a9⟩=>?_
 refine a9.elim fun LI Mt E=>?_
 have G:=d.trans D
 refine bF (DH (h.B G) (i.B G) rfl rfl (by omega) (by omega)) fun v Mu ⟨P,a9⟩=>?_
 refine a9.elim fun Mv Mw os=>?_
 have Li:=G.trans P
 refine bF (DH (j.B Li) (l.B Li) rfl rfl (by omega) (by omega)) fun v Mx ⟨K5,a9⟩=>?_
 refine a9.elim fun My Mz LJ=>?_
 have MA:(aE (val a3+val aQ)).length≤M+1:=Al (gF.mpr (Nat.lt_of_lt_of_le (hS h.words) (Nat.pow_le_pow_right (by decide) (by omega)))) (gF.mpr (Nat.lt_of_lt_of_le (hS i.words) (Nat.pow_le_pow_right (by decide) (by omega))))
 have MB:(aE (val kM+val g4)).length≤M+1:=Al (gF.mpr (Nat.lt_of_lt_of_le (hS j.words) (Nat.pow_le_pow_right (by decide) (by omega)))) (gF.mpr (Nat.lt_of_lt_of_le (hS l.words) (Nat.pow_le_pow_right (by decide) (by omega))))
 refine bF (wR (ok (M+1+(M+1)) (by omega)) (by omega) ((os.rd (Nat.le_refl _)).B K5) (LJ.rd (Nat.le_refl _)) rfl rfl (by omega)) fun v MC ⟨LK,a9⟩=>?_
 refine a9.elim fun c MD K6=>?_
 rw [fA,fA] at K6 ⊢
 have K7:=Hq LD LF
 obtain⟨hB,Lj⟩:∃ hB,hB=val a3*val kM:=⟨_,rfl⟩
 obtain⟨H,Lk⟩:∃ H,H=val aQ*val g4:=⟨_,rfl⟩
 obtain⟨b,LL⟩:∃ b,b=val a3*val g4+val aQ*val kM:=⟨_,rfl⟩
 rw [← Lj,← LL,← Lk] at K7
 rw [← Lj] at m ⊢
 rw [← Lk] at E ⊢
 rw [K7.1] at K6 ⊢
 have K8:=P.trans (K5.trans LK)
 have Ll:=D.trans K8
 have Lm:=d.trans Ll
 have Ln:=m.B Ll
 have LM:=E.B K8
 have LN:=q.B Lm
 have ME:LH < LG.size:=m.lt
 have MF:LI < Lh.size:=E.lt
 have MG:=D.le
 have MH:=K8.le
 have MI:Lh.size≤c:=by have:=P.le;have:=K5.le;omega
 refine bF (DC K6 (Ln.rd (Nat.le_refl _)) rfl rfl (Or.inr (wQ (by omega))) (by rw [fA,fA];omega) (mD (by omega))) fun v MJ ⟨LO,K9,MK,LP,Lo,LQ⟩=>?_
 subst LO
 refine dP rfl (bP ?_)
 rw [fA,fA] at LQ
 have Lp:=LM.bT (o:=c) (by omega) K9
 have LR:=Ln.bT (o:=c) (by omega) K9
 refine bF (DC LP (Lp.rd (Nat.le_refl _)) rfl Lo.symm (Or.inr (wQ (by omega))) (by rw [fA];omega) (by rw [Lo];exact mD (by omega))) fun v LS ⟨LU,La,Lq,Lr,ML,LV⟩=>?_
 subst LU
 refine dP rfl (bP ?_)
 rw [fA] at LV
 have LW:val Lq=b:=by omega
 have MM:=d.le
 have Ls:=K9.trans La
 have LX:a4 a0 LS:=Ls.B Lm (by omega)
 have LY:=(LN.bT (o:=c) (by omega) Ls)
 have LZ:=LR.bT (o:=c) (by omega) La
 have L0:=Lp.bT (o:=c) (by omega) La
 have L1:2 ^ (64*M)*2 ^ (64*M)=2 ^ (64*(2*M)):=by rw [← Nat.pow_add,show 64*M+64*M=64*(2*M) by omega]
 have Lb:=K7.2
 rw [L1] at Lb
 rw [Lb] at Lg
 have L2:(aE hB).length≤n:=gF.mpr (by omega)
 refine Ho LY (LZ.rd (Nat.le_refl _)) (by simp) rfl (by simpa using L2) fun MN L3 Lc=>?_
 have Lt:val (aE hB ++ (List.replicate n 0).drop (aE hB).length)=hB:=by
  rw [hR,fA,List.drop_replicate,tM];simp
 have e:(aE hB ++ (List.replicate n 0).drop (aE hB).length).length=n:=by simp;omega
 have Lu:=Lr.bT (o:=o) (by omega) Lc
 refine bF (wP (Lu.rd (by omega)) (by omega)) fun v MO ⟨L4,Ld⟩=>?_
 subst L4;subst Ld
 refine k rfl ?_
 have Lv:=yN (Lu.rd (Nat.le_refl _))
 have L5:dH Lq=aE b:=by rw [← LW,mC Lr.words]
 rw [L5] at Lv ⊢
 refine bF (yO (at_:=M) L3 Lv rfl e.symm (Or.inr (wQ (by omega))) (by rw [Lt,fA,e];omega) (by rw [e];exact AN (by omega) (by omega)) rfl rfl) fun v MP ⟨Ld,Lw,MQ,L6,Lx,Le⟩=>?_
 subst Ld
 refine dP rfl (bP ?_)
 rw [Lt,fA] at Le
 refine cP ((2*M:Nat):Int) (by omega) (by omega) (by omega) ?_
 have L7:=(L0.bT (o:=o) (by omega) Lc).bT (o:=o) (by omega) Lw
 refine bF (yO (at_:=2*M) L6 (L7.rd (Nat.le_refl _)) rfl (by omega) (Or.inr (wQ (by omega))) (by rw [Le,fA,Lx,e];omega) (by rw [Lx,e];exact AN (by omega) (by omega)) rfl rfl) fun v MR ⟨L8,L9,Ma,Mb,MS,Mc⟩=>?_
 subst L8
 refine dP rfl (bP ?_)
 refine⟨rfl,LX.Ap.trans (Lc.trans (Lw.trans L9)),Ma,Mb,by omega,?_⟩
 rw [Mc,Le,fA,Lb]
theorem Hs(bN:Nat):yP bN:=by
 induction bN using Nat.strongRecOn with
 | ind bN ok=>
  have l:∀ {a N:U} {L f bX fV fW n o:Nat} {T u:List Nat} {Z:V},T.length+u.length≤bN→eG Z o (List.replicate n 0)→bJ Z a f T→bJ Z N bX u→fV=T.length→fW=u.length→(T=[]∨fT o a)→(u=[]∨fT o N)→n=T.length+u.length→u.length≤T.length→
    q8.aC.t (fun v A=>v=.tuple #[]∧a1 o Z A∧∃ aK,eG A o aK∧aK.length=n∧val aK=val T*val u) (some ⟨o,0,none⟩) n L a fV f N fW bX Z:=by
   intro a N L f bX fV fW n o T u Z j q s O e b g h i m
   have G:=q.len
   rw [List.length_replicate] at G
   unfold q8.aC.t
   refine cD (fun aY=>?_) fun aY=>?_
   ·refine bF (Hn q s O e b g h i) fun v A ⟨J,M,c⟩=>?_
    subst J
    exact dP rfl (bP ⟨rfl,M,c⟩)
   ·have D:fT o a:=by
     rcases g with d | d
     ·subst d;have:u.length≤0:=m;omega
     ·exact d
    have E:fT o N:=by
     rcases h with d | d
     ·subst d;simp at b;omega
     ·exact d
    refine cP ((2*u.length:Nat):Int) (by omega) (by omega) (by omega) ?_
    refine cD (fun aP=>?_) fun aP=>?_
    ·have H:aF oI.id #[.slice (some ⟨o,0,none⟩) n L,.slice a fV f,.slice N fW bX] Z fun v A=>v=.tuple #[]∧a1 o Z A∧∃ aK,eG A o aK∧aK.length=n∧val aK=val T*val u:=by
      refine oI.ok ?_
      unfold oI.t oI.F.t
      refine⟨T.length+1,?_⟩
      refine Hp ok j s O e b D E i (by omega) (by omega) q.lt (fun A aK M fM c J=>⟨rfl,M,aK,fM,c,J⟩) T.length 0 _ Z (by omega) (by omega) (by simp) q (a1.refl _ _) ?_
      rw [tM];simp [val]
     refine bF H fun v A ⟨J,M,c⟩=>?_
     subst J
     exact dP rfl (bP ⟨rfl,M,c⟩)
    ·refine bF (Hr ok j q s O e b D E i (by omega) m (by omega)) fun v A ⟨J,M,c⟩=>?_
     subst J
     exact dP rfl (bP ⟨rfl,M,c⟩)
  intro a N L f bX fV fW n o T u Z j q s O e b g h i
  refine q8.ok ?_
  unfold q8.t q8.F.t
  refine cD (fun aP=>?_) fun aP=>?_
  ·have:=l (L:=L) (by omega) q O s b e h g (by omega) (by omega)
   rw [Nat.mul_comm (val u)] at this;exact this
  ·exact l j q s O e b g h i (by omega)
theorem Ht{a N:U}{L bH l m:Nat}{T u:List Nat}{Z:V}(s:bJ Z a L T)(O:bJ Z N bH u)(b:l=T.length)(c:m=u.length)(aP:T.length+u.length≤35184372088828):
  aF oH.id #[.slice a l L,.slice N m bH] Z fun v A=>a4 Z A∧tT Z A v (aE (val T*val u)):=
 wR (Hs _) (Nat.le_refl _) s O b c aP
def q9(T u:List Nat):List Nat × Int:=if gI T∧gI u then eS (val T*val u) else([],2)
theorem Hu{a N:U}{L bH l m:Nat}{T u:List Nat}{Z:V}(s:bJ Z a L T)(O:bJ Z N bH u)(g:l=T.length)(h:m=u.length):
  aF pJ.id #[.slice a l L,.slice N m bH] Z fun v A=>a4 Z A∧fD Z A v (q9 T u):=by
 refine pJ.ok ?_
 unfold pJ.t pJ.F.t
 refine bF (oB s g) fun v A ⟨b,c⟩=>?_
 subst b;subst c
 refine aO rfl ?_
 refine h9 (fun dJ=>⟨a4.refl _,?_⟩) fun dJ=>?_
 ·unfold q9;rw [if_neg (fun d=>of_decide_eq_false dJ d.1)];exact fD.none
 refine bF (oB O h) fun v A ⟨b,c⟩=>?_
 subst b;subst c
 refine aO rfl ?_
 refine h9 (fun e=>⟨a4.refl _,?_⟩) fun e=>?_
 ·unfold q9;rw [if_neg (fun d=>of_decide_eq_false e d.2)];exact fD.none
 have i:=of_decide_eq_true dJ
 have j:=of_decide_eq_true e
 have a0:=i.1
 have K8:=j.1
 unfold q9;rw [if_pos ⟨i,j⟩]
 unfold pJ.aC.t
 refine bF (Ht s O g h (by omega)) fun v f ⟨n,a9⟩=>?_
 refine a9.elim fun fH D E=>?_
 have G:aF tV.id #[.slice (some ⟨fH,0,none⟩) (aE (val T*val u)).length (aE (val T*val u)).length] f fun v H=>H=f∧fD A f v (eS (val T*val u)):=by
  refine tV.ok ?_
  unfold tV.t tV.F.t
  refine cD (fun aP=>⟨rfl,?_⟩) fun aP=>⟨rfl,?_⟩
  ·unfold eS;rw [if_neg (by omega)];exact fD.none
  ·unfold eS;rw [if_pos (by omega)];exact fD.mk rfl rfl (E.hV D) (show In .i64 0 by decide)
 refine bF G fun v K9 ⟨P,K5⟩=>?_
 subst P
 refine K5.nU fun La Lb K6 K7=>?_
 exact⟨n,fD.back K6 K7⟩
abbrev fJ:=Bool × List Nat
abbrev vJ:=Bool × Nat
def l1:fJ:=(false,[])
def eV(I:fJ):Int:=if I.1 then -((val I.2:Nat):Int) else((val I.2:Nat):Int)
def fE(Q:Int):fJ:=(decide (Q < 0),aE Q.natAbs)
def b5(Q:Int):vJ:=(decide (Q < 0),Q.natAbs)
def bL(I:vJ):Int:=if I.1 then -((I.2:Nat):Int) else((I.2:Nat):Int)
def eJ(I:fJ):Prop:=gI I.2∧¬ (I.1=true∧I.2=[])
instance (I:fJ):Decidable (eJ I):=by unfold eJ;infer_instance
def nY(Q:Int):Prop:=(aE Q.natAbs).length≤8192
instance (Q:Int):Decidable (nY Q):=by unfold nY;infer_instance
def fP(Q:Int):fJ × Int:=if nY Q then(fE Q,0) else(l1,5)
theorem AO(Q:Int):eV (fE Q)=Q:=by
 unfold eV fE
 simp only [fA]
 by_cases Z:Q < 0
 ·simp only [Z,decide_true,if_true];omega
 ·simp only [Z,decide_false,Bool.false_eq_true,if_false];omega
theorem pK(Q:Int):bL (b5 Q)=Q:=by
 unfold bL b5
 by_cases Z:Q < 0
 ·simp only [Z,decide_true,if_true];omega
 ·simp only [Z,decide_false,Bool.false_eq_true,if_false];omega
theorem Hv(n:Nat):aE n=[]↔n=0:=by
 constructor
 ·intro Z;rw [← fA n,Z];rfl
 ·intro Z;subst Z;exact dM
theorem Hw{Q:Int}(Z:nY Q):eJ (fE Q):=by
 refine⟨⟨Z,nR _⟩,?_⟩
 rintro⟨a0,a⟩
 have a0:=of_decide_eq_true a0
 have a:=(Hv _).mp a
 omega
def cE(N:Bool)(n:Nat):Int:=if N then -(n:Int) else(n:Int)
theorem kO(N:Bool)(n:Nat):(cE N n).natAbs=n:=by unfold cE;cases N <;> simp
theorem AP(N:Bool)(n:Nat):decide (cE N n < 0)=(N && decide (n ≠ 0)):=by
 unfold cE
 cases N
 ·simp
 ·by_cases Z:n=0
  ·subst Z;simp
  ·simp only [if_true,Bool.true_and,Z,ne_eq,not_false_eq_true,decide_true,decide_eq_true_eq];omega
theorem DK(N:Bool)(n:Nat):fE (cE N n)=((N && decide (n ≠ 0)),aE n):=by unfold fE;rw [kO,AP]
theorem Hx(N:Bool)(n:Nat):b5 (cE N n)=((N && decide (n ≠ 0)),n):=by unfold b5;rw [kO,AP]
theorem pL(I:fJ):eV I=cE I.1 (val I.2):=rfl
theorem Hy(I:fJ):(eV I).natAbs=val I.2:=by rw [pL,kO]
theorem vK{T:List Nat}(a9:gI T):val T=0↔T=[]:=by
 rw [← o7,a9.2]
theorem Hz{n:Nat}(Z:¬ (aE n).length≤8192):eS n=([],5):=by unfold eS;rw [if_neg Z]
theorem AQ{Q:Int}(Z:nY Q):fP Q=(fE Q,0):=if_pos Z
theorem AR{Q:Int}(Z:¬ nY Q):fP Q=(l1,5):=if_neg Z
theorem HA{a N o:Int}(aP:0 < N)(a0:o*N≤a)(b:a < (o+1)*N):a / N=o:=by
 refine Int.le_antisymm (Int.lt_add_one_iff.mp (Int.ediv_lt_of_lt_mul aP b)) (Int.le_ediv_of_mul_le aP a0)
def e4(a N:Int):Int:=if N < 0 then(-a) / (-N) else a / N
def iL(a N:Int):Int:=-e4 (-a) N
def iV(a N:Int):Int:=a - N*e4 a N
def pM(bD aX:Nat):Nat:=if aX < 2*(bD % aX)∨(2*(bD % aX)=aX∧bD / aX % 2=1) then bD / aX+1 else bD / aX
def gY(a N:Int):Int:=cE (xor (decide (a < 0)) (decide (N < 0))) (pM a.natAbs N.natAbs)
theorem HB{aX:Nat}(Z:aX ≠ 0):(0:Int) < (aX:Int):=by omega
theorem tW{z o:Bool}{bD aX:Nat}(c4:aX ≠ 0)(b:z=true→bD ≠ 0):e4 (cE z bD) (cE o aX)=cE (xor z o) (if (xor z o)=true∧bD % aX ≠ 0 then bD / aX+1 else bD / aX):=by
 have c:∀ (s:Bool),(s=true→bD ≠ 0)→cE s bD / (aX:Int)=cE s (if s=true∧bD % aX ≠ 0 then bD / aX+1 else bD / aX):=by
  intro s h
  have aJ:=Nat.div_add_mod bD aX
  have i:=Nat.mod_lt bD (show 0 < aX by omega)
  refine HA (HB c4) ?_ ?_
  ·cases s
   ·simp only [cE,Bool.false_eq_true,false_and,if_false]
    have:bD / aX*aX≤bD:=Nat.div_mul_le_self _ _
    exact_mod_cast this
   ·simp only [cE,if_true,true_and]
    split
    ·have:bD≤(bD / aX+1)*aX:=by rw [Nat.add_mul,Nat.one_mul,Nat.mul_comm];omega
     have a:(bD:Int)≤(((bD / aX+1:Nat):Int))*(aX:Int):=by exact_mod_cast this
     rw [Int.neg_mul];omega
    ·rename_i Z
     have:bD=bD / aX*aX:=by rw [Nat.mul_comm];omega
     have a:(bD:Int)=(((bD / aX:Nat):Int))*(aX:Int):=by exact_mod_cast this
     rw [Int.neg_mul];omega
  ·cases s
   ·simp only [cE,Bool.false_eq_true,false_and,if_false]
    have:bD < (bD / aX+1)*aX:=by rw [Nat.add_mul,Nat.one_mul,Nat.mul_comm];omega
    exact_mod_cast this
   ·simp only [cE,if_true,true_and]
    split
    ·rename_i Z
     have:bD / aX*aX < bD:=by rw [Nat.mul_comm];omega
     have a:(((bD / aX:Nat):Int))*(aX:Int) < (bD:Int):=by exact_mod_cast this
     have e:(-(((bD / aX+1:Nat):Int))+1)=-(((bD / aX:Nat):Int)):=by omega
     rw [e,Int.neg_mul];omega
    ·rename_i Z
     have aB:bD=bD / aX*aX:=by rw [Nat.mul_comm];omega
     have a:(bD:Int)=(((bD / aX:Nat):Int))*(aX:Int):=by exact_mod_cast aB
     rw [Int.add_mul,Int.neg_mul,Int.one_mul];omega
 unfold e4
 cases o
 ·have J:cE false aX=(aX:Int):=rfl
  rw [J,if_neg (by omega),c z b]
  simp
 ·have J:cE true aX=-(aX:Int):=rfl
  rw [J,if_pos (by omega),Int.neg_neg]
  have f:-cE z bD=cE (!z) bD:=by cases z <;> simp [cE]
  rw [f]
  by_cases d:bD=0
  ·subst d
   have g:z=false:=by cases z;rfl;exact absurd rfl (b rfl)
   subst g
   simp [cE]
  ·rw [c (!z) fun _=>d]
   cases z <;> simp
def oJ(I:fJ):fJ × Int:=if eJ I then fP (-eV I) else(l1,2)
def gR(a9:Int→Int→Int)(I aN:fJ):fJ × Int:=if eJ I∧eJ aN then fP (a9 (eV I) (eV aN)) else(l1,2)
def hM(a9:Int→Int→Int)(I aN:fJ):fJ × Int:=if eJ I∧eJ aN then(if eV aN=0 then(l1,4) else fP (a9 (eV I) (eV aN))) else(l1,2)
def qK(I:fJ)(n:Int):fJ × Int:=if n < 0 then(l1,1) else if eJ I then fP (eV I*2 ^ n.toNat) else(l1,2)
def iM(a9:Int→Int→Int)(I:fJ)(n:Int):fJ × Int:=if n < 0 then(l1,1) else if eJ I then fP (a9 (eV I) (2 ^ n.toNat)) else(l1,2)
def gA(Q C:Int):Int:=if Q < C then -1 else if Q=C then 0 else 1
def qL(I aN:fJ):Int × Int:=if eJ I∧eJ aN then(gA (eV I) (eV aN),0) else(0,2)
def nA(I:fJ):Int × Int:=if eJ I then(if -9223372036854775808≤eV I∧eV I < 9223372036854775808 then(eV I,0) else(0,5)) else(0,2)
def nZ(I aN:Int):Int:=I+aN
def vL(I aN:Int):Int:=I - aN
def oK(I aN:Int):Int:=I*aN
def h1(N:Bool)(z:List Nat × Int):fJ × Int:=if z.2 ≠ 0 then(l1,z.2) else((N && decide (0 < z.1.length),z.1),0)
theorem yQ(n:Nat):decide (0 < (aE n).length)=decide (n ≠ 0):=by
 by_cases Z:n=0
 ·subst Z;rw [dM];rfl
 ·rw [lA Z];simp [Z]
theorem rA(N:Bool)(n:Nat):h1 N (eS n)=fP (cE N n):=by
 unfold h1
 by_cases Z:(aE n).length≤8192
 ·have J:eS n=(aE n,0):=by unfold eS;exact if_pos Z
  rw [J,AQ (by unfold nY;rw [kO];exact Z),DK]
  simp only [ne_eq,not_true_eq_false,if_false,yQ]
 ·rw [Hz Z,AR (by unfold nY;rw [kO];exact Z)]
  rfl
theorem DL(N:Bool)(bD aX:Nat):cE N bD+cE N aX=cE N (bD+aX):=by unfold cE;cases N <;> simp <;> omega
theorem yR{z o:Bool}{bD aX:Nat}(Z:z ≠ o)(a:aX≤bD):cE z bD+cE o aX=cE z (bD - aX):=by
 unfold cE;cases z <;> cases o <;> simp at Z ⊢ <;> omega
theorem tX(z:Bool)(bD:Nat):-cE z bD=cE (!z) bD:=by unfold cE;cases z <;> simp
theorem yS(z o:Bool)(bD aX:Nat):cE z bD*cE o aX=cE (xor z o) (bD*aX):=by
 unfold cE;cases z <;> cases o <;> simp [Int.neg_mul,Int.mul_neg]
theorem lJ(z:Bool):cE z 0=0:=by unfold cE;cases z <;> rfl
theorem tY{z:Bool}{bD:Nat}:cE z bD=0↔bD=0:=by unfold cE;cases z <;> simp
theorem yT(bD:Nat):cE false bD=(bD:Int):=rfl
theorem sE(n:Nat):((2:Int) ^ n)=cE false (2 ^ n):=by rw [yT];exact(Int.natCast_pow 2 n).symm
theorem yU(n:Nat):(2:Nat) ^ n ≠ 0:=Nat.pos_iff_ne_zero.mp (Nat.two_pow_pos n)
theorem AS(z:Bool)(bD n:Nat):cE z bD*2 ^ n=cE z (bD*2 ^ n):=by rw [sE,yS];simp
theorem DM{z:Bool}{bD:Nat}(Z:z=true→bD ≠ 0):decide (cE z bD < 0)=z:=by
 rw [AP];cases z
 ·rfl
 ·simp [Z rfl]
theorem yV(N:Int):e4 0 N=0:=by unfold e4;split <;> simp
theorem HC{z o:Bool}{bD aX:Nat}(c4:aX ≠ 0)(c:z=true→bD ≠ 0):iL (cE z bD) (cE o aX)=cE (xor z o) (if (xor z o)=false∧bD % aX ≠ 0 then bD / aX+1 else bD / aX):=by
 unfold iL
 by_cases a:bD=0
 ·subst a;rw [lJ];simp [yV,lJ]
 ·rw [tX,tW c4 fun _=>a,tX]
  have J:(!(xor (!z) o))=xor z o:=by cases z <;> cases o <;> rfl
  have b:(xor (!z) o=true)↔(xor z o=false):=by cases z <;> cases o <;> simp
  rw [J]
  simp only [b]
theorem AT{z o:Bool}{bD aX:Nat}(c4:aX ≠ 0)(a:z=true→bD ≠ 0):gY (cE z bD) (cE o aX)=cE (xor z o) (pM bD aX):=by
 unfold gY
 rw [DM a,DM fun _=>c4,kO,kO]
theorem HD{bD aX:Nat}(Z:2*bD < aX):pM bD aX=0:=by
 unfold pM
 rw [Nat.mod_eq_of_lt (by omega),Nat.div_eq_of_lt (by omega),if_neg (by omega)]
theorem HE{a N:Int}(aP:N < 0):e4 a N=e4 (-a) (-N):=by unfold e4;rw [if_pos aP,if_neg (by omega)]
theorem HF(N:Int):iV 0 N=0:=by unfold iV;rw [yV];simp
theorem yW{z o:Bool}{bD aX:Nat}(c4:aX ≠ 0)(b:z=true→bD ≠ 0):iV (cE z bD) (cE o aX)=cE o (if (xor z o)=true∧bD % aX ≠ 0 then aX - bD % aX else bD % aX):=by
 unfold iV
 rw [tW c4 b,yS]
 have aJ:=Nat.div_add_mod bD aX
 have g:=Nat.mod_lt bD (show 0 < aX by omega)
 have c:(xor o (xor z o))=z:=by cases z <;> cases o <;> rfl
 rw [c]
 generalize bD % aX=s at *
 generalize bD / aX=b7 at *
 have d:aX*(b7+1)=aX*b7+aX:=by rw [Nat.mul_add,Nat.mul_one]
 by_cases L:(xor z o)=true∧s ≠ 0
 ·rw [if_pos L,if_pos L,d]
  generalize aX*b7=dF at *
  subst aJ
  obtain⟨e,bX⟩:=L
  cases z <;> cases o <;> simp at e <;> simp only [cE,if_true,Bool.false_eq_true,if_false] <;> omega
 ·rw [if_neg L,if_neg L]
  generalize aX*b7=dF at *
  subst aJ
  have f:z=o∨s=0:=by
   by_cases a:s=0
   ·exact Or.inr a
   ·refine Or.inl ?_
    cases z <;> cases o <;> first | rfl | exact absurd ⟨rfl,a⟩ L
  rcases f with rfl | rfl
  ·cases z <;> simp only [cE,if_true,Bool.false_eq_true,if_false] <;> omega
  ·cases z <;> cases o <;> simp only [cE,if_true,Bool.false_eq_true,if_false] <;> omega
theorem HG{bD n:Nat}:(bD / 2 ^ n % 2=1)↔2 ^ (n+1)≤2*(bD % 2 ^ (n+1)):=by
 have a0:bD % 2 ^ (n+1)=bD % 2 ^ n+2 ^ n*(bD / 2 ^ n % 2):=by rw [Nat.pow_succ,Nat.mod_mul]
 have b:=Nat.mod_lt bD (Nat.two_pow_pos n)
 have a:2 ^ (n+1)=2*2 ^ n:=by rw [Nat.pow_succ];omega
 rcases Nat.mod_two_eq_zero_or_one (bD / 2 ^ n) with J | J
 ·rw [J] at a0;rw [a0,J,a];omega
 ·rw [J] at a0;rw [a0,J,a];omega
theorem HH{bD n:Nat}(b:bD ≠ 0)(Z:bD / 2 ^ n % 2=1):ctz bD=n↔2*(bD % 2 ^ (n+1))=2 ^ (n+1):=by
 have a0:bD % 2 ^ (n+1)=bD % 2 ^ n+2 ^ n*(bD / 2 ^ n % 2):=by rw [Nat.pow_succ,Nat.mod_mul]
 have c:2 ^ (n+1)=2*2 ^ n:=by rw [Nat.pow_succ];omega
 rw [Z] at a0
 constructor
 ·intro J
  obtain⟨m,a⟩:=vI b
  rw [J] at a
  have:bD % 2 ^ n=0:=by rw [a];exact Nat.mul_mod_right _ _
  omega
 ·intro J
  exact GQ (by omega) Z
theorem HI{bD n:Nat}(c:bD ≠ 0):ctz bD < n↔bD % 2 ^ n ≠ 0:=by
 obtain⟨m,b⟩:=vI c
 constructor
 ·intro Z J
  have aJ:2 ^ n ∣ bD:=Nat.dvd_of_mod_eq_zero J
  have a:2 ^ (ctz bD+1) ∣ bD:=Nat.dvd_trans (Nat.pow_dvd_pow 2 (by omega)) aJ
  rw [b] at a
  have d:ctz (2 ^ ctz bD*(2*m+1))=ctz bD:=yI _ _
  rw [d] at a
  rw [Nat.pow_succ] at a
  have e:=Nat.dvd_of_mul_dvd_mul_left (Nat.two_pow_pos _) a
  omega
 ·intro Z
  rcases Nat.lt_or_ge (ctz bD) n with a0 | a0
  ·exact a0
  ·exfalso;apply Z
   rw [b]
   exact Nat.mod_eq_zero_of_dvd (Nat.dvd_trans (Nat.pow_dvd_pow 2 a0) (Nat.dvd_mul_right _ _))
theorem gK.aD{Z A:V}(t:gK Z)(m:m1 Z A):gK A:=fun Q bE=>m.cell _ _ rfl (t Q bE)
section
variable {a N:U} {L bH l m:Nat} {T u:List Nat} {aB Z:V} {I aN:Int}
theorem pJ.aU(s:bJ Z a L T)(J:l=T.length)(O:bJ Z N bH u)(a9:m=u.length):aF pJ.id #[.slice a l L,.slice N m bH] Z fun v A=>a4 Z A∧fD Z A v (q9 T u):=Hu s O J a9
theorem m9.aU(s:bJ Z a L T)(J:l=T.length)(O:bJ Z N bH u)(a9:m=u.length):aF m9.id #[.slice a l L,.slice N m bH] Z fun v A=>a4 Z A∧tS Z A v (m8 T u):=Hf s O J a9
theorem mL.aU(z:Bool)(a:U)(l L:Nat)(Z:V):aF mL.id #[.bool z,.slice a l L] Z fun v A=>a4 Z A∧v=.agg #[.bool (z && decide (0 < l)),.slice a l L]:=by
 refine mL.ok ?_
 unfold mL.t mL.F.t
 refine cK fun m b f=>?_
 have g:decide (((l:Nat):Int) > 0)=decide (0 < l):=by by_cases h:0 < l <;> simp [h]
 refine Ao (fun c=>?_) fun c=>?_
 ·subst c
  refine bK b (w _ _) rfl fun i b d jE=>?_
  refine bK b (w _ _) rfl fun j b e gS=>?_
  refine aI b (w _ _) rfl ?_
  refine aO rfl ?_
  refine aI b (w _ _) rfl ?_
  refine k rfl ?_
  exact⟨a1.B (a1.B f d (Nat.le_refl _)) e (Nat.le_refl _),by rw [g];rfl⟩
 ·subst c
  refine bK b (w _ _) rfl fun i b d jE=>?_
  refine bK b (w _ _) rfl fun j b e gS=>?_
  refine aI b (w _ _) rfl ?_
  refine aO rfl ?_
  refine aI b (w _ _) rfl ?_
  refine k rfl ?_
  exact⟨a1.B (a1.B f d (Nat.le_refl _)) e (Nat.le_refl _),rfl⟩
theorem HJ{z:Bool}(Z:I ≠ 0):h1 z (T,I)=(l1,I):=by unfold h1;rw [if_pos Z]
theorem HK(z:Bool)(T:List Nat):h1 z (T,0)=((z && decide (0 < T.length),T),0):=by unfold h1;simp
theorem jF.dJ{z:Bool}(g:cN dQ aB Z a L T)(J:l=T.length)(Q:In .i64 I):aF jF.id #[.bool z,.slice a l L,.int .i64 I] Z fun v A=>a4 Z A∧s2 dZ (c3 .i64) aB A v (h1 z (T,I)):=by
 subst J
 refine jF.ok ?_
 unfold jF.t jF.F.t
 refine cK fun h b d=>?_
 refine mZ (fun e=>?_) fun e=>?_
 ·refine bK b (w _ _) rfl fun i b c jE=>?_
  refine bK b (w _ _) rfl fun j b f gS=>?_
  refine aI b (w _ _) rfl ?_
  refine aO rfl ?_
  refine aI b (w _ _) rfl ?_
  refine k rfl ?_
  rw [HJ e]
  exact⟨a1.B (a1.B d c (Nat.le_refl _)) f (Nat.le_refl _),_,_,rfl,⟨_,_,rfl,cN.nil _ _⟩,rfl,Q⟩
 ·subst e
  refine bF (mL.aU z a T.length L h) fun v i ⟨c,O⟩=>?_
  subst O
  have b:=b.B c
  refine bZ rfl ?_
  refine aM ?_
  refine aO rfl ?_
  refine aM ?_
  refine k rfl ?_
  refine bP ?_
  refine bK b (w _ _) rfl fun j b f gS=>?_
  refine bK b (w _ _) rfl fun n b m kP=>?_
  refine aI b (w _ _) rfl ?_
  refine aO rfl ?_
  refine aI b (w _ _) rfl ?_
  refine k rfl ?_
  rw [HK]
  exact⟨a1.B (a1.B (d.trans c) f (Nat.le_refl _)) m (Nat.le_refl _),_,_,rfl,⟨_,_,rfl,g.aD (d.aD.trans (c.aD.trans (gS.trans kP)))⟩,rfl,Q⟩
def pN(aA:Int)(a b some:Bool)(c:Int):Bool:=if aA=0 then(a && some) else if aA=1 then(!a && some) else(decide (0 < c) || (decide (c=0) && b))
theorem rB.aU{z o O:Bool}(Z:V):aF rB.id #[.int .i64 I,.bool z,.bool o,.bool O,.int .i64 aN] Z fun v A=>A=Z∧v=.bool (pN I z o O aN):=by
 refine rB.ok ?_
 unfold rB.t rB.F.t
 refine hU (fun J=>?_) fun J=>?_
 ·cases z <;> exact⟨rfl,by simp [pN,J]⟩
 ·refine hU (fun a=>?_) fun a=>?_
  ·cases z <;> exact⟨rfl,by simp [pN,a]⟩
  ·refine cD (fun b=>?_) fun b=>?_
   ·exact⟨rfl,by have:0 < aN:=b;simp [pN,J,a,this]⟩
   ·refine hU (fun c=>?_) fun c=>?_
    ·exact⟨rfl,by subst c;simp [pN,J,a]⟩
    ·exact⟨rfl,by have:¬ 0 < aN:=b;simp [pN,J,a,c,this]⟩
def pO(aA:Int)(a:Bool)(o:List Nat)(some:Bool)(b:Int):fJ × Int:=h1 a (if pN aA a (jQ (val o) 0 == 1) some b=true then qH o (aE 1) else(o,0))
theorem pP.dJ{z O:Bool}(K8:aB.size≤Z.size)(aA:In .i64 I)(g:cN dQ aB Z a L T)(J:l=T.length)(Q:In .i64 aN):aF pP.id #[.int .i64 I,.bool z,.slice a l L,.bool O,.int .i64 aN] Z fun v A=>a4 Z A∧s2 dZ (c3 .i64) aB A v (pO I z T O aN):=by
 subst J
 refine pP.ok ?_
 unfold pP.t pP.F.t
 refine cK fun Lg b G=>?_
 refine bF (nX.aU (g.jD.B G) rfl (by decide)) fun v h ⟨d,J⟩=>?_
 refine aO J ?_
 refine bF (rB.aU h) fun v Lh ⟨J,c⟩=>?_
 subst J;subst c
 refine aO rfl ?_
 have b:=b.B d
 have i:=G.trans d
 unfold pO
 refine h9 (fun j=>?_) fun j=>?_
 ·rw [if_neg (by rw [j];decide)]
  refine bF (jF.dJ (g.B i) rfl (by decide)) fun v K9 ⟨e,O⟩=>?_
  obtain⟨La,Lb,J,⟨H,P,c,f⟩,m,n⟩:=O
  subst J;subst c;subst m
  refine dP rfl ?_
  refine aM ?_
  refine bZ rfl ?_
  refine aM ?_
  refine aO rfl ?_
  refine aM ?_
  refine k rfl ?_
  refine bP ?_
  refine aM ?_
  refine bI rfl ?_
  refine bP ?_
  have b:=b.B e
  refine bK b (w _ _) rfl fun h b d gS=>?_
  refine bK b (w _ _) rfl fun Lc b D kP=>?_
  refine aI b (w _ _) rfl ?_
  refine aO rfl ?_
  refine aI b (w _ _) rfl ?_
  refine k rfl ?_
  exact⟨a1.B (a1.B (i.trans e) d (Nat.le_refl _)) D (Nat.le_refl _),_,_,rfl,⟨_,_,rfl,f.aD (gS.trans kP)⟩,rfl,n⟩
 ·rw [if_pos j]
  refine bF (mI.aU (I:=1) (by decide)) fun v Li ⟨K5,Lj,Lk,J,Ld⟩=>?_
  subst J
  refine k rfl ?_
  have E:=i.trans K5
  refine bF (jR.aU (g.jD.B E) rfl Ld.jD rfl) fun v Ll ⟨K6,K7⟩=>?_
  have c:(1:Int).toNat=1:=rfl
  rw [c] at K7
  refine K7.nU fun H P f Le=>?_
  have Lf:=E.trans K6
  refine bF (jF.dJ (f.from (Nat.le_trans K8 E.le)) rfl Le) fun v K9 ⟨e,O⟩=>?_
  obtain⟨La,Lb,J,⟨H,P,c,f⟩,m,n⟩:=O
  subst J;subst c;subst m
  refine dP rfl ?_
  refine aM ?_
  refine bZ rfl ?_
  refine aM ?_
  refine aO rfl ?_
  refine aM ?_
  refine k rfl ?_
  refine bP ?_
  refine aM ?_
  refine bI rfl ?_
  refine bP ?_
  have b:=(b.B (K5.trans K6)).B e
  refine bK b (w _ _) rfl fun h b d gS=>?_
  refine bK b (w _ _) rfl fun Lc b D kP=>?_
  refine aI b (w _ _) rfl ?_
  refine aO rfl ?_
  refine aI b (w _ _) rfl ?_
  refine k rfl ?_
  exact⟨a1.B (a1.B (Lf.trans e) d (Nat.le_refl _)) D (Nat.le_refl _),_,_,rfl,⟨_,_,rfl,f.aD (gS.trans kP)⟩,rfl,n⟩
end
namespace kD
def F.v(a3:Int):(Bool × List Nat):=
 bif (decide (a3 < (0:Int))) then
  bY (aE (Int.toNat ((IntKind.u64.wrap (0 - (IntKind.u64.wrap a3)))))) fun a=>
  ((true && decide (0 < a.length)),a)
 else
  bY (aE (Int.toNat (IntKind.u64.wrap a3))) fun a=>
  ((false && decide (0 < a.length)),a)
theorem F.aU{Y:K}{aB Z:V}(aR:a4 aB Z){a3:Int}(K8:In .i64 a3)(g:dS dZ aB Y (F.v a3)):F.t Y a3 Z:=by
 unfold F.v at g
 unfold F.t
 refine cK fun K9 a d=>?_
 have e:=aR.le
 have La:=a.lt
 have Lb:=d.aD
 refine jC g (fun D g=>?_) (fun D g=>?_)
 ·refine g3 ?_
  refine g3 ?_
  refine bF (mI.aU (iS _ _)) fun v E ⟨b,O⟩=>?_
  obtain⟨Lc,m⟩:∃ z,z=aE (Int.toNat ((IntKind.u64.wrap (0 - (IntKind.u64.wrap a3))))):=⟨_,rfl⟩
  rw [← m] at O
  replace g:=cC m g
  obtain⟨Ld,Le,rfl,G⟩:=O
  refine k rfl (?_)
  have H:=b.aD
  refine bF (mL.aU _ _ _ _ _) fun v P ⟨c,O⟩=>?_
  subst O
  refine bZ rfl (aM (aO rfl (aM (k rfl (bP (?_))))))
  have f:=c.aD
  have a:=((a.B b).B c)
  refine bK a (w _ _) rfl fun K5 a h i=>?_
  refine bK a (w _ _) rfl fun K6 a j l=>?_
  refine aI a (w _ _) rfl (aO rfl ?_)
  refine aI a (w _ _) rfl (k rfl ?_)
  exact g _ _ (a1.B (a1.B (((aR.trans d).trans b).trans c) h e) j e) ⟨_,_,rfl,((G.aD (f.trans (i.trans l))).from (aR.trans d).le)⟩
 refine g3 ?_
 refine bF (mI.aU (iS _ _)) fun v E ⟨b,O⟩=>?_
 obtain⟨Lf,n⟩:∃ z,z=aE (Int.toNat (IntKind.u64.wrap a3)):=⟨_,rfl⟩
 rw [← n] at O
 replace g:=cC n g
 obtain⟨Lg,Lh,rfl,K7⟩:=O
 refine k rfl (?_)
 have H:=b.aD
 refine bF (mL.aU _ _ _ _ _) fun v P ⟨c,O⟩=>?_
 subst O
 refine bZ rfl (aM (aO rfl (aM (k rfl (bP (?_))))))
 have f:=c.aD
 have a:=((a.B b).B c)
 refine bK a (w _ _) rfl fun K5 a h i=>?_
 refine bK a (w _ _) rfl fun K6 a j l=>?_
 refine aI a (w _ _) rfl (aO rfl ?_)
 refine aI a (w _ _) rfl (k rfl ?_)
 exact g _ _ (a1.B (a1.B (((aR.trans d).trans b).trans c) h e) j e) ⟨_,_,rfl,((K7.aD (f.trans (i.trans l))).from (aR.trans d).le)⟩
def v(a3:Int):(Bool × List Nat):=F.v a3
theorem aU{Z:V}{a3:Int}(a:In .i64 a3):aF id #[.int .i64 a3] Z fun b c=>a4 Z c∧dZ Z c b (v a3):=
 ok (F.aU (a4.refl _) a fun v A M O=>⟨M,O⟩)
end kD
namespace eQ
def F.v(a:Bool)(b:List Nat):Bool:=
 bif (decide (gI b)) then
  bif a then
   (!((((b.length:Nat):Int)) == (0:Int)))
  else
   (!false)
 else
  false
theorem F.aU{Y:K}{aB Z:V}(aR:a4 aB Z){e:Bool}{f:U}{h i:Nat}{d:List Nat}(j:bJ Z f h d)(l:i=d.length)(g:dS h0 aB Y (F.v e d)):F.t Y e f i h Z:=by
 subst l
 unfold F.v at g
 unfold F.t
 refine cK fun E a c=>?_
 have G:=aR.le
 have H:=a.lt
 have m:=c.aD
 refine aI a (w _ _) rfl (k rfl ?_)
 refine bF (j0.aU (j.aD (m)) rfl) fun v P ⟨b,O⟩=>?_
 obtain rfl:=O
 refine aO rfl (?_)
 have K5:=b.aD
 refine jC g (fun n g=>?_) (fun n g=>?_)
 ·have a:=(a.B b)
  refine aI a (w _ _) rfl (aO rfl ?_)
  refine iR g (fun D g=>?_) (fun D g=>?_)
  ·refine aI a (w _ _) rfl (k rfl ?_)
   exact g _ _ ((aR.trans c).trans b) rfl
  exact g _ _ ((aR.trans c).trans b) rfl
 exact g _ _ ((aR.trans c).trans b) rfl
def v(a:Bool)(b:List Nat):Bool:=F.v a b
theorem aU{Z:V}{a:Bool}{b:U}{c d:Nat}{e:List Nat}(f:bJ Z b c e)(g:d=e.length):aF id #[.agg #[.bool a,.slice b d c]] Z fun b c=>a4 Z c∧h0 Z c b (v a e):=
 ok (F.aU (a4.refl _) f g fun v A M O=>⟨M,O⟩)
end eQ
namespace nB
def F.v(a:Bool)(b:List Nat):Int:=
 bif (((((eU (val b):Nat):Int))) == (0:Int)) then
  (0:Int)
 else
  bif a then
   (-1:Int)
  else
   (1:Int)
theorem F.aU{Y:K}{aB Z:V}(aR:a4 aB Z){e:Bool}{f:U}{h i:Nat}{d:List Nat}(j:bJ Z f h d)(l:i=d.length)(g:dS (c3 .i64) aB Y (F.v e d)):F.t Y e f i h Z:=by
 subst l
 unfold F.v at g
 unfold F.t
 refine cK fun E a c=>?_
 have G:=aR.le
 have H:=a.lt
 have m:=c.aD
 refine aI a (w _ _) rfl (k rfl ?_)
 refine bF (pE.aU (j.aD (m)) rfl) fun v P ⟨b,O⟩=>?_
 obtain⟨rfl,K5⟩:=O
 refine bI rfl (?_)
 have K6:=b.aD
 refine fB g (fun n g=>?_) (fun n g=>?_)
 ·exact g _ _ ((aR.trans c).trans b) ⟨rfl,(show In .i64 (0:Int) by decide)⟩
 have a:=(a.B b)
 refine aI a (w _ _) rfl (aO rfl ?_)
 refine iR g (fun D g=>?_) (fun D g=>?_)
 ·exact g _ _ ((aR.trans c).trans b) ⟨rfl,(show In .i64 (-1:Int) by decide)⟩
 exact g _ _ ((aR.trans c).trans b) ⟨rfl,(show In .i64 (1:Int) by decide)⟩
def v(a:Bool)(b:List Nat):Int:=F.v a b
theorem aU{Z:V}{a:Bool}{b:U}{c d:Nat}{e:List Nat}(f:bJ Z b c e)(g:d=e.length):aF id #[.agg #[.bool a,.slice b d c]] Z fun b c=>a4 Z c∧(c3 .i64) Z c b (v a e):=
 ok (F.aU (a4.refl _) f g fun v A M O=>⟨M,O⟩)
end nB
namespace mM
def aC.v(aT:Bool)(a:List Nat)(a:Int):(Int × Int):=
 bif aT then
  ((IntKind.i64.wrap ((IntKind.u64.wrap (0 - a)))),(0:Int))
 else
  ((IntKind.i64.wrap a),(0:Int))
theorem aC.aU{Y:K}{aB Z:V}(aR:a4 aB Z){aT:Bool}{d:U}{e:Nat}{a:List Nat}(i:bJ Z d e a){b:Nat}(f:cR Z b [.bool aT,.slice d a.length e])(j:aB.size≤b){c:Int}(l:In .u64 c)(g:dS (s2 (c3 .i64) (c3 .i64)) aB Y (aC.v aT a c)):aC.t Y (⟨b,0,none⟩:Addr) c Z:=by
 have m:=f.lt
 unfold aC.v at g
 unfold aC.t
 refine aI f (w _ _) rfl (aO rfl ?_)
 refine iR g (fun h g=>?_) (fun h g=>?_)
 ·refine g3 ?_
  refine g3 ?_
  exact g _ _ aR ⟨_,_,rfl,⟨rfl,(iS _ _)⟩,⟨rfl,(show In .i64 (0:Int) by decide)⟩⟩
 refine g3 ?_
 exact g _ _ aR ⟨_,_,rfl,⟨rfl,(iS _ _)⟩,⟨rfl,(show In .i64 (0:Int) by decide)⟩⟩
def F.v(a:Bool)(b:List Nat):(Int × Int):=
 bY (eQ.v a b) fun c=>
 bif (!c) then
  ((0:Int),(2:Int))
 else
  bif ((((b.length:Nat):Int)) == (0:Int)) then
   ((0:Int),(0:Int))
  else
   bif (decide ((((b.length:Nat):Int)) > (1:Int))) then
    ((0:Int),(5:Int))
   else
    bif (decide ((((b.getD 0 0:Nat):Int)) > (9223372036854775808:Int))) then
     ((0:Int),(5:Int))
    else
     bif ((((b.getD 0 0:Nat):Int)) == (9223372036854775808:Int)) then
      bif (!a) then
       ((0:Int),(5:Int))
      else
       aC.v a b (((b.getD 0 0:Nat):Int))
     else
      aC.v a b (((b.getD 0 0:Nat):Int))
theorem F.aU{Y:K}{aB Z:V}(aR:a4 aB Z){i:Bool}{j:U}{l m:Nat}{h:List Nat}(d:bJ Z j l h)(E:m=h.length)(g:dS (s2 (c3 .i64) (c3 .i64)) aB Y (F.v i h)):F.t Y i j m l Z:=by
 subst E
 unfold F.v at g
 unfold F.t
 refine cK fun K8 a c=>?_
 have n:=aR.le
 have K9:=a.lt
 have e:=c.aD
 refine aI a (w _ _) rfl (aO rfl ?_)
 refine aI a (w _ _) rfl (k rfl ?_)
 refine bF (eQ.aU (d.aD (e)) rfl) fun v La ⟨b,O⟩=>?_
 obtain⟨Lb,D⟩:∃ z,z=eQ.v i h:=⟨_,rfl⟩
 rw [← D] at O
 replace g:=cC D g
 obtain rfl:=O
 refine aO rfl (?_)
 have f:=b.aD
 refine hH g (fun G g=>?_) (fun G g=>?_)
 ·exact g _ _ ((aR.trans c).trans b) ⟨_,_,rfl,⟨rfl,(show In .i64 (0:Int) by decide)⟩,⟨rfl,(show In .i64 (2:Int) by decide)⟩⟩
 have a:=(a.B b)
 refine aI a (w _ _) rfl (k rfl ?_)
 refine fB g (fun H g=>?_) (fun H g=>?_)
 ·exact g _ _ ((aR.trans c).trans b) ⟨_,_,rfl,⟨rfl,(show In .i64 (0:Int) by decide)⟩,⟨rfl,(show In .i64 (0:Int) by decide)⟩⟩
 refine aI a (w _ _) rfl (k rfl ?_)
 refine wD ((d.aD (e.trans f))).p8 (C:=0) (by first | assumption | decide | omega) rfl (by first | assumption | decide | omega) ?_
 refine aI a (w _ _) rfl (k rfl ?_)
 refine jC g (fun P g=>?_) (fun P g=>?_)
 ·exact g _ _ ((aR.trans c).trans b) ⟨_,_,rfl,⟨rfl,(show In .i64 (0:Int) by decide)⟩,⟨rfl,(show In .i64 (5:Int) by decide)⟩⟩
 refine jC g (fun K5 g=>?_) (fun K5 g=>?_)
 ·exact g _ _ ((aR.trans c).trans b) ⟨_,_,rfl,⟨rfl,(show In .i64 (0:Int) by decide)⟩,⟨rfl,(show In .i64 (5:Int) by decide)⟩⟩
 refine fB g (fun K6 g=>?_) (fun K6 g=>?_)
 ·refine aI a (w _ _) rfl (aO rfl ?_)
  refine hH g (fun K7 g=>?_) (fun K7 g=>?_)
  ·exact g _ _ ((aR.trans c).trans b) ⟨_,_,rfl,⟨rfl,(show In .i64 (0:Int) by decide)⟩,⟨rfl,(show In .i64 (5:Int) by decide)⟩⟩
  exact aC.aU ((aR.trans c).trans b) (d.aD (e.trans f)) a n (CQ ((d.aD (e.trans f))).p8 _) g
 exact aC.aU ((aR.trans c).trans b) (d.aD (e.trans f)) a n (CQ ((d.aD (e.trans f))).p8 _) g
def v(a:Bool)(b:List Nat):(Int × Int):=F.v a b
theorem aU{Z:V}{a:Bool}{b:U}{c d:Nat}{e:List Nat}(f:bJ Z b c e)(g:d=e.length):aF id #[.agg #[.bool a,.slice b d c]] Z fun b c=>a4 Z c∧(s2 (c3 .i64) (c3 .i64)) Z c b (v a e):=
 ok (F.aU (a4.refl _) f g fun v A M O=>⟨M,O⟩)
end mM
namespace nC
def a7.v(cU:Bool)(a:List Nat)(b:Bool)(b:List Nat):(Int × Int):=
 ((e6 (val a) (val b)),(0:Int))
theorem a7.aU{Y:K}{aB Z:V}(aR:a4 aB Z){cU:Bool}{e:U}{f:Nat}{c:List Nat}(D:bJ Z e f c){a:Nat}(h:cR Z a [.bool cU,.slice e c.length f])(H:aB.size≤a){i:Bool}{j:U}{l:Nat}{d:List Nat}(E:bJ Z j l d){b:Nat}(m:cR Z b [.bool i,.slice j d.length l])(P:aB.size≤b)(K5:a ≠ b)(g:dS (s2 (c3 .i64) (c3 .i64)) aB Y (a7.v cU c i d)):a7.t Y (⟨a,0,none⟩:Addr) (⟨b,0,none⟩:Addr) Z:=by
 have K6:=h.lt
 have K7:=m.lt
 unfold a7.v at g
 unfold a7.t
 refine aI h (w _ _) rfl (k rfl ?_)
 refine aI m (w _ _) rfl (k rfl ?_)
 refine bF (hL.aU D rfl E rfl) fun v K8 ⟨n,O⟩=>?_
 obtain⟨rfl,G⟩:=O
 refine bI rfl (?_)
 have K9:=n.aD
 exact g _ _ (aR.trans n) ⟨_,_,rfl,⟨rfl,G⟩,⟨rfl,(show In .i64 (0:Int) by decide)⟩⟩
def aC.v(cU:Bool)(a:List Nat)(b:Bool)(c:List Nat):(Int × Int):=
 bif cU then
  bif (!b) then
   ((-1:Int),(0:Int))
  else
   bif (!cU) then
    bif b then
     ((1:Int),(0:Int))
    else
     bif cU then
      ((e6 (val c) (val a)),(0:Int))
     else
      a7.v cU a b c
   else
    bif cU then
     ((e6 (val c) (val a)),(0:Int))
    else
     a7.v cU a b c
 else
  bif (!cU) then
   bif b then
    ((1:Int),(0:Int))
   else
    bif cU then
     ((e6 (val c) (val a)),(0:Int))
    else
     a7.v cU a b c
  else
   bif cU then
    ((e6 (val c) (val a)),(0:Int))
   else
    a7.v cU a b c
theorem aC.aU{Y:K}{aB Z:V}(aR:a4 aB Z){cU:Bool}{G:U}{H:Nat}{m:List Nat}(d:bJ Z G H m){f:Nat}(a:cR Z f [.bool cU,.slice G m.length H])(h:aB.size≤f){P:Bool}{K5:U}{K6:Nat}{n:List Nat}(e:bJ Z K5 K6 n){i:Nat}(b:cR Z i [.bool P,.slice K5 n.length K6])(j:aB.size≤i)(l:f ≠ i)(g:dS (s2 (c3 .i64) (c3 .i64)) aB Y (aC.v cU m P n)):aC.t Y (⟨f,0,none⟩:Addr) (⟨i,0,none⟩:Addr) Z:=by
 have Ll:=a.lt
 have Lm:=b.lt
 unfold aC.v at g
 unfold aC.t
 refine aI a (w _ _) rfl (aO rfl ?_)
 refine iR g (fun K7 g=>?_) (fun K7 g=>?_)
 ·refine aI b (w _ _) rfl (aO rfl ?_)
  refine hH g (fun K8 g=>?_) (fun K8 g=>?_)
  ·exact g _ _ aR ⟨_,_,rfl,⟨rfl,(show In .i64 (-1:Int) by decide)⟩,⟨rfl,(show In .i64 (0:Int) by decide)⟩⟩
  refine aI a (w _ _) rfl (aO rfl ?_)
  refine hH g (fun K9 g=>?_) (fun K9 g=>?_)
  ·refine aI b (w _ _) rfl (aO rfl ?_)
   refine iR g (fun La g=>?_) (fun La g=>?_)
   ·exact g _ _ aR ⟨_,_,rfl,⟨rfl,(show In .i64 (1:Int) by decide)⟩,⟨rfl,(show In .i64 (0:Int) by decide)⟩⟩
   refine aI a (w _ _) rfl (aO rfl ?_)
   refine iR g (fun Lb g=>?_) (fun Lb g=>?_)
   ·refine aI b (w _ _) rfl (k rfl ?_)
    refine aI a (w _ _) rfl (k rfl ?_)
    refine bF (hL.aU e rfl d rfl) fun v D ⟨c,O⟩=>?_
    obtain⟨rfl,Lc⟩:=O
    refine bI rfl (?_)
    have E:=c.aD
    exact g _ _ (aR.trans c) ⟨_,_,rfl,⟨rfl,Lc⟩,⟨rfl,(show In .i64 (0:Int) by decide)⟩⟩
   exact a7.aU aR d a h e b j l g
  refine aI a (w _ _) rfl (aO rfl ?_)
  refine iR g (fun Ld g=>?_) (fun Ld g=>?_)
  ·refine aI b (w _ _) rfl (k rfl ?_)
   refine aI a (w _ _) rfl (k rfl ?_)
   refine bF (hL.aU e rfl d rfl) fun v D ⟨c,O⟩=>?_
   obtain⟨rfl,Le⟩:=O
   refine bI rfl (?_)
   have E:=c.aD
   exact g _ _ (aR.trans c) ⟨_,_,rfl,⟨rfl,Le⟩,⟨rfl,(show In .i64 (0:Int) by decide)⟩⟩
  exact a7.aU aR d a h e b j l g
 refine aI a (w _ _) rfl (aO rfl ?_)
 refine hH g (fun Lf g=>?_) (fun Lf g=>?_)
 ·refine aI b (w _ _) rfl (aO rfl ?_)
  refine iR g (fun Lg g=>?_) (fun Lg g=>?_)
  ·exact g _ _ aR ⟨_,_,rfl,⟨rfl,(show In .i64 (1:Int) by decide)⟩,⟨rfl,(show In .i64 (0:Int) by decide)⟩⟩
  refine aI a (w _ _) rfl (aO rfl ?_)
  refine iR g (fun Lh g=>?_) (fun Lh g=>?_)
  ·refine aI b (w _ _) rfl (k rfl ?_)
   refine aI a (w _ _) rfl (k rfl ?_)
   refine bF (hL.aU e rfl d rfl) fun v D ⟨c,O⟩=>?_
   obtain⟨rfl,Li⟩:=O
   refine bI rfl (?_)
   have E:=c.aD
   exact g _ _ (aR.trans c) ⟨_,_,rfl,⟨rfl,Li⟩,⟨rfl,(show In .i64 (0:Int) by decide)⟩⟩
  exact a7.aU aR d a h e b j l g
 refine aI a (w _ _) rfl (aO rfl ?_)
 refine iR g (fun Lj g=>?_) (fun Lj g=>?_)
 ·refine aI b (w _ _) rfl (k rfl ?_)
  refine aI a (w _ _) rfl (k rfl ?_)
  refine bF (hL.aU e rfl d rfl) fun v D ⟨c,O⟩=>?_
  obtain⟨rfl,Lk⟩:=O
  refine bI rfl (?_)
  have E:=c.aD
  exact g _ _ (aR.trans c) ⟨_,_,rfl,⟨rfl,Lk⟩,⟨rfl,(show In .i64 (0:Int) by decide)⟩⟩
 exact a7.aU aR d a h e b j l g
def F.v(a:Bool)(b:List Nat)(aT:Bool)(c:List Nat):(Int × Int):=
 bY (eQ.v a b) fun d=>
 bif (!d) then
  ((0:Int),(2:Int))
 else
  bY (eQ.v aT c) fun d=>
  bif (!d) then
   ((0:Int),(2:Int))
  else
   aC.v a b aT c
theorem F.aU{Y:K}{aB Z:V}(aR:a4 aB Z){m:Bool}{D:U}{E G:Nat}{h:List Nat}(H:bJ Z D E h)(Lb:G=h.length){aT:Bool}{P:U}{K5 K6:Nat}{i:List Nat}(K7:bJ Z P K5 i)(Lc:K6=i.length)(g:dS (s2 (c3 .i64) (c3 .i64)) aB Y (F.v m h aT i)):F.t Y m D G E aT P K6 K5 Z:=by
 subst Lb Lc
 unfold F.v at g
 unfold F.t
 refine cK fun Li a d=>?_
 have Ld:=aR.le
 have Le:=a.lt
 have j:=d.aD
 refine cK fun Lj b e=>?_
 have Lf:=(aR.trans d).le
 have Lk:=b.lt
 have l:=e.aD
 have a:=(a.B e)
 refine aI a (w _ _) rfl (aO rfl ?_)
 refine aI a (w _ _) rfl (k rfl ?_)
 refine bF (eQ.aU (H.aD (j.trans l)) rfl) fun v Ll ⟨c,O⟩=>?_
 obtain⟨Lm,K8⟩:∃ z,z=eQ.v m h:=⟨_,rfl⟩
 rw [← K8] at O
 replace g:=cC K8 g
 obtain rfl:=O
 refine aO rfl (?_)
 have n:=c.aD
 refine hH g (fun Lg g=>?_) (fun Lg g=>?_)
 ·exact g _ _ (((aR.trans d).trans e).trans c) ⟨_,_,rfl,⟨rfl,(show In .i64 (0:Int) by decide)⟩,⟨rfl,(show In .i64 (2:Int) by decide)⟩⟩
 have b:=(b.B c)
 refine aI b (w _ _) rfl (aO rfl ?_)
 refine aI b (w _ _) rfl (k rfl ?_)
 refine bF (eQ.aU (K7.aD (j.trans (l.trans n))) rfl) fun v Ln ⟨f,O⟩=>?_
 obtain⟨Lo,K9⟩:∃ z,z=eQ.v aT i:=⟨_,rfl⟩
 rw [← K9] at O
 replace g:=cC K9 g
 obtain rfl:=O
 refine aO rfl (?_)
 have La:=f.aD
 refine hH g (fun Lh g=>?_) (fun Lh g=>?_)
 ·exact g _ _ ((((aR.trans d).trans e).trans c).trans f) ⟨_,_,rfl,⟨rfl,(show In .i64 (0:Int) by decide)⟩,⟨rfl,(show In .i64 (2:Int) by decide)⟩⟩
 have a:=((a.B c).B f)
 have b:=(b.B f)
 exact aC.aU ((((aR.trans d).trans e).trans c).trans f) (H.aD (j.trans (l.trans (n.trans La)))) a Ld (K7.aD (j.trans (l.trans (n.trans La)))) b Lf (Nat.ne_of_lt Le) g
def v(a:Bool)(b:List Nat)(aT:Bool)(c:List Nat):(Int × Int):=F.v a b aT c
theorem aU{Z:V}{a:Bool}{b:U}{c d:Nat}{e:List Nat}(f:bJ Z b c e)(g:d=e.length){aT:Bool}{h:U}{i j:Nat}{l:List Nat}(m:bJ Z h i l)(n:j=l.length):aF id #[.agg #[.bool a,.slice b d c],.agg #[.bool aT,.slice h j i]] Z fun b c=>a4 Z c∧(s2 (c3 .i64) (c3 .i64)) Z c b (v a e aT l):=
 ok (F.aU (a4.refl _) f g m n fun v A M O=>⟨M,O⟩)
end nC
namespace oL
def F.v(a:Bool)(b:List Nat):((Bool × List Nat) × Int):=
 bY (eQ.v a b) fun c=>
 bif (!c) then
  ((false,([]:List Nat)),(2:Int))
 else
  bY (eS (val b)) fun b=>
  bY (h1 (!a) (b.1,b.2)) fun a=>
  ((a.1.1,a.1.2),a.2)
theorem F.aU{Y:K}{aB Z:V}(aR:a4 aB Z){j:Bool}{m:U}{n D:Nat}{e:List Nat}(E:bJ Z m n e)(K8:D=e.length)(g:dS (s2 dZ (c3 .i64)) aB Y (F.v j e)):F.t Y j m D n Z:=by
 subst K8
 unfold F.v at g
 unfold F.t
 refine cK fun Ln b f=>?_
 have Lo:=aR.le
 have Lp:=b.lt
 have G:=f.aD
 refine cK fun Lq a h=>?_
 have l:=(aR.trans f).le
 have Lr:=a.lt
 have H:=h.aD
 have b:=(b.B h)
 refine aI b (w _ _) rfl (aO rfl ?_)
 refine aI b (w _ _) rfl (k rfl ?_)
 refine bF (eQ.aU (E.aD (G.trans H)) rfl) fun v Ls ⟨c,O⟩=>?_
 obtain⟨Lt,P⟩:∃ z,z=eQ.v j e:=⟨_,rfl⟩
 rw [← P] at O
 replace g:=cC P g
 obtain rfl:=O
 refine aO rfl (?_)
 have K9:=c.aD
 refine hH g (fun La g=>?_) (fun La g=>?_)
 ·have a:=(a.B c)
  refine bK a (w _ _) rfl fun Lb a d Lc=>?_
  refine bK a (w _ _) rfl fun Ld a i Le=>?_
  refine aI a (w _ _) rfl (aO rfl ?_)
  refine aI a (w _ _) rfl (k rfl ?_)
  exact g _ _ (a1.B (a1.B (((aR.trans f).trans h).trans c) d l) i l) ⟨_,_,rfl,⟨_,_,rfl,(cN.nil _ _)⟩,⟨rfl,(show In .i64 (2:Int) by decide)⟩⟩
 have b:=(b.B c)
 refine aI b (w _ _) rfl (k rfl ?_)
 refine bF (nV.aU (E.aD (G.trans (H.trans K9))) rfl) fun v Lb ⟨d,O⟩=>?_
 obtain⟨K5,K6⟩:∃ z,z=eS (val e):=⟨_,rfl⟩
 rw [← K6] at O
 replace g:=cC K6 g
 obtain⟨_,_,rfl,⟨Lu,Lv,rfl,Lf⟩,⟨rfl,Lg⟩⟩:=O
 refine dP rfl (aM (k rfl (aM (bI rfl (bP (?_))))))
 have Lc:=d.aD
 have b:=(b.B d)
 refine aI b (w _ _) rfl (aO rfl ?_)
 refine bF (jF.dJ (Lf.from (((aR.trans f).trans h).trans c).le) rfl Lg) fun v Ld ⟨i,O⟩=>?_
 obtain⟨Lw,K7⟩:∃ z,z=h1 (!j) (K5.1,K5.2):=⟨_,rfl⟩
 rw [← K7] at O
 replace g:=cC K7 g
 obtain⟨_,_,rfl,⟨Lx,Ly,rfl,Lh⟩,⟨rfl,Li⟩⟩:=O
 refine dP rfl (aM (bZ rfl (aM (aO rfl (aM (k rfl (bP (aM (bI rfl (bP (?_)))))))))))
 have Le:=i.aD
 have a:=(((a.B c).B d).B i)
 refine bK a (w _ _) rfl fun Lz a Lj Lk=>?_
 refine bK a (w _ _) rfl fun LA a Ll Lm=>?_
 refine aI a (w _ _) rfl (aO rfl ?_)
 refine aI a (w _ _) rfl (k rfl ?_)
 exact g _ _ (a1.B (a1.B (((((aR.trans f).trans h).trans c).trans d).trans i) Lj l) Ll l) ⟨_,_,rfl,⟨_,_,rfl,(Lh.aD (Lk.trans Lm))⟩,⟨rfl,Li⟩⟩
def v(a:Bool)(b:List Nat):((Bool × List Nat) × Int):=F.v a b
theorem aU{Z:V}{a:Bool}{b:U}{c d:Nat}{e:List Nat}(f:bJ Z b c e)(g:d=e.length):aF id #[.agg #[.bool a,.slice b d c]] Z fun b c=>a4 Z c∧(s2 dZ (c3 .i64)) Z c b (v a e):=
 ok (F.aU (a4.refl _) f g fun v A M O=>⟨M,O⟩)
end oL
namespace kQ
def a7.v(cU:Bool)(a:List Nat)(b:Bool)(b:List Nat)(c:Bool)(c:List Nat):((Bool × List Nat) × Int):=
 bY (lH a b) fun a=>
 bY (h1 cU (a.1,a.2)) fun a=>
 ((a.1.1,a.1.2),a.2)
theorem a7.aU{Y:K}{aB Z:V}(aR:a4 aB Z){cU:Bool}{l:U}{m:Nat}{e:List Nat}(La:bJ Z l m e){b:Nat}(c:cR Z b [.bool cU,.slice l e.length m])(Lk:aB.size≤b){n:Bool}{D:U}{E:Nat}{f:List Nat}(Lb:bJ Z D E f){d:Nat}(G:cR Z d [.bool n,.slice D f.length E])(Ll:aB.size≤d){H:Bool}{P:U}{K5:Nat}{i:List Nat}(Lm:cN dQ aB Z P K5 i){dT:Nat}(a:cR Z dT [.bool H,.slice P i.length K5])(K6:aB.size≤dT)(Ln:b ≠ d)(Lo:b ≠ dT)(Lp:d ≠ dT)(g:dS (s2 dZ (c3 .i64)) aB Y (a7.v cU e n f H i)):a7.t Y (⟨b,0,none⟩:Addr) (⟨d,0,none⟩:Addr) (⟨dT,0,none⟩:Addr) Z:=by
 have Lq:=c.lt
 have Lr:=G.lt
 have Ls:=a.lt
 unfold a7.v at g
 unfold a7.t
 refine aI c (w _ _) rfl (k rfl ?_)
 refine aI G (w _ _) rfl (k rfl ?_)
 refine bF (jS.aU La rfl Lb rfl) fun v Lt ⟨h,O⟩=>?_
 obtain⟨K7,K8⟩:∃ z,z=lH e f:=⟨_,rfl⟩
 rw [← K8] at O
 replace g:=cC K8 g
 obtain⟨_,_,rfl,⟨Lu,Lv,rfl,Lc⟩,⟨rfl,Ld⟩⟩:=O
 refine dP rfl (aM (k rfl (aM (bI rfl (bP (?_))))))
 have Lw:=h.aD
 have c:=(c.B h)
 refine aI c (w _ _) rfl (aO rfl ?_)
 refine bF (jF.dJ (Lc.from aR.le) rfl Ld) fun v Lx ⟨j,O⟩=>?_
 obtain⟨Ly,K9⟩:∃ z,z=h1 cU (K7.1,K7.2):=⟨_,rfl⟩
 rw [← K9] at O
 replace g:=cC K9 g
 obtain⟨_,_,rfl,⟨Lz,LA,rfl,Le⟩,⟨rfl,Lf⟩⟩:=O
 refine dP rfl (aM (bZ rfl (aM (aO rfl (aM (k rfl (bP (aM (bI rfl (bP (?_)))))))))))
 have LB:=j.aD
 have a:=((a.B h).B j)
 refine bK a (w _ _) rfl fun LC a Lg Lh=>?_
 refine bK a (w _ _) rfl fun LD a Li Lj=>?_
 refine aI a (w _ _) rfl (aO rfl ?_)
 refine aI a (w _ _) rfl (k rfl ?_)
 exact g _ _ (a1.B (a1.B ((aR.trans h).trans j) Lg K6) Li K6) ⟨_,_,rfl,⟨_,_,rfl,(Le.aD (Lh.trans Lj))⟩,⟨rfl,Lf⟩⟩
def aC.v(cU:Bool)(a:List Nat)(b:Bool)(c:List Nat)(d:Bool)(e:List Nat):((Bool × List Nat) × Int):=
 bif (cU == b) then
  bY (qH a c) fun f=>
  bY (h1 cU (f.1,f.2)) fun f=>
  ((f.1.1,f.1.2),f.2)
 else
  bif (decide (((e6 (val a) (val c))) < (0:Int))) then
   a7.v b c cU a d e
  else
   a7.v cU a b c d e
theorem aC.aU{Y:K}{aB Z:V}(aR:a4 aB Z){cU:Bool}{Le:U}{Lf:Nat}{E:List Nat}(G:bJ Z Le Lf E){i:Nat}(a:cR Z i [.bool cU,.slice Le E.length Lf])(H:aB.size≤i){Lg:Bool}{Lh:U}{Li:Nat}{P:List Nat}(K5:bJ Z Lh Li P){j:Nat}(b:cR Z j [.bool Lg,.slice Lh P.length Li])(K6:aB.size≤j){Lj:Bool}{Lk:U}{Ll:Nat}{Lb:List Nat}(Lm:cN dQ aB Z Lk Ll Lb){dT:Nat}(c:cR Z dT [.bool Lj,.slice Lk Lb.length Ll])(K7:aB.size≤dT)(h:i ≠ j)(K8:i ≠ dT)(K9:j ≠ dT)(g:dS (s2 dZ (c3 .i64)) aB Y (aC.v cU E Lg P Lj Lb)):aC.t Y (⟨i,0,none⟩:Addr) (⟨j,0,none⟩:Addr) (⟨dT,0,none⟩:Addr) Z:=by
 have LA:=a.lt
 have LB:=b.lt
 have LC:=c.lt
 unfold aC.v at g
 unfold aC.t
 refine aI a (w _ _) rfl (aO rfl ?_)
 refine aI b (w _ _) rfl (aO rfl ?_)
 refine iR g (fun Lq g=>?_) (fun Lq g=>?_)
 ·refine aI a (w _ _) rfl (k rfl ?_)
  refine aI b (w _ _) rfl (k rfl ?_)
  refine bF (jR.aU G rfl K5 rfl) fun v Lr ⟨d,O⟩=>?_
  obtain⟨Ln,Lo⟩:∃ z,z=qH E P:=⟨_,rfl⟩
  rw [← Lo] at O
  replace g:=cC Lo g
  obtain⟨_,_,rfl,⟨LD,LF,rfl,Ls⟩,⟨rfl,Lt⟩⟩:=O
  refine dP rfl (aM (k rfl (aM (bI rfl (bP (?_))))))
  have e:=d.aD
  have a:=(a.B d)
  refine aI a (w _ _) rfl (aO rfl ?_)
  refine bF (jF.dJ (Ls.from aR.le) rfl Lt) fun v Lu ⟨f,O⟩=>?_
  obtain⟨LG,Lp⟩:∃ z,z=h1 cU (Ln.1,Ln.2):=⟨_,rfl⟩
  rw [← Lp] at O
  replace g:=cC Lp g
  obtain⟨_,_,rfl,⟨LH,LI,rfl,Lv⟩,⟨rfl,Lw⟩⟩:=O
  refine dP rfl (aM (bZ rfl (aM (aO rfl (aM (k rfl (bP (aM (bI rfl (bP (?_)))))))))))
  have La:=f.aD
  have c:=((c.B d).B f)
  refine bK c (w _ _) rfl fun Lx c l m=>?_
  refine bK c (w _ _) rfl fun Ly c n D=>?_
  refine aI c (w _ _) rfl (aO rfl ?_)
  refine aI c (w _ _) rfl (k rfl ?_)
  exact g _ _ (a1.B (a1.B ((aR.trans d).trans f) l K7) n K7) ⟨_,_,rfl,⟨_,_,rfl,(Lv.aD (m.trans D))⟩,⟨rfl,Lw⟩⟩
 refine aI a (w _ _) rfl (k rfl ?_)
 refine aI b (w _ _) rfl (k rfl ?_)
 refine bF (hL.aU G rfl K5 rfl) fun v Lr ⟨d,O⟩=>?_
 obtain⟨rfl,LJ⟩:=O
 refine bI rfl (?_)
 have e:=d.aD
 refine jC g (fun Lz g=>?_) (fun Lz g=>?_)
 ·have b:=(b.B d)
  refine aI b (w _ _) rfl (aO rfl ?_)
  refine aI b (w _ _) rfl (k rfl ?_)
  have a:=(a.B d)
  refine aI a (w _ _) rfl (aO rfl ?_)
  refine aI a (w _ _) rfl (k rfl ?_)
  refine bK a (w _ _) rfl fun Lu a f La=>?_
  refine bK a (w _ _) rfl fun Lx a l m=>?_
  have b:=((b.bT (Ne.symm h) f).bT (Ne.symm h) l)
  refine bK b (w _ _) rfl fun Ly b n D=>?_
  refine bK b (w _ _) rfl fun LK b Lc Ld=>?_
  have a:=((a.bT h n).bT h Lc)
  have c:=(((((c.B d).bT (Ne.symm K8) f).bT (Ne.symm K8) l).bT (Ne.symm K9) n).bT (Ne.symm K9) Lc)
  exact a7.aU (a1.B (a1.B (a1.B (a1.B (aR.trans d) f H) l H) n K6) Lc K6) (K5.aD (e.trans (La.trans (m.trans (D.trans Ld))))) a H (G.aD (e.trans (La.trans (m.trans (D.trans Ld))))) b K6 (Lm.aD (e.trans (La.trans (m.trans (D.trans Ld))))) c K7 h K8 K9 g
 have a:=(a.B d)
 have b:=(b.B d)
 have c:=(c.B d)
 exact a7.aU (aR.trans d) (G.aD (e)) a H (K5.aD (e)) b K6 (Lm.aD (e)) c K7 h K8 K9 g
def F.v(a:Bool)(b:List Nat)(aT:Bool)(c:List Nat):((Bool × List Nat) × Int):=
 bY (eQ.v a b) fun d=>
 bif (!d) then
  ((false,([]:List Nat)),(2:Int))
 else
  bY (eQ.v aT c) fun d=>
  bif (!d) then
   ((false,([]:List Nat)),(2:Int))
  else
   aC.v a b aT c false ([]:List Nat)
theorem F.aU{Y:K}{aB Z:V}(aR:a4 aB Z){G:Bool}{K6:U}{K7 K8:Nat}{m:List Nat}(K9:bJ Z K6 K7 m)(Lh:K8=m.length){aT:Bool}{La:U}{Lb Lc:Nat}{n:List Nat}(Ld:bJ Z La Lb n)(Li:Lc=n.length)(g:dS (s2 dZ (c3 .i64)) aB Y (F.v G m aT n)):F.t Y G K6 K8 K7 aT La Lc Lb Z:=by
 subst Lh Li
 unfold F.v at g
 unfold F.t
 refine cK fun Ls d f=>?_
 have Lj:=aR.le
 have Le:=d.lt
 have D:=f.aD
 refine cK fun Lt e h=>?_
 have Lk:=(aR.trans f).le
 have Ll:=e.lt
 have j:=h.aD
 refine cK fun Lu a i=>?_
 have l:=((aR.trans f).trans h).le
 have Lv:=a.lt
 have E:=i.aD
 have d:=((d.B h).B i)
 refine aI d (w _ _) rfl (aO rfl ?_)
 refine aI d (w _ _) rfl (k rfl ?_)
 refine bF (eQ.aU (K9.aD (D.trans (j.trans E))) rfl) fun v Lw ⟨b,O⟩=>?_
 obtain⟨Lx,Lf⟩:∃ z,z=eQ.v G m:=⟨_,rfl⟩
 rw [← Lf] at O
 replace g:=cC Lf g
 obtain rfl:=O
 refine aO rfl (?_)
 have H:=b.aD
 refine hH g (fun Lm g=>?_) (fun Lm g=>?_)
 ·have a:=(a.B b)
  refine bK a (w _ _) rfl fun Ln a c P=>?_
  refine bK a (w _ _) rfl fun Lo a K5 Lp=>?_
  refine aI a (w _ _) rfl (aO rfl ?_)
  refine aI a (w _ _) rfl (k rfl ?_)
  exact g _ _ (a1.B (a1.B ((((aR.trans f).trans h).trans i).trans b) c l) K5 l) ⟨_,_,rfl,⟨_,_,rfl,(cN.nil _ _)⟩,⟨rfl,(show In .i64 (2:Int) by decide)⟩⟩
 have e:=((e.B i).B b)
 refine aI e (w _ _) rfl (aO rfl ?_)
 refine aI e (w _ _) rfl (k rfl ?_)
 refine bF (eQ.aU (Ld.aD (D.trans (j.trans (E.trans H)))) rfl) fun v Ln ⟨c,O⟩=>?_
 obtain⟨Ly,Lg⟩:∃ z,z=eQ.v aT n:=⟨_,rfl⟩
 rw [← Lg] at O
 replace g:=cC Lg g
 obtain rfl:=O
 refine aO rfl (?_)
 have P:=c.aD
 refine hH g (fun Lq g=>?_) (fun Lq g=>?_)
 ·have a:=((a.B b).B c)
  refine bK a (w _ _) rfl fun Lo a K5 Lp=>?_
  refine bK a (w _ _) rfl fun Lz a Lr LA=>?_
  refine aI a (w _ _) rfl (aO rfl ?_)
  refine aI a (w _ _) rfl (k rfl ?_)
  exact g _ _ (a1.B (a1.B (((((aR.trans f).trans h).trans i).trans b).trans c) K5 l) Lr l) ⟨_,_,rfl,⟨_,_,rfl,(cN.nil _ _)⟩,⟨rfl,(show In .i64 (2:Int) by decide)⟩⟩
 have d:=((d.B b).B c)
 have e:=(e.B c)
 have a:=((a.B b).B c)
 exact aC.aU (((((aR.trans f).trans h).trans i).trans b).trans c) (K9.aD (D.trans (j.trans (E.trans (H.trans P))))) d Lj (Ld.aD (D.trans (j.trans (E.trans (H.trans P))))) e Lk (cN.nil _ _) a l (Nat.ne_of_lt Le) (Nat.ne_of_lt ((j).lt Le)) (Nat.ne_of_lt Ll) g
def v(a:Bool)(b:List Nat)(aT:Bool)(c:List Nat):((Bool × List Nat) × Int):=F.v a b aT c
theorem aU{Z:V}{a:Bool}{b:U}{c d:Nat}{e:List Nat}(f:bJ Z b c e)(g:d=e.length){aT:Bool}{h:U}{i j:Nat}{l:List Nat}(m:bJ Z h i l)(n:j=l.length):aF id #[.agg #[.bool a,.slice b d c],.agg #[.bool aT,.slice h j i]] Z fun b c=>a4 Z c∧(s2 dZ (c3 .i64)) Z c b (v a e aT l):=
 ok (F.aU (a4.refl _) f g m n fun v A M O=>⟨M,O⟩)
end kQ
namespace kR
def aC.v(cU:Bool)(a:List Nat)(b:Bool)(c:List Nat)(d:Bool)(d:List Nat):((Bool × List Nat) × Int):=
 bY (q9 a c) fun a=>
 bY (h1 ((!(cU == b))) (a.1,a.2)) fun a=>
 ((a.1.1,a.1.2),a.2)
theorem aC.aU{Y:K}{aB Z:V}(aR:a4 aB Z){cU:Bool}{n:U}{D:Nat}{h:List Nat}(La:bJ Z n D h){b:Nat}(c:cR Z b [.bool cU,.slice n h.length D])(Lk:aB.size≤b){j:Bool}{E:U}{G:Nat}{i:List Nat}(Lb:bJ Z E G i){d:Nat}(e:cR Z d [.bool j,.slice E i.length G])(Ll:aB.size≤d){H:Bool}{P:U}{K5:Nat}{l:List Nat}(Lm:cN dQ aB Z P K5 l){dT:Nat}(a:cR Z dT [.bool H,.slice P l.length K5])(K6:aB.size≤dT)(Ln:b ≠ d)(Lo:b ≠ dT)(Lp:d ≠ dT)(g:dS (s2 dZ (c3 .i64)) aB Y (aC.v cU h j i H l)):aC.t Y (⟨b,0,none⟩:Addr) (⟨d,0,none⟩:Addr) (⟨dT,0,none⟩:Addr) Z:=by
 have Lq:=c.lt
 have Lr:=e.lt
 have Ls:=a.lt
 unfold aC.v at g
 unfold aC.t
 refine aI c (w _ _) rfl (k rfl ?_)
 refine aI e (w _ _) rfl (k rfl ?_)
 refine bF (pJ.aU La rfl Lb rfl) fun v Lt ⟨f,O⟩=>?_
 obtain⟨K7,K8⟩:∃ z,z=q9 h i:=⟨_,rfl⟩
 rw [← K8] at O
 replace g:=cC K8 g
 obtain⟨_,_,rfl,⟨Lu,Lv,rfl,Lc⟩,⟨rfl,Ld⟩⟩:=O
 refine dP rfl (aM (k rfl (aM (bI rfl (bP (?_))))))
 have Lw:=f.aD
 have c:=(c.B f)
 refine aI c (w _ _) rfl (aO rfl ?_)
 have e:=(e.B f)
 refine aI e (w _ _) rfl (aO rfl ?_)
 refine bF (jF.dJ (Lc.from aR.le) rfl Ld) fun v Lx ⟨m,O⟩=>?_
 obtain⟨Ly,K9⟩:∃ z,z=h1 ((!(cU == j))) (K7.1,K7.2):=⟨_,rfl⟩
 rw [← K9] at O
 replace g:=cC K9 g
 obtain⟨_,_,rfl,⟨Lz,LA,rfl,Le⟩,⟨rfl,Lf⟩⟩:=O
 refine dP rfl (aM (bZ rfl (aM (aO rfl (aM (k rfl (bP (aM (bI rfl (bP (?_)))))))))))
 have LB:=m.aD
 have a:=((a.B f).B m)
 refine bK a (w _ _) rfl fun LC a Lg Lh=>?_
 refine bK a (w _ _) rfl fun LD a Li Lj=>?_
 refine aI a (w _ _) rfl (aO rfl ?_)
 refine aI a (w _ _) rfl (k rfl ?_)
 exact g _ _ (a1.B (a1.B ((aR.trans f).trans m) Lg K6) Li K6) ⟨_,_,rfl,⟨_,_,rfl,(Le.aD (Lh.trans Lj))⟩,⟨rfl,Lf⟩⟩
def F.v(a:Bool)(b:List Nat)(aT:Bool)(c:List Nat):((Bool × List Nat) × Int):=
 bY (eQ.v a b) fun d=>
 bif (!d) then
  ((false,([]:List Nat)),(2:Int))
 else
  bY (eQ.v aT c) fun d=>
  bif (!d) then
   ((false,([]:List Nat)),(2:Int))
  else
   aC.v a b aT c false ([]:List Nat)
theorem F.aU{Y:K}{aB Z:V}(aR:a4 aB Z){G:Bool}{K6:U}{K7 K8:Nat}{m:List Nat}(K9:bJ Z K6 K7 m)(Lh:K8=m.length){aT:Bool}{La:U}{Lb Lc:Nat}{n:List Nat}(Ld:bJ Z La Lb n)(Li:Lc=n.length)(g:dS (s2 dZ (c3 .i64)) aB Y (F.v G m aT n)):F.t Y G K6 K8 K7 aT La Lc Lb Z:=by
 subst Lh Li
 unfold F.v at g
 unfold F.t
 refine cK fun Ls d f=>?_
 have Lj:=aR.le
 have Le:=d.lt
 have D:=f.aD
 refine cK fun Lt e h=>?_
 have Lk:=(aR.trans f).le
 have Ll:=e.lt
 have j:=h.aD
 refine cK fun Lu a i=>?_
 have l:=((aR.trans f).trans h).le
 have Lv:=a.lt
 have E:=i.aD
 have d:=((d.B h).B i)
 refine aI d (w _ _) rfl (aO rfl ?_)
 refine aI d (w _ _) rfl (k rfl ?_)
 refine bF (eQ.aU (K9.aD (D.trans (j.trans E))) rfl) fun v Lw ⟨b,O⟩=>?_
 obtain⟨Lx,Lf⟩:∃ z,z=eQ.v G m:=⟨_,rfl⟩
 rw [← Lf] at O
 replace g:=cC Lf g
 obtain rfl:=O
 refine aO rfl (?_)
 have H:=b.aD
 refine hH g (fun Lm g=>?_) (fun Lm g=>?_)
 ·have a:=(a.B b)
  refine bK a (w _ _) rfl fun Ln a c P=>?_
  refine bK a (w _ _) rfl fun Lo a K5 Lp=>?_
  refine aI a (w _ _) rfl (aO rfl ?_)
  refine aI a (w _ _) rfl (k rfl ?_)
  exact g _ _ (a1.B (a1.B ((((aR.trans f).trans h).trans i).trans b) c l) K5 l) ⟨_,_,rfl,⟨_,_,rfl,(cN.nil _ _)⟩,⟨rfl,(show In .i64 (2:Int) by decide)⟩⟩
 have e:=((e.B i).B b)
 refine aI e (w _ _) rfl (aO rfl ?_)
 refine aI e (w _ _) rfl (k rfl ?_)
 refine bF (eQ.aU (Ld.aD (D.trans (j.trans (E.trans H)))) rfl) fun v Ln ⟨c,O⟩=>?_
 obtain⟨Ly,Lg⟩:∃ z,z=eQ.v aT n:=⟨_,rfl⟩
 rw [← Lg] at O
 replace g:=cC Lg g
 obtain rfl:=O
 refine aO rfl (?_)
 have P:=c.aD
 refine hH g (fun Lq g=>?_) (fun Lq g=>?_)
 ·have a:=((a.B b).B c)
  refine bK a (w _ _) rfl fun Lo a K5 Lp=>?_
  refine bK a (w _ _) rfl fun Lz a Lr LA=>?_
  refine aI a (w _ _) rfl (aO rfl ?_)
  refine aI a (w _ _) rfl (k rfl ?_)
  exact g _ _ (a1.B (a1.B (((((aR.trans f).trans h).trans i).trans b).trans c) K5 l) Lr l) ⟨_,_,rfl,⟨_,_,rfl,(cN.nil _ _)⟩,⟨rfl,(show In .i64 (2:Int) by decide)⟩⟩
 have d:=((d.B b).B c)
 have e:=(e.B c)
 have a:=((a.B b).B c)
 exact aC.aU (((((aR.trans f).trans h).trans i).trans b).trans c) (K9.aD (D.trans (j.trans (E.trans (H.trans P))))) d Lj (Ld.aD (D.trans (j.trans (E.trans (H.trans P))))) e Lk (cN.nil _ _) a l (Nat.ne_of_lt Le) (Nat.ne_of_lt ((j).lt Le)) (Nat.ne_of_lt Ll) g
def v(a:Bool)(b:List Nat)(aT:Bool)(c:List Nat):((Bool × List Nat) × Int):=F.v a b aT c
theorem aU{Z:V}{a:Bool}{b:U}{c d:Nat}{e:List Nat}(f:bJ Z b c e)(g:d=e.length){aT:Bool}{h:U}{i j:Nat}{l:List Nat}(m:bJ Z h i l)(n:j=l.length):aF id #[.agg #[.bool a,.slice b d c],.agg #[.bool aT,.slice h j i]] Z fun b c=>a4 Z c∧(s2 dZ (c3 .i64)) Z c b (v a e aT l):=
 ok (F.aU (a4.refl _) f g m n fun v A M O=>⟨M,O⟩)
end kR
namespace oM
def F.v(a:Bool)(b:List Nat)(aQ:Int):((Bool × List Nat) × Int):=
 bif (decide (aQ < (0:Int))) then
  ((false,([]:List Nat)),(1:Int))
 else
  bY (eQ.v a b) fun c=>
  bif (!c) then
   ((false,([]:List Nat)),(2:Int))
  else
   bY (r4 b aQ) fun b=>
   bY (h1 a (b.1,b.2)) fun a=>
   ((a.1.1,a.1.2),a.2)
theorem F.aU{Y:K}{aB Z:V}(aR:a4 aB Z){l:Bool}{m:U}{n D:Nat}{i:List Nat}(E:bJ Z m n i)(Lb:D=i.length){aQ:Int}(Lc:In .i64 aQ)(g:dS (s2 dZ (c3 .i64)) aB Y (F.v l i aQ)):F.t Y l m D n aQ Z:=by
 subst Lb
 unfold F.v at g
 unfold F.t
 refine cK fun Lq b e=>?_
 have Lr:=aR.le
 have Ls:=b.lt
 have G:=e.aD
 refine cK fun Lt a f=>?_
 have h:=(aR.trans e).le
 have Lu:=a.lt
 have H:=f.aD
 refine jC g (fun Ld g=>?_) (fun Ld g=>?_)
 ·refine bK a (w _ _) rfl fun Le a c P=>?_
  refine bK a (w _ _) rfl fun K5 a d K6=>?_
  refine aI a (w _ _) rfl (aO rfl ?_)
  refine aI a (w _ _) rfl (k rfl ?_)
  exact g _ _ (a1.B (a1.B ((aR.trans e).trans f) c h) d h) ⟨_,_,rfl,⟨_,_,rfl,(cN.nil _ _)⟩,⟨rfl,(show In .i64 (1:Int) by decide)⟩⟩
 have b:=(b.B f)
 refine aI b (w _ _) rfl (aO rfl ?_)
 refine aI b (w _ _) rfl (k rfl ?_)
 refine bF (eQ.aU (E.aD (G.trans H)) rfl) fun v Le ⟨c,O⟩=>?_
 obtain⟨Lv,K7⟩:∃ z,z=eQ.v l i:=⟨_,rfl⟩
 rw [← K7] at O
 replace g:=cC K7 g
 obtain rfl:=O
 refine aO rfl (?_)
 have P:=c.aD
 refine hH g (fun Lf g=>?_) (fun Lf g=>?_)
 ·have a:=(a.B c)
  refine bK a (w _ _) rfl fun K5 a d K6=>?_
  refine bK a (w _ _) rfl fun Lg a j Lh=>?_
  refine aI a (w _ _) rfl (aO rfl ?_)
  refine aI a (w _ _) rfl (k rfl ?_)
  exact g _ _ (a1.B (a1.B (((aR.trans e).trans f).trans c) d h) j h) ⟨_,_,rfl,⟨_,_,rfl,(cN.nil _ _)⟩,⟨rfl,(show In .i64 (2:Int) by decide)⟩⟩
 have b:=(b.B c)
 refine aI b (w _ _) rfl (k rfl ?_)
 refine bF (lI.aU (E.aD (G.trans (H.trans P))) rfl Lc) fun v K5 ⟨d,O⟩=>?_
 obtain⟨K8,K9⟩:∃ z,z=r4 i aQ:=⟨_,rfl⟩
 rw [← K9] at O
 replace g:=cC K9 g
 obtain⟨_,_,rfl,⟨Lw,Lx,rfl,Li⟩,⟨rfl,Lj⟩⟩:=O
 refine dP rfl (aM (k rfl (aM (bI rfl (bP (?_))))))
 have K6:=d.aD
 have b:=(b.B d)
 refine aI b (w _ _) rfl (aO rfl ?_)
 refine bF (jF.dJ (Li.from (((aR.trans e).trans f).trans c).le) rfl Lj) fun v Lg ⟨j,O⟩=>?_
 obtain⟨Ly,La⟩:∃ z,z=h1 l (K8.1,K8.2):=⟨_,rfl⟩
 rw [← La] at O
 replace g:=cC La g
 obtain⟨_,_,rfl,⟨Lz,LA,rfl,Lk⟩,⟨rfl,Ll⟩⟩:=O
 refine dP rfl (aM (bZ rfl (aM (aO rfl (aM (k rfl (bP (aM (bI rfl (bP (?_)))))))))))
 have Lh:=j.aD
 have a:=(((a.B c).B d).B j)
 refine bK a (w _ _) rfl fun LB a Lm Ln=>?_
 refine bK a (w _ _) rfl fun LC a Lo Lp=>?_
 refine aI a (w _ _) rfl (aO rfl ?_)
 refine aI a (w _ _) rfl (k rfl ?_)
 exact g _ _ (a1.B (a1.B (((((aR.trans e).trans f).trans c).trans d).trans j) Lm h) Lo h) ⟨_,_,rfl,⟨_,_,rfl,(Lk.aD (Ln.trans Lp))⟩,⟨rfl,Ll⟩⟩
def v(a:Bool)(b:List Nat)(aQ:Int):((Bool × List Nat) × Int):=F.v a b aQ
theorem aU{Z:V}{a:Bool}{b:U}{c d:Nat}{e:List Nat}(f:bJ Z b c e)(g:d=e.length){aQ:Int}(h:In .i64 aQ):aF id #[.agg #[.bool a,.slice b d c],.int .i64 aQ] Z fun b c=>a4 Z c∧(s2 dZ (c3 .i64)) Z c b (v a e aQ):=
 ok (F.aU (a4.refl _) f g h fun v A M O=>⟨M,O⟩)
end oM
namespace kS
def a7.v(a3:Int)(a:Bool)(b:List Nat)(b:Bool)(b:List Nat)(b:List Nat)(c:Bool)(d:Int):((Bool × List Nat) × Int):=
 bY (pO a3 a b c d) fun a=>
 ((a.1.1,a.1.2),a.2)
theorem a7.aU{Y:K}{aB Z:V}(aR:a4 aB Z){a3:Int}(K7:In .i64 a3){d:Bool}{j:U}{l:Nat}{e:List Nat}(Lh:bJ Z j l e){dT:Nat}(m:cR Z dT [.bool d,.slice j e.length l])(Li:aB.size≤dT){n:Bool}{D:U}{E:Nat}{f:List Nat}(Lj:cN dQ aB Z D E f){eP:Nat}(a:cR Z eP [.bool n,.slice D f.length E])(G:aB.size≤eP){H:U}{P K5:Nat}{b:List Nat}(K8:cN dQ aB Z H P b)(K9:K5=b.length){h:Bool}{c:Int}(La:In .i64 c)(Lk:dT ≠ eP)(dX:gK Z)(g:dS (s2 dZ (c3 .i64)) aB Y (a7.v a3 d e n f b h c)):a7.t Y a3 (⟨dT,0,none⟩:Addr) (⟨eP,0,none⟩:Addr) H K5 P h c Z:=by
 subst K9
 have Ll:=m.lt
 have Lm:=a.lt
 unfold a7.v at g
 unfold a7.t
 refine aI m (w _ _) rfl (aO rfl ?_)
 refine bF (pP.dJ aR.le K7 K8 rfl La) fun v Ln ⟨i,O⟩=>?_
 obtain⟨Lo,K6⟩:∃ z,z=pO a3 d b h c:=⟨_,rfl⟩
 rw [← K6] at O
 replace g:=cC K6 g
 obtain⟨_,_,rfl,⟨Lp,Lq,rfl,Lb⟩,⟨rfl,Lc⟩⟩:=O
 refine dP rfl (aM (bZ rfl (aM (aO rfl (aM (k rfl (bP (aM (bI rfl (bP (?_)))))))))))
 have Lr:=i.aD
 have a:=(a.B i)
 refine bK a (w _ _) rfl fun Ls a Ld Le=>?_
 refine bK a (w _ _) rfl fun Lt a Lf Lg=>?_
 refine aI a (w _ _) rfl (aO rfl ?_)
 refine aI a (w _ _) rfl (k rfl ?_)
 exact g _ _ (a1.B (a1.B (aR.trans i) Ld G) Lf G) ⟨_,_,rfl,⟨_,_,rfl,(Lb.aD (Le.trans Lg))⟩,⟨rfl,Lc⟩⟩
def aC.v(a3:Int)(a:Int)(b:Bool)(c:List Nat)(d:Bool)(e:List Nat)(f:List Nat)(g:Bool):((Bool × List Nat) × Int):=
 bif (jQ (val c) ((IntKind.i64.wrap (a - (1:Int)))) == 1) then
  bif (((((ctz (val c):Nat):Int))) == ((IntKind.i64.wrap (a - (1:Int))))) then
   a7.v a3 b c d e f g (0:Int)
  else
   a7.v a3 b c d e f g (1:Int)
 else
  a7.v a3 b c d e f g (-1:Int)
theorem aC.aU{Y:K}{aB Z:V}(aR:a4 aB Z){a3:Int}(i:In .i64 a3){j:Int}(Li:In .i64 j){K5:Bool}{K6:U}{K7:Nat}{l:List Nat}(h:bJ Z K6 K7 l){dT:Nat}(a:cR Z dT [.bool K5,.slice K6 l.length K7])(m:aB.size≤dT){K8:Bool}{K9:U}{La:Nat}{n:List Nat}(D:cN dQ aB Z K9 La n){eP:Nat}(c:cR Z eP [.bool K8,.slice K9 n.length La])(E:aB.size≤eP){Lb:U}{Lc Ld:Nat}{G:List Nat}(H:cN dQ aB Z Lb Lc G)(Lf:Ld=G.length){Le:Bool}(P:dT ≠ eP)(dX:gK Z)(g:dS (s2 dZ (c3 .i64)) aB Y (aC.v a3 j K5 l K8 n G Le)):aC.t Y a3 j (⟨dT,0,none⟩:Addr) (⟨eP,0,none⟩:Addr) Lb Ld Lc Le Z:=by
 subst Lf
 have Lj:=a.lt
 have Lk:=c.lt
 unfold aC.v at g
 unfold aC.t
 refine aI a (w _ _) rfl (k rfl ?_)
 refine g3 ?_
 refine bF (nX.aU h rfl (iS _ _)) fun v Ll ⟨d,O⟩=>?_
 obtain rfl:=O
 refine aO rfl (?_)
 have b:=d.aD
 refine iR g (fun Lg g=>?_) (fun Lg g=>?_)
 ·have a:=(a.B d)
  refine aI a (w _ _) rfl (k rfl ?_)
  refine bF (kN.aU (h.aD (b)) rfl (dX.aD (b))) fun v Lm ⟨f,O⟩=>?_
  obtain⟨rfl,Ln⟩:=O
  refine bI rfl (?_)
  have e:=f.aD
  refine g3 ?_
  refine fB g (fun Lh g=>?_) (fun Lh g=>?_)
  ·have a:=(a.B f)
   have c:=((c.B d).B f)
   exact a7.aU ((aR.trans d).trans f) i (h.aD (b.trans e)) a m (D.aD (b.trans e)) c E (H.aD (b.trans e)) rfl (show In .i64 (0:Int) by decide) P (dX.aD (b.trans e)) g
  have a:=(a.B f)
  have c:=((c.B d).B f)
  exact a7.aU ((aR.trans d).trans f) i (h.aD (b.trans e)) a m (D.aD (b.trans e)) c E (H.aD (b.trans e)) rfl (show In .i64 (1:Int) by decide) P (dX.aD (b.trans e)) g
 have a:=(a.B d)
 have c:=(c.B d)
 exact a7.aU (aR.trans d) i (h.aD (b)) a m (D.aD (b)) c E (H.aD (b)) rfl (show In .i64 (-1:Int) by decide) P (dX.aD (b)) g
def F.v(a3:Int)(aT:Bool)(a:List Nat)(b:Int):((Bool × List Nat) × Int):=
 bif (decide (b < (0:Int))) then
  ((false,([]:List Nat)),(1:Int))
 else
  bY (eQ.v aT a) fun c=>
  bif (!c) then
   ((false,([]:List Nat)),(2:Int))
  else
   bY (qI a b) fun c=>
   bif (c.2 != (0:Int)) then
    ((false,([]:List Nat)),c.2)
   else
    bif (decide ((((a.length:Nat):Int)) > (0:Int))) then
     aC.v a3 b aT a false ([]:List Nat) c.1 ((decide (((((ctz (val a):Nat):Int))) < b)))
    else
     aC.v a3 b aT a false ([]:List Nat) c.1 false
theorem F.aU{Y:K}{aB Z:V}(aR:a4 aB Z){a3:Int}(K5:In .i64 a3){aT:Bool}{K6:U}{K7 K8:Nat}{D:List Nat}(E:bJ Z K6 K7 D)(Lg:K8=D.length){H:Int}(P:In .i64 H)(dX:gK Z)(g:dS (s2 dZ (c3 .i64)) aB Y (F.v a3 aT D H)):F.t Y a3 aT K6 K8 K7 H Z:=by
 subst Lg
 unfold F.v at g
 unfold F.t
 refine cK fun Lo b e=>?_
 have K9:=aR.le
 have La:=b.lt
 have h:=e.aD
 refine cK fun Lp a f=>?_
 have i:=(aR.trans e).le
 have Lq:=a.lt
 have j:=f.aD
 refine jC g (fun Lh g=>?_) (fun Lh g=>?_)
 ·refine bK a (w _ _) rfl fun Li a c l=>?_
  refine bK a (w _ _) rfl fun Lb a d m=>?_
  refine aI a (w _ _) rfl (aO rfl ?_)
  refine aI a (w _ _) rfl (k rfl ?_)
  exact g _ _ (a1.B (a1.B ((aR.trans e).trans f) c i) d i) ⟨_,_,rfl,⟨_,_,rfl,(cN.nil _ _)⟩,⟨rfl,(show In .i64 (1:Int) by decide)⟩⟩
 have b:=(b.B f)
 refine aI b (w _ _) rfl (aO rfl ?_)
 refine aI b (w _ _) rfl (k rfl ?_)
 refine bF (eQ.aU (E.aD (h.trans j)) rfl) fun v Li ⟨c,O⟩=>?_
 obtain⟨Lr,Lc⟩:∃ z,z=eQ.v aT D:=⟨_,rfl⟩
 rw [← Lc] at O
 replace g:=cC Lc g
 obtain rfl:=O
 refine aO rfl (?_)
 have l:=c.aD
 refine hH g (fun Lj g=>?_) (fun Lj g=>?_)
 ·have a:=(a.B c)
  refine bK a (w _ _) rfl fun Lb a d m=>?_
  refine bK a (w _ _) rfl fun Ld a n G=>?_
  refine aI a (w _ _) rfl (aO rfl ?_)
  refine aI a (w _ _) rfl (k rfl ?_)
  exact g _ _ (a1.B (a1.B (((aR.trans e).trans f).trans c) d i) n i) ⟨_,_,rfl,⟨_,_,rfl,(cN.nil _ _)⟩,⟨rfl,(show In .i64 (2:Int) by decide)⟩⟩
 have b:=(b.B c)
 refine aI b (w _ _) rfl (k rfl ?_)
 refine bF (kY.aU (E.aD (h.trans (j.trans l))) rfl P) fun v Lb ⟨d,O⟩=>?_
 obtain⟨Ls,Le⟩:∃ z,z=qI D H:=⟨_,rfl⟩
 rw [← Le] at O
 replace g:=cC Le g
 obtain⟨_,_,rfl,⟨Lt,Lu,rfl,Lf⟩,⟨rfl,Lk⟩⟩:=O
 refine dP rfl (aM (k rfl (aM (bI rfl (bP (?_))))))
 have m:=d.aD
 refine wI g (fun Ll g=>?_) (fun Ll g=>?_)
 ·have a:=((a.B c).B d)
  refine bK a (w _ _) rfl fun Ld a n G=>?_
  refine bK a (w _ _) rfl fun Lv a Lm Lw=>?_
  refine aI a (w _ _) rfl (aO rfl ?_)
  refine aI a (w _ _) rfl (k rfl ?_)
  exact g _ _ (a1.B (a1.B ((((aR.trans e).trans f).trans c).trans d) n i) Lm i) ⟨_,_,rfl,⟨_,_,rfl,(cN.nil _ _)⟩,⟨rfl,Lk⟩⟩
 have b:=(b.B d)
 refine aI b (w _ _) rfl (k rfl ?_)
 refine jC g (fun Ln g=>?_) (fun Ln g=>?_)
 ·refine aI b (w _ _) rfl (k rfl ?_)
  refine bF (kN.aU (E.aD (h.trans (j.trans (l.trans m)))) rfl (dX.aD (h.trans (j.trans (l.trans m))))) fun v Ld ⟨n,O⟩=>?_
  obtain⟨rfl,Lx⟩:=O
  refine bI rfl (?_)
  have G:=n.aD
  have b:=(b.B n)
  have a:=(((a.B c).B d).B n)
  exact aC.aU (((((aR.trans e).trans f).trans c).trans d).trans n) K5 P (E.aD (h.trans (j.trans (l.trans (m.trans G))))) b K9 (cN.nil _ _) a i ((Lf.aD (G)).from (((aR.trans e).trans f).trans c).le) rfl (Nat.ne_of_lt La) (dX.aD (h.trans (j.trans (l.trans (m.trans G))))) g
 have a:=((a.B c).B d)
 exact aC.aU ((((aR.trans e).trans f).trans c).trans d) K5 P (E.aD (h.trans (j.trans (l.trans m)))) b K9 (cN.nil _ _) a i (Lf.from (((aR.trans e).trans f).trans c).le) rfl (Nat.ne_of_lt La) (dX.aD (h.trans (j.trans (l.trans m)))) g
def v(a3:Int)(aT:Bool)(a:List Nat)(b:Int):((Bool × List Nat) × Int):=F.v a3 aT a b
theorem aU{Z:V}{a3:Int}(a:In .i64 a3){aT:Bool}{b:U}{c d:Nat}{e:List Nat}(f:bJ Z b c e)(g:d=e.length){h:Int}(i:In .i64 h)(dX:gK Z):aF id #[.int .i64 a3,.agg #[.bool aT,.slice b d c],.int .i64 h] Z fun b c=>a4 Z c∧(s2 dZ (c3 .i64)) Z c b (v a3 aT e h):=
 ok (F.aU (a4.refl _) a f g i dX fun v A M O=>⟨M,O⟩)
end kS
namespace lK
def aC.v(a3:Int)(a:Bool)(b:List Nat)(c:Bool)(d:List Nat)(e:Bool)(e:List Nat):((Bool × List Nat) × Int):=
 bif ((((d.length:Nat):Int)) == (0:Int)) then
  ((false,([]:List Nat)),(4:Int))
 else
  bY (m8 b d) fun b=>
  bif (b.2.2 != (0:Int)) then
   ((false,([]:List Nat)),b.2.2)
  else
   bY (lH d b.2.1) fun d=>
   bif (d.2 != (0:Int)) then
    ((false,([]:List Nat)),d.2)
   else
    bY (pO a3 ((!(a == c))) b.1 ((decide ((((b.2.1.length:Nat):Int)) > (0:Int)))) ((e6 (val b.2.1) (val d.1)))) fun a=>
    ((a.1.1,a.1.2),a.2)
theorem aC.aU{Y:K}{aB Z:V}(aR:a4 aB Z){a3:Int}(Lj:In .i64 a3){G:Bool}{K5:U}{K6:Nat}{m:List Nat}(Lk:bJ Z K5 K6 m){dT:Nat}(j:cR Z dT [.bool G,.slice K5 m.length K6])(LG:aB.size≤dT){H:Bool}{K7:U}{K8:Nat}{l:List Nat}(K9:bJ Z K7 K8 l){gT:Nat}(d:cR Z gT [.bool H,.slice K7 l.length K8])(LH:aB.size≤gT){La:Bool}{Lb:U}{Lc:Nat}{P:List Nat}(LI:cN dQ aB Z Lb Lc P){eP:Nat}(a:cR Z eP [.bool La,.slice Lb P.length Lc])(f:aB.size≤eP)(LJ:dT ≠ gT)(LK:dT ≠ eP)(LL:gT ≠ eP)(g:dS (s2 dZ (c3 .i64)) aB Y (aC.v a3 G m H l La P)):aC.t Y a3 (⟨dT,0,none⟩:Addr) (⟨gT,0,none⟩:Addr) (⟨eP,0,none⟩:Addr) Z:=by
 have Ll:=j.lt
 have Lm:=d.lt
 have LM:=a.lt
 unfold aC.v at g
 unfold aC.t
 refine aI d (w _ _) rfl (k rfl ?_)
 refine fB g (fun Ln g=>?_) (fun Ln g=>?_)
 ·refine bK a (w _ _) rfl fun Lo a b n=>?_
  refine bK a (w _ _) rfl fun Ld a c h=>?_
  refine aI a (w _ _) rfl (aO rfl ?_)
  refine aI a (w _ _) rfl (k rfl ?_)
  exact g _ _ (a1.B (a1.B aR b f) c f) ⟨_,_,rfl,⟨_,_,rfl,(cN.nil _ _)⟩,⟨rfl,(show In .i64 (4:Int) by decide)⟩⟩
 refine aI j (w _ _) rfl (k rfl ?_)
 refine aI d (w _ _) rfl (k rfl ?_)
 refine bF (m9.aU Lk rfl K9 rfl) fun v Lo ⟨b,O⟩=>?_
 obtain⟨D,Le⟩:∃ z,z=m8 m l:=⟨_,rfl⟩
 rw [← Le] at O
 replace g:=cC Le g
 obtain⟨_,_,_,rfl,⟨LN,LO,rfl,Lp⟩,⟨LP,LQ,rfl,Lf⟩,⟨rfl,Lq⟩⟩:=O
 refine dP rfl (aM (k rfl (aM (k rfl (aM (bI rfl (bP (?_))))))))
 have n:=b.aD
 refine wI g (fun Lr g=>?_) (fun Lr g=>?_)
 ·have a:=(a.B b)
  refine bK a (w _ _) rfl fun Ld a c h=>?_
  refine bK a (w _ _) rfl fun Lg a e E=>?_
  refine aI a (w _ _) rfl (aO rfl ?_)
  refine aI a (w _ _) rfl (k rfl ?_)
  exact g _ _ (a1.B (a1.B (aR.trans b) c f) e f) ⟨_,_,rfl,⟨_,_,rfl,(cN.nil _ _)⟩,⟨rfl,Lq⟩⟩
 have d:=(d.B b)
 refine aI d (w _ _) rfl (k rfl ?_)
 refine bF (jS.aU (K9.aD (n)) rfl Lf.jD rfl) fun v Ld ⟨c,O⟩=>?_
 obtain⟨Ls,Lh⟩:∃ z,z=lH l D.2.1:=⟨_,rfl⟩
 rw [← Lh] at O
 replace g:=cC Lh g
 obtain⟨_,_,rfl,⟨LR,LS,rfl,Lt⟩,⟨rfl,Lu⟩⟩:=O
 refine dP rfl (aM (k rfl (aM (bI rfl (bP (?_))))))
 have h:=c.aD
 refine wI g (fun Lv g=>?_) (fun Lv g=>?_)
 ·have a:=((a.B b).B c)
  refine bK a (w _ _) rfl fun Lg a e E=>?_
  refine bK a (w _ _) rfl fun Lw a i Lx=>?_
  refine aI a (w _ _) rfl (aO rfl ?_)
  refine aI a (w _ _) rfl (k rfl ?_)
  exact g _ _ (a1.B (a1.B ((aR.trans b).trans c) e f) i f) ⟨_,_,rfl,⟨_,_,rfl,(cN.nil _ _)⟩,⟨rfl,Lu⟩⟩
 have j:=((j.B b).B c)
 refine⟨eY (w _ _) ((n.trans h).lt Ll),?_⟩
 refine aI j (w _ _) rfl (aO rfl ?_)
 have d:=(d.B c)
 refine⟨eY (w _ _) ((n.trans h).lt Lm),?_⟩
 refine aI d (w _ _) rfl (aO rfl ?_)
 refine bF (hL.aU (Lf.aD (h)).jD rfl Lt.jD rfl) fun v Lg ⟨e,O⟩=>?_
 obtain⟨rfl,Ly⟩:=O
 refine bI rfl (?_)
 have E:=e.aD
 refine⟨e.c1 (Nat.le_refl _),?_⟩
 refine bF (pP.dJ (((aR.trans b).trans c).trans e).le Lj ((Lp.aD (h.trans E)).from aR.le) rfl Ly) fun v Lw ⟨i,O⟩=>?_
 obtain⟨LU,Li⟩:∃ z,z=pO a3 ((!(G == H))) D.1 ((decide ((((D.2.1.length:Nat):Int)) > (0:Int)))) ((e6 (val D.2.1) (val Ls.1))):=⟨_,rfl⟩
 rw [← Li] at O
 replace g:=cC Li g
 obtain⟨_,_,rfl,⟨LV,LW,rfl,Lz⟩,⟨rfl,LA⟩⟩:=O
 refine dP rfl (aM (bZ rfl (aM (aO rfl (aM (k rfl (bP (aM (bI rfl (bP (?_)))))))))))
 have Lx:=i.aD
 refine⟨i.c1 (E).le,?_⟩
 have a:=((((a.B b).B c).B e).B i)
 refine bK a (w _ _) rfl fun LX a LB LC=>?_
 refine bK a (w _ _) rfl fun LY a LD LF=>?_
 refine aI a (w _ _) rfl (aO rfl ?_)
 refine aI a (w _ _) rfl (k rfl ?_)
 exact g _ _ (a1.B (a1.B ((((aR.trans b).trans c).trans e).trans i) LB f) LD f) ⟨_,_,rfl,⟨_,_,rfl,(Lz.aD (LC.trans LF))⟩,⟨rfl,LA⟩⟩
def F.v(a3:Int)(aT:Bool)(a:List Nat)(cU:Bool)(b:List Nat):((Bool × List Nat) × Int):=
 bY (eQ.v aT a) fun c=>
 bif (!c) then
  ((false,([]:List Nat)),(2:Int))
 else
  bY (eQ.v cU b) fun c=>
  bif (!c) then
   ((false,([]:List Nat)),(2:Int))
  else
   aC.v a3 aT a cU b false ([]:List Nat)
theorem F.aU{Y:K}{aB Z:V}(aR:a4 aB Z){a3:Int}(Lg:In .i64 a3){aT:Bool}{K5:U}{K6 K7:Nat}{m:List Nat}(K8:bJ Z K5 K6 m)(Lh:K7=m.length){cU:Bool}{K9:U}{La Lb:Nat}{n:List Nat}(Lc:bJ Z K9 La n)(Li:Lb=n.length)(g:dS (s2 dZ (c3 .i64)) aB Y (F.v a3 aT m cU n)):F.t Y a3 aT K5 K7 K6 cU K9 Lb La Z:=by
 subst Lh Li
 unfold F.v at g
 unfold F.t
 refine cK fun Ls d f=>?_
 have Lj:=aR.le
 have Ld:=d.lt
 have D:=f.aD
 refine cK fun Lt e h=>?_
 have Lk:=(aR.trans f).le
 have Ll:=e.lt
 have j:=h.aD
 refine cK fun Lu a i=>?_
 have l:=((aR.trans f).trans h).le
 have Lv:=a.lt
 have E:=i.aD
 have d:=((d.B h).B i)
 refine aI d (w _ _) rfl (aO rfl ?_)
 refine aI d (w _ _) rfl (k rfl ?_)
 refine bF (eQ.aU (K8.aD (D.trans (j.trans E))) rfl) fun v Lw ⟨b,O⟩=>?_
 obtain⟨Lx,Le⟩:∃ z,z=eQ.v aT m:=⟨_,rfl⟩
 rw [← Le] at O
 replace g:=cC Le g
 obtain rfl:=O
 refine aO rfl (?_)
 have G:=b.aD
 refine hH g (fun Lm g=>?_) (fun Lm g=>?_)
 ·have a:=(a.B b)
  refine bK a (w _ _) rfl fun Ln a c H=>?_
  refine bK a (w _ _) rfl fun Lo a P Lp=>?_
  refine aI a (w _ _) rfl (aO rfl ?_)
  refine aI a (w _ _) rfl (k rfl ?_)
  exact g _ _ (a1.B (a1.B ((((aR.trans f).trans h).trans i).trans b) c l) P l) ⟨_,_,rfl,⟨_,_,rfl,(cN.nil _ _)⟩,⟨rfl,(show In .i64 (2:Int) by decide)⟩⟩
 have e:=((e.B i).B b)
 refine aI e (w _ _) rfl (aO rfl ?_)
 refine aI e (w _ _) rfl (k rfl ?_)
 refine bF (eQ.aU (Lc.aD (D.trans (j.trans (E.trans G)))) rfl) fun v Ln ⟨c,O⟩=>?_
 obtain⟨Ly,Lf⟩:∃ z,z=eQ.v cU n:=⟨_,rfl⟩
 rw [← Lf] at O
 replace g:=cC Lf g
 obtain rfl:=O
 refine aO rfl (?_)
 have H:=c.aD
 refine hH g (fun Lq g=>?_) (fun Lq g=>?_)
 ·have a:=((a.B b).B c)
  refine bK a (w _ _) rfl fun Lo a P Lp=>?_
  refine bK a (w _ _) rfl fun Lz a Lr LA=>?_
  refine aI a (w _ _) rfl (aO rfl ?_)
  refine aI a (w _ _) rfl (k rfl ?_)
  exact g _ _ (a1.B (a1.B (((((aR.trans f).trans h).trans i).trans b).trans c) P l) Lr l) ⟨_,_,rfl,⟨_,_,rfl,(cN.nil _ _)⟩,⟨rfl,(show In .i64 (2:Int) by decide)⟩⟩
 have d:=((d.B b).B c)
 have e:=(e.B c)
 have a:=((a.B b).B c)
 exact aC.aU (((((aR.trans f).trans h).trans i).trans b).trans c) Lg (K8.aD (D.trans (j.trans (E.trans (G.trans H))))) d Lj (Lc.aD (D.trans (j.trans (E.trans (G.trans H))))) e Lk (cN.nil _ _) a l (Nat.ne_of_lt Ld) (Nat.ne_of_lt ((j).lt Ld)) (Nat.ne_of_lt Ll) g
def v(a3:Int)(aT:Bool)(a:List Nat)(cU:Bool)(b:List Nat):((Bool × List Nat) × Int):=F.v a3 aT a cU b
theorem aU{Z:V}{a3:Int}(a:In .i64 a3){aT:Bool}{b:U}{c d:Nat}{e:List Nat}(f:bJ Z b c e)(g:d=e.length){cU:Bool}{h:U}{i j:Nat}{l:List Nat}(m:bJ Z h i l)(n:j=l.length):aF id #[.int .i64 a3,.agg #[.bool aT,.slice b d c],.agg #[.bool cU,.slice h j i]] Z fun b c=>a4 Z c∧(s2 dZ (c3 .i64)) Z c b (v a3 aT e cU l):=
 ok (F.aU (a4.refl _) a f g m n fun v A M O=>⟨M,O⟩)
end lK
theorem nD(N:Bool)(T:List Nat):eQ.v N T=decide (eJ (N,T)):=by
 unfold eQ.v eQ.F.v eJ
 by_cases a9:gI T
 ·cases N
  ·simp [a9]
  ·cases T with
   | nil=>simp [a9]
   | cons I T=>simp [a9];omega
 ·simp [a9]
theorem HL(N:Bool)(T:List Nat):nB.v N T=gA (eV (N,T)) 0:=by
 unfold nB.v nB.F.v
 rw [pL]
 show _=gA (cE N (val T)) 0
 by_cases Z:val T=0
 ·rw [Z,lJ,Ak];simp [gA]
 ·have:=q3 Z
  have J:(((eU (val T):Nat):Int) == 0)=false:=by simp;omega
  rw [J]
  cases N
  ·have:¬ cE false (val T) < 0:=by unfold cE;simp
   have a:cE false (val T) ≠ 0:=fun J=>Z (tY.mp J)
   simp [gA,this,a]
  ·have:cE true (val T) < 0:=by unfold cE;simp;omega
   simp [gA,this]
theorem HM{n:Int}(Q:In .i64 n):kD.v n=fE n:=by
 rw [mF] at Q
 unfold kD.v kD.F.v fE
 by_cases Z:n < 0
 ·have a:IntKind.u64.wrap (0 - IntKind.u64.wrap n)=((n.natAbs:Nat):Int):=by
   rw [wrap_u64,wrap_u64];omega
  simp only [Z,decide_true,cond_true,bY,Bool.true_and]
  rw [a,Int.toNat_natCast,yQ]
  have:n.natAbs ≠ 0:=by omega
  simp [this]
 ·have a:IntKind.u64.wrap n=((n.natAbs:Nat):Int):=by rw [wrap_u64];omega
  simp only [Z,decide_false,cond_false,bY,Bool.false_and]
  rw [a,Int.toNat_natCast]
theorem HN(N:Bool)(T:List Nat):oL.v N T=oJ (N,T):=by
 unfold oL.v oL.F.v oJ
 rw [nD]
 by_cases a9:eJ (N,T)
 ·simp only [a9,decide_true,bY,Bool.not_true,cond_false,if_true]
  show h1 (!N) (eS (val T))=_
  rw [rA,pL,tX]
 ·simp only [a9,decide_false,bY,Bool.not_false,cond_true,if_false]
  rfl
theorem HO{m n:Nat}:decide (e6 m n < 0)=decide (m < n):=by
 unfold e6
 by_cases Z:m < n
 ·simp [Z]
 ·rw [if_neg Z];split <;> simp [Z]
theorem HP{N L:Bool}{T u:List Nat}(b:gI T)(c:gI u)(z:Bool)(aK:List Nat):kQ.aC.v N T L u z aK=fP (cE N (val T)+cE L (val u)):=by
 unfold kQ.aC.v kQ.a7.v
 by_cases Z:N=L
 ·subst Z
  simp only [beq_self_eq_true,cond_true,bY]
  show h1 N (qH T u)=_
  rw [De b c,rA,DL]
 ·have J:(N == L)=false:=by simp [Z]
  simp only [J,cond_false,bY,HO]
  by_cases a:val T < val u
  ·simp only [a,decide_true,cond_true]
   show h1 L (lH u T)=_
   rw [yF c b (Nat.le_of_lt a),rA,Int.add_comm,yR (fun J=>Z J.symm) (Nat.le_of_lt a)]
  ·simp only [a,decide_false,cond_false]
   show h1 N (lH T u)=_
   rw [yF b c (by omega),rA,yR Z (by omega)]
theorem HQ(N L:Bool)(T u:List Nat):kQ.v N T L u=gR nZ (N,T) (L,u):=by
 unfold kQ.v kQ.F.v gR
 rw [nD,nD]
 by_cases a9:eJ (N,T)
 ·by_cases a:eJ (L,u)
  ·simp only [a9,a,decide_true,bY,Bool.not_true,cond_false,and_self,if_true]
   exact HP a9.1 a.1 _ _
  ·simp only [a9,a,decide_true,decide_false,bY,Bool.not_true,Bool.not_false,cond_false,cond_true,and_false,if_false];rfl
 ·simp only [a9,decide_false,bY,Bool.not_false,cond_true,false_and,if_false];rfl
theorem HR(N L:Bool)(T u:List Nat):kR.v N T L u=gR oK (N,T) (L,u):=by
 unfold kR.v kR.F.v kR.aC.v gR
 rw [nD,nD]
 by_cases a9:eJ (N,T)
 ·by_cases a:eJ (L,u)
  ·simp only [a9,a,decide_true,bY,Bool.not_true,cond_false,and_self,if_true]
   show h1 (!(N == L)) (q9 T u)=fP (cE N (val T)*cE L (val u))
   unfold q9
   rw [if_pos ⟨a9.1,a.1⟩,rA,yS]
   have:(!(N == L))=xor N L:=by cases N <;> cases L <;> rfl
   rw [this]
  ·simp only [a9,a,decide_true,decide_false,bY,Bool.not_true,Bool.not_false,cond_false,cond_true,and_false,if_false];rfl
 ·simp only [a9,decide_false,bY,Bool.not_false,cond_true,false_and,if_false];rfl
theorem HS(N:Bool)(T:List Nat)(n:Int):oM.v N T n=qK (N,T) n:=by
 unfold oM.v oM.F.v qK
 rw [nD]
 by_cases a:n < 0
 ·simp only [a,decide_true,cond_true,if_true];rfl
 ·by_cases a9:eJ (N,T)
  ·simp only [a,a9,decide_true,decide_false,bY,Bool.not_true,cond_false,if_true,if_false]
   show h1 N (r4 T n)=fP (cE N (val T)*2 ^ n.toNat)
   unfold r4
   rw [if_neg a,if_pos a9.1,rA,AS]
  ·simp only [a,a9,decide_false,bY,Bool.not_false,cond_true,cond_false,if_false];rfl
theorem HT{N L:Bool}{bD aX:Nat}(aP:N=true→bD ≠ 0)(b:L=true→aX ≠ 0):gA (cE N bD) (cE L aX)=if N=true∧L=false then -1 else if N=false∧L=true then 1 else if N=true then e6 aX bD else e6 bD aX:=by
 unfold gA e6 cE
 cases N <;> cases L
 ·simp only [Bool.false_eq_true,and_false,if_false,and_true]
  by_cases Z:bD < aX
  ·simp [Z]
  ·simp only [Z,if_false,Int.ofNat_lt,Int.natCast_inj]
 ·simp only [Bool.false_eq_true,if_false,and_self,if_true,reduceCtorEq]
  have:=b rfl
  rw [if_neg (by omega),if_neg (by omega)]
 ·simp only [if_true,Bool.false_eq_true,if_false,and_self,reduceCtorEq]
  have:=aP rfl
  rw [if_pos (by omega)]
 ·simp only [if_true,reduceCtorEq,and_false,false_and,if_false]
  by_cases Z:aX < bD
  ·rw [if_pos (by omega),if_pos Z]
  ·rw [if_neg (by omega),if_neg Z]
   by_cases a:aX=bD
   ·rw [if_pos (by omega),if_pos a]
   ·rw [if_neg (by omega),if_neg a]
theorem wS{N:Bool}{T:List Nat}(a9:eJ (N,T)):N=true→val T ≠ 0:=fun Z aB=>a9.2 ⟨Z,(vK a9.1).mp aB⟩
theorem HU(N L:Bool)(T u:List Nat):nC.v N T L u=qL (N,T) (L,u):=by
 unfold nC.v nC.F.v qL
 rw [nD,nD]
 by_cases a9:eJ (N,T)
 ·by_cases a:eJ (L,u)
  ·simp only [a9,a,decide_true,bY,Bool.not_true,cond_false,and_self,if_true]
   rw [pL,pL]
   show _=(gA (cE N (val T)) (cE L (val u)),0)
   rw [HT (wS a9) (wS a)]
   cases N <;> cases L <;> simp [nC.aC.v,nC.a7.v]
  ·simp only [a9,a,decide_true,decide_false,bY,Bool.not_true,Bool.not_false,cond_false,cond_true,and_false,if_false]
 ·simp only [a9,decide_false,bY,Bool.not_false,cond_true,false_and,if_false]
theorem HV{N:Bool}{T:List Nat}(a:Words T):mM.v N T=nA (N,T):=by
 unfold mM.v mM.F.v nA
 rw [nD]
 by_cases a9:eJ (N,T)
 ·simp only [a9,decide_true,bY,Bool.not_true,cond_false,if_true]
  rw [pL]
  show _=if -9223372036854775808≤cE N (val T)∧cE N (val T) < 9223372036854775808 then(cE N (val T),0) else(0,5)
  match T,a,a9 with
  | [],_,_=>rw [show val []=0 from rfl,lJ];rfl
  | [aA],a,a9=>
   have a:=a aA (by simp)
   have aB:aA ≠ 0:=by
    intro J;subst J
    have:=a9.1.2
    simp [dH] at this
   have b:val [aA]=aA:=by simp [val]
   rw [b]
   have c:([aA]:List Nat).getD 0 0=aA:=rfl
   simp only [List.length_singleton,c]
   unfold mM.aC.v
   have R:(((1:Nat):Int) == 0)=false:=rfl
   have d:decide (((1:Nat):Int) > 1)=false:=rfl
   rw [R,d]
   simp only [cond_false]
   by_cases a0:aA > 9223372036854775808
   ·have:decide (((aA:Nat):Int) > 9223372036854775808)=true:=by simp;omega
    rw [this];simp only [cond_true]
    rw [if_neg]
    unfold cE;cases N <;> simp <;> omega
   ·have:decide (((aA:Nat):Int) > 9223372036854775808)=false:=by simp;omega
    rw [this];simp only [cond_false]
    by_cases e:aA=9223372036854775808
    ·subst e
     cases N
     ·rfl
     ·simp only [cE,if_true];rfl
    ·have:(((aA:Nat):Int) == 9223372036854775808)=false:=by simp;omega
     rw [this];simp only [cond_false]
     cases N
     ·simp only [cond_false,cE,Bool.false_eq_true,if_false]
      rw [wrap_i64 (by omega) (by omega),if_pos (by omega)]
     ·simp only [cond_true,cE,if_true]
      rw [wrap_u64,if_pos (by omega)]
      have f:(0 - ((aA:Nat):Int)) % 18446744073709551616=18446744073709551616 - (aA:Int):=by omega
      rw [f]
      have g:IntKind.i64.wrap (18446744073709551616 - (aA:Int))=-(aA:Int):=by
       have b:(2:Int) ^ 64=18446744073709551616:=by decide
       have c:(2:Int) ^ (64 - 1)=9223372036854775808:=by decide
       simp only [IntKind.wrap,IntKind.bits,IntKind.signed,Bool.true_and,b,c]
       rw [if_pos (by simp;omega)];omega
      rw [g]
  | aA :: I :: t,a,a9=>
   have h:(aA :: I :: t).length=t.length+2:=rfl
   have aP:18446744073709551616≤val (aA :: I :: t):=by
    have dE:=q2 (T:=[18446744073709551615]) (u:=aA :: I :: t) (by intro aN i;simp at i;omega) a9.1.2 (by simp)
    have:val [18446744073709551615]=18446744073709551615:=by simp [val]
    omega
   generalize val (aA :: I :: t)=eW at aP ⊢
   rw [h]
   have R:(((t.length+2:Nat):Int) == 0)=false:=by simp;omega
   have d:decide (((t.length+2:Nat):Int) > 1)=true:=by simp;omega
   rw [R,d]
   simp only [cond_false,cond_true]
   rw [if_neg]
   unfold cE;cases N <;> simp <;> omega
 ·simp only [a9,decide_false,bY,Bool.not_false,cond_true,if_false]
theorem DN(aA:Int)(a:Bool){b7:Nat}(some:Bool)(b:Int)(Z:(aE b7).length≤8192):pO aA a (aE b7) some b=fP (cE a (if pN aA a (b7 % 2 == 1) some b=true then b7+1 else b7)):=by
 unfold pO
 have J:(jQ (val (aE b7)) 0 == 1)=(b7 % 2 == 1):=by
  rw [fA];unfold jQ
  rw [if_neg (by decide)]
  simp only [Int.toNat_zero,Nat.pow_zero,Nat.div_one]
  rcases Nat.mod_two_eq_zero_or_one b7 with Z | Z <;> rw [Z] <;> rfl
 rw [J]
 have y:(aE 1).length≤8192:=by rw [lA (by decide)];simp [dM]
 have c:gI (aE b7):=⟨Z,nR b7⟩
 have d:gI (aE 1):=⟨y,nR 1⟩
 have e:(aE b7,(0:Int))=eS b7:=by unfold eS;rw [if_pos Z]
 rw [De c d,fA,fA,e,← apply_ite eS,rA]
def kE(aA:Int):Int→Int→Int:=if aA=0 then e4 else if aA=1 then iL else gY
theorem DO(aA:Int){z o:Bool}{bD aX:Nat}(c4:aX ≠ 0)(a:z=true→bD ≠ 0):kE aA (cE z bD) (cE o aX)=cE (xor z o) (if pN aA (xor z o) (bD / aX % 2 == 1) (decide (bD % aX ≠ 0)) (e6 (bD % aX) (aX - bD % aX))=true then bD / aX+1 else bD / aX):=by
 unfold kE pN
 by_cases aB:aA=0
 ·rw [if_pos aB,if_pos aB,tW c4 a]
  simp only [Bool.and_eq_true,decide_eq_true_eq]
 ·rw [if_neg aB,if_neg aB]
  by_cases a0:aA=1
  ·rw [if_pos a0,if_pos a0,HC c4 a]
   simp only [Bool.and_eq_true,decide_eq_true_eq,Bool.not_eq_true']
  ·rw [if_neg a0,if_neg a0,AT c4 a]
   unfold pM
   have b:=Nat.mod_lt bD (show 0 < aX by omega)
   generalize bD % aX=s at *
   generalize bD / aX=b7
   congr 1
   have J:((decide (0 < e6 s (aX - s)) || (decide (e6 s (aX - s)=0) && (b7 % 2 == 1)))=true)↔(aX < 2*s∨(2*s=aX∧b7 % 2=1)):=by
    unfold e6
    rcases Nat.lt_trichotomy s (aX - s) with Z | Z | Z
    ·rw [if_pos Z];simp;omega
    ·rw [if_neg (by omega),if_pos Z];simp;omega
    ·rw [if_neg (by omega),if_neg (by omega)];simp;omega
   by_cases L:aX < 2*s∨(2*s=aX∧b7 % 2=1)
   ·rw [if_pos L,if_pos (J.mpr L)]
   ·rw [if_neg L,if_neg (fun Z=>L (J.mp Z))]
theorem HW(aA:Int)(N:Bool)(T:List Nat)(z:Bool)(aK a:List Nat)(O:Bool)(aN:Int):kS.a7.v aA N T z aK a O aN=pO aA N a O aN:=rfl
theorem HX{bD n:Nat}(j:n < 9223372036854775808)(p:Int→fJ × Int):(bif (jQ bD (IntKind.i64.wrap ((n:Int) - 1)) == 1) then(bif (((ctz bD:Nat):Int) == IntKind.i64.wrap ((n:Int) - 1)) then p 0 else p 1) else p (-1))=p (e6 (bD % 2 ^ n) (2 ^ n - bD % 2 ^ n)):=by
 have e:IntKind.i64.wrap ((n:Int) - 1)=(n:Int) - 1:=wrap_i64 (by omega) (by omega)
 rw [e]
 by_cases c:bD=0
 ·subst c
  have:jQ 0 ((n:Int) - 1)=0:=by unfold jQ;split <;> simp
  rw [this,Nat.zero_mod]
  have:e6 0 (2 ^ n - 0)=-1:=by unfold e6;rw [if_pos (by have:=Nat.two_pow_pos n;omega)]
  rw [this];rfl
 rcases Nat.eq_zero_or_pos n with aB | aB
 ·subst aB
  have:jQ bD (((0:Nat):Int) - 1)=0:=by unfold jQ;rw [if_pos (by decide)]
  rw [this,Nat.pow_zero,Nat.mod_one]
  rfl
 ·obtain⟨m,rfl⟩:∃ m,n=m+1:=⟨n - 1,by omega⟩
  have f:((m+1:Nat):Int) - 1=(m:Int):=by omega
  rw [f]
  have g:jQ bD (m:Int)=((bD / 2 ^ m % 2:Nat):Int):=by unfold jQ;rw [if_neg (by omega),Int.toNat_natCast]
  rw [g]
  have a:=HG (bD:=bD) (n:=m)
  have l:=Nat.mod_lt bD (Nat.two_pow_pos (m+1))
  rcases Nat.mod_two_eq_zero_or_one (bD / 2 ^ m) with J | J
  ·rw [J] at a ⊢
   have:e6 (bD % 2 ^ (m+1)) (2 ^ (m+1) - bD % 2 ^ (m+1))=-1:=by
    unfold e6
    rw [if_pos]
    have:¬ 2 ^ (m+1)≤2*(bD % 2 ^ (m+1)):=fun Z=>absurd (a.mpr Z) (by decide)
    omega
   rw [this];rfl
  ·have t:=a.mp J
   have d:=HH c J
   rw [J]
   by_cases b:ctz bD=m
   ·have h:=d.mp b
    have:e6 (bD % 2 ^ (m+1)) (2 ^ (m+1) - bD % 2 ^ (m+1))=0:=by
     unfold e6
     rw [if_neg (by omega),if_pos (by omega)]
    rw [this,b];simp
   ·have h:¬ 2*(bD % 2 ^ (m+1))=2 ^ (m+1):=fun Z=>b (d.mpr Z)
    have:e6 (bD % 2 ^ (m+1)) (2 ^ (m+1) - bD % 2 ^ (m+1))=1:=by
     unfold e6
     rw [if_neg (by omega),if_neg (by omega)]
    have i:(((ctz bD:Nat):Int) == ((m:Nat):Int))=false:=by simp;omega
    rw [this,i];simp
theorem yX{N:Bool}{T:List Nat}(a9:eJ (N,T))(a:Words T):aE (val T)=T:=a9.1.aE a
theorem HY(aA:Int){N:Bool}{T:List Nat}(e:Words T){n:Int}(Q:In .i64 n):kS.v aA N T n=iM (kE aA) (N,T) n:=by
 rw [mF] at Q
 unfold kS.v kS.F.v iM
 rw [nD]
 by_cases a:n < 0
 ·simp only [a,decide_true,cond_true,if_true];rfl
 ·obtain⟨M,rfl⟩:=Int.eq_ofNat_of_zero_le (Int.not_lt.mp a)
  by_cases a9:eJ (N,T)
  ·have aJ:(aE (val T / 2 ^ M)).length≤8192:=by
    have a0:=mD (Nat.div_le_self (val T) (2 ^ M))
    rw [yX a9 e] at a0
    exact Nat.le_trans a0 a9.1.1
   have f:qI T (M:Int)=(aE (val T / 2 ^ M),0):=by
    unfold qI
    rw [if_neg a,if_pos a9.1,Int.toNat_natCast]
    unfold eS;rw [if_pos aJ]
   simp only [a,a9,decide_true,decide_false,bY,Bool.not_true,cond_false,if_true,if_false,Int.toNat_natCast]
   rw [f]
   have D:∀ O:Bool,kS.aC.v aA (M:Int) N T false [] (aE (val T / 2 ^ M)) O=fP (cE N (if pN aA N (val T / 2 ^ M % 2 == 1) O (e6 (val T % 2 ^ M) (2 ^ M - val T % 2 ^ M))=true then val T / 2 ^ M+1 else val T / 2 ^ M)):=by
    intro O
    unfold kS.aC.v
    simp only [HW]
    rw [HX (bD:=val T) (n:=M) (by omega) fun aN=>pO aA N (aE (val T / 2 ^ M)) O aN,DN _ _ _ _ aJ]
   simp only [D]
   have g:((0:Int) != 0)=false:=rfl
   rw [g,cond_false,pL]
   show _=fP (kE aA (cE N (val T)) (2 ^ M))
   rw [sE,DO aA (yU M) (wS a9),Bool.xor_false]
   by_cases b:T=[]
   ·subst b
    have c:decide (((([]:List Nat).length:Nat):Int) > 0)=false:=rfl
    have d:decide (val [] % 2 ^ M ≠ 0)=false:=by simp [val]
    rw [c,d];rfl
   ·have h:val T ≠ 0:=fun Z=>b ((vK a9.1).mp Z)
    have i:0 < T.length:=List.length_pos_iff.mpr b
    have c:decide (((T.length:Nat):Int) > 0)=true:=by simp;omega
    have d:decide (((ctz (val T):Nat):Int) < (M:Int))=decide (val T % 2 ^ M ≠ 0):=by
     rw [decide_eq_decide,← HI h];omega
    rw [c,d];rfl
  ·simp only [a,a9,decide_false,bY,Bool.not_false,cond_true,cond_false,if_false];rfl
theorem HZ(aA:Int){N L:Bool}{T u:List Nat}(e:Words T)(f:Words u):lK.v aA N T L u=hM (kE aA) (N,T) (L,u):=by
 unfold lK.v lK.F.v lK.aC.v hM
 rw [nD,nD]
 by_cases a9:eJ (N,T)
 ·by_cases a:eJ (L,u)
  ·simp only [a9,a,decide_true,bY,Bool.not_true,cond_false,and_self,if_true]
   have b:eV (L,u)=0↔u=[]:=by rw [pL,tY];exact vK a.1
   by_cases aB:u=[]
   ·rw [if_pos (b.mpr aB)];subst aB;rfl
   ·have c4:val u ≠ 0:=fun Z=>aB ((vK a.1).mp Z)
    have g:(((u.length:Nat):Int) == 0)=false:=by simp;exact aB
    rw [if_neg (fun Z=>aB (b.mp Z)),g,cond_false]
    have h:(aE (val T)).length≤8192:=by rw [yX a9 e];exact a9.1.1
    have c:(aE (val u)).length≤8192:=by rw [yX a f];exact a.1.1
    have i:m8 T u=(aE (val T / val u),aE (val T % val u),0):=by
     unfold m8
     rw [if_pos ⟨a9.1,a.1⟩,if_neg c4]
    have d:=Nat.mod_lt (val T) (show 0 < val u by omega)
    have j:(aE (val T % val u)).length≤8192:=Nat.le_trans (mD (Nat.le_of_lt d)) c
    have l:lH u (aE (val T % val u))=(aE (val u - val T % val u),0):=by
     rw [yF a.1 ⟨j,nR _⟩ (by rw [fA];exact Nat.le_of_lt d),fA]
     unfold eS;rw [if_pos (Nat.le_trans (mD (Nat.sub_le _ _)) c)]
    rw [i]
    simp only [l]
    have m:((0:Int) != 0)=false:=rfl
    rw [m,cond_false,fA,fA]
    show pO aA _ _ _ _=fP (kE aA (cE N (val T)) (cE L (val u)))
    rw [DN _ _ _ _ (Nat.le_trans (mD (Nat.div_le_self _ _)) h),DO aA c4 (wS a9)]
    have n:(!(N == L))=xor N L:=by cases N <;> cases L <;> rfl
    have t:decide (((aE (val T % val u)).length:Int) > 0)=decide (val T % val u ≠ 0):=by
     rw [← yQ,decide_eq_decide];omega
    rw [n,t]
  ·simp only [a9,a,decide_true,decide_false,bY,Bool.not_true,Bool.not_false,cond_false,cond_true,and_false,if_false];rfl
 ·simp only [a9,decide_false,bY,Bool.not_false,cond_true,false_and,if_false];rfl
section
variable {a N:U} {L bH l m:Nat} {T u:List Nat} {Z:V} {I aN:Int} {z o:Bool}
theorem kD.aY(Q:In .i64 I):aF kD.id #[.int .i64 I] Z fun v A=>a4 Z A∧dZ Z A v (fE I):=by rw [← HM Q];exact kD.aU Q
theorem eQ.aY(s:bJ Z a L T)(J:l=T.length):aF eQ.id #[.agg #[.bool z,.slice a l L]] Z fun v A=>a4 Z A∧h0 Z A v (decide (eJ (z,T))):=by rw [← nD];exact eQ.aU s J
theorem nB.aY(s:bJ Z a L T)(J:l=T.length):aF nB.id #[.agg #[.bool z,.slice a l L]] Z fun v A=>a4 Z A∧c3 .i64 Z A v (gA (eV (z,T)) 0):=by rw [← HL];exact nB.aU s J
theorem mM.aY(s:bJ Z a L T)(J:l=T.length):aF mM.id #[.agg #[.bool z,.slice a l L]] Z fun v A=>a4 Z A∧s2 (c3 .i64) (c3 .i64) Z A v (nA (z,T)):=by rw [← HV s.words];exact mM.aU s J
theorem nC.aY(s:bJ Z a L T)(J:l=T.length)(O:bJ Z N bH u)(a9:m=u.length):aF nC.id #[.agg #[.bool z,.slice a l L],.agg #[.bool o,.slice N m bH]] Z fun v A=>a4 Z A∧s2 (c3 .i64) (c3 .i64) Z A v (qL (z,T) (o,u)):=by rw [← HU];exact nC.aU s J O a9
theorem oL.aY(s:bJ Z a L T)(J:l=T.length):aF oL.id #[.agg #[.bool z,.slice a l L]] Z fun v A=>a4 Z A∧s2 dZ (c3 .i64) Z A v (oJ (z,T)):=by rw [← HN];exact oL.aU s J
theorem kQ.aY(s:bJ Z a L T)(J:l=T.length)(O:bJ Z N bH u)(a9:m=u.length):aF kQ.id #[.agg #[.bool z,.slice a l L],.agg #[.bool o,.slice N m bH]] Z fun v A=>a4 Z A∧s2 dZ (c3 .i64) Z A v (gR nZ (z,T) (o,u)):=by rw [← HQ];exact kQ.aU s J O a9
theorem kR.aY(s:bJ Z a L T)(J:l=T.length)(O:bJ Z N bH u)(a9:m=u.length):aF kR.id #[.agg #[.bool z,.slice a l L],.agg #[.bool o,.slice N m bH]] Z fun v A=>a4 Z A∧s2 dZ (c3 .i64) Z A v (gR oK (z,T) (o,u)):=by rw [← HR];exact kR.aU s J O a9
theorem oM.aY(s:bJ Z a L T)(J:l=T.length)(Q:In .i64 I):aF oM.id #[.agg #[.bool z,.slice a l L],.int .i64 I] Z fun v A=>a4 Z A∧s2 dZ (c3 .i64) Z A v (qK (z,T) I):=by rw [← HS];exact oM.aU s J Q
theorem kS.aY(C:In .i64 aN)(s:bJ Z a L T)(J:l=T.length)(Q:In .i64 I)(dX:gK Z):aF kS.id #[.int .i64 aN,.agg #[.bool z,.slice a l L],.int .i64 I] Z fun v A=>a4 Z A∧s2 dZ (c3 .i64) Z A v (iM (kE aN) (z,T) I):=by rw [← HY aN s.words Q];exact kS.aU C s J Q dX
theorem lK.aY(C:In .i64 aN)(s:bJ Z a L T)(J:l=T.length)(O:bJ Z N bH u)(a9:m=u.length):aF lK.id #[.int .i64 aN,.agg #[.bool z,.slice a l L],.agg #[.bool o,.slice N m bH]] Z fun v A=>a4 Z A∧s2 dZ (c3 .i64) Z A v (hM (kE aN) (z,T) (o,u)):=by rw [← HZ aN s.words O.words];exact lK.aU C s J O a9
end
end Go.Proofs.YtllhckjfhefcdaaGreatDoor.G
