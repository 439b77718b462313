import Derived.Test.YtjijdlkpmngolaaGreatKB
import Derived.Test.YtjijdlkpmngolaaGreatKC0
set_option linter.unusedVariables false
namespace Go.Proofs.YtjijdlkpmngolaaGreat.G
open Go.Gv
set_option maxRecDepth 100000
set_option linter.unusedVariables false
theorem J8{aH N:Nat}(bM:aH≤64):N / 2 ^ (64 - aH)=N*2 ^ aH / 18446744073709551616:=by
 have R:18446744073709551616=2 ^ (64 - aH)*2 ^ aH:=by rw [← Nat.pow_add,show 64 - aH+aH=64 by omega]
 rw [R,Nat.mul_div_mul_right _ _ (Nat.pow_pos (by decide))]
theorem J9{Y:aD}{n aH V aE:Nat}{g7:List Nat}{aX:U}(h:aX.size≤aE)(x:0 < aH)(bM:aH < 64)(y:g7.length=n)(z:n < 35184372088820)(i:Words g7)(j:val g7*2 ^ aH=V)(A:V < 2 ^ (64*n))
  (post:∀ Z a,a.length=n→Own Z aE a→bA aX Z→val a=V→Y (.slice (some ⟨aE,0,none⟩) n n) Z) :
  ∀ (S O c:Nat) (a:List Nat) (Z:U),O+S=n→a.length=n→Own Z aE a→bA aX Z→a.drop O=g7.drop O→c < 2 ^ aH→val (a.take O)+c*2 ^ (64*O)=val (g7.take O)*2 ^ aH→
   lV.bL.t Y (S+1) (aH:Int) (some ⟨aE,0,none⟩) n n (c:Int) (n:Int) (O:Int) Z:=by
 intro S
 induction S with
 | zero=>
  intro O c a Z a4 b aN cM e d R
  unfold lV.bL.t lV.b7.t
  refine b9 (fun f=>absurd f (by omega)) fun _=>?_
  unfold lV.a0.t
  have k:O=n:=by omega
  subst k
  rw [List.take_of_length_le (by omega),List.take_of_length_le (by omega),j] at R
  have m:c=0:=by
   rcases Nat.eq_zero_or_pos c with aX | aX
   ·exact aX
   ·have:1*2 ^ (64*O)≤c*2 ^ (64*O):=Nat.mul_le_mul_right _ aX
    omega
  subst m
  exact post Z a b aN cM (by omega)
 | succ S bU=>
  intro O c a Z a4 b aN cM e d R
  have g:a.getD O 0=g7.getD O 0:=by
   have:=congrArg (fun l=>l.headD 0) e
   simpa [z3] using this
  have o:=zH i O
  unfold lV.bL.t lV.b7.t
  refine b9 (fun _=>?_) fun f=>absurd (by omega) f
  have r:cG Z (some ⟨aE,0,none⟩) n a:=aN.rd (by omega)
  have p:c < 18446744073709551616:=Nat.lt_trans d (BT bM)
  refine fX r (aC:=O) rfl b.symm (by omega) ?_
  rw [g]
  refine qK rfl aH (2 ^ aH) (by omega) rfl rfl ?_
  refine zV rfl rfl (Nat.mod_lt _ (by decide)) p ?_
  rw [Nat.or_comm,EZ bM d]
  refine fX r (aC:=O) rfl b.symm (by omega) ?_
  rw [g]
  refine cO ((64 - aH:Nat):Int) (by omega) (by omega) (by omega) ?_
  refine mI rfl (64 - aH) (2 ^ (64 - aH)) (by omega) rfl rfl ?_
  rw [J8 (by omega)]
  have q:=E1 (N:=g7.getD O 0) bM d
  have s:=E0 (S:=aH) o
  refine mJ aN (aC:=O) rfl b.symm (by omega) rfl q fun u=>?_
  refine cO ((O+1:Nat):Int) (by omega) (by omega) (by omega) ?_
  refine bU (O+1) _ _ _ (by omega) (by simp [b]) u (cD.aR cM (cD.set _ _ _ _) h) ?_ s ?_
  ·rw [List.drop_set_of_lt (by omega),← List.drop_drop,← List.drop_drop,e]
  ·have v:(a.set O (g7.getD O 0*2 ^ aH % 18446744073709551616+c)).take (O+1)=a.take O ++ [g7.getD O 0*2 ^ aH % 18446744073709551616+c]:=pS (by omega)
   rw [v,hX,List.length_take,Nat.min_eq_left (by omega),BW,Nat.add_mul,← R,j2]
   have w:2 ^ (64*O)*g7.getD O 0*2 ^ aH=g7.getD O 0*2 ^ aH*2 ^ (64*O):=by rw [Nat.mul_assoc,Nat.mul_comm]
   rw [w]
   generalize g7.getD O 0*2 ^ aH=aP
   generalize 2 ^ (64*O)=P
   simp only [val,Nat.mul_zero,Nat.add_zero]
   have B:aP*P=aP % 18446744073709551616*P+aP / 18446744073709551616*(18446744073709551616*P):=by
    rw [← Nat.mul_assoc,← Nat.add_mul];congr 1;omega
   rw [Nat.mul_add,Nat.mul_comm P,Nat.mul_comm P]
   omega
theorem Fk(a6:List Nat)(m:Nat):val (a6 ++ List.replicate m 0)=val a6:=by rw [hX,s5];simp
theorem Fl{a:M}{c l n aH:Nat}{aA:List Nat}{Z:U}(r:cG Z a c aA)(g:l=aA.length)(bM:aH < 64)(h:aA.length≤n)(i:n < 35184372088820)(j:val aA*2 ^ aH < 2 ^ (64*n)):
  aY lV.id #[.slice a l c,.int .i64 (aH:Int),.int .i64 (n:Int)] Z fun v K=>bA Z K∧∃ aE b,v=.slice (some ⟨aE,0,none⟩) n n∧Z.size≤aE∧Own K aE b∧b.length=n∧val b=val aA*2 ^ aH:=by
 refine lV.ok ?_
 unfold lV.t lV.aL.t
 refine nZ n rfl rfl rfl rfl (by omega) fun aZ k b3=>?_
 rw [Int.toNat_natCast]
 refine zS k (r.aR b3) (by simp) g (Nat.le_refl _) b3 fun m d f=>?_
 have o:List.take (List.replicate n 0).length aA ++ List.drop aA.length (List.replicate n 0)=aA ++ List.replicate (n - aA.length) 0:=by
  rw [List.length_replicate,List.take_of_length_le h,List.drop_replicate]
 rw [o] at d
 have e:(aA ++ List.replicate (n - aA.length) 0).length=n:=by simp;omega
 refine eY (fun p=>?_) fun p=>?_
 ·have:aH=0:=by omega
  subst this
  exact⟨f,Z.size,_,rfl,Nat.le_refl _,d,e,by rw [Fk];simp⟩
 ·unfold lV.bF.t
  refine⟨n+1,J9 (g7:=aA ++ List.replicate (n - aA.length) 0) (Nat.le_refl Z.size) (by omega) bM e i d.words (by rw [Fk]) j (fun w b q s u cW=>⟨u,Z.size,b,rfl,Nat.le_refl _,s,q,cW⟩) n 0 0 _ m (by omega) e d f rfl (Nat.pow_pos (by decide)) (by simp [val])⟩
theorem Ka{L aE:Nat}(Z:L ≠ aE):fU aE (some ⟨L,0,none⟩):=fun p R=>by cases R;exact Z
def tH(aA aU:List Nat):List Nat × List Nat × Int:=if iT aA∧iT aU then(if val aU=0 then([],[],4) else(aK (val aA / val aU),aK (val aA % val aU),0)) else([],[],2)
abbrev vP:iS (List Nat × List Nat × Int):=hN s8 s8 (m6 .i64)
theorem vP.mk{aX Z:U}{a L:M}{c aV l m:Nat}{aA aU:List Nat}{N:Int}(r:cV dP aX Z a c aA)(aH:cV dP aX Z L aV aU)(b:l=aA.length)(d:m=aU.length)(O:In .i64 N):vP aX Z (.tuple #[.slice a l c,.slice L m aV,.int .i64 N]) (aA,aU,N):=by
 subst b;subst d
 exact⟨_,_,_,rfl,⟨_,_,rfl,r⟩,⟨_,_,rfl,aH⟩,rfl,O⟩
def lG(aX Z:U)(v:Value)(p:List Nat × List Nat × Int):Prop:=vP aX Z v p∧∀ a l c L m aV N,v=.tuple #[.slice a l c,.slice L m aV,N]→zR aX.size Z.size Z [(a,l,c),(L,m,aV)] [p.1,p.2.1]
theorem lG.mk{aX Z:U}{a L:M}{c aV l m:Nat}{aA aU:List Nat}{N:Int}(S:Nat)(aZ:aX.size≤S)(b:S≤Z.size)(aN:(gD aX.size S Z (a,l,c) aA∧gD S Z.size Z (L,m,aV) aU)∨(gD S Z.size Z (a,l,c) aA∧gD aX.size S Z (L,m,aV) aU))(O:In .i64 N):
  lG aX Z (.tuple #[.slice a l c,.slice L m aV,.int .i64 N]) (aA,aU,N):=by
 refine⟨?_,fun d e dF f dX g h R=>?_⟩
 ·rcases aN with ⟨p,aE⟩ | ⟨p,aE⟩
  ·exact vP.mk (gD.kF p (Nat.le_refl _)) (gD.kF aE aZ) p.1 aE.1 O
  ·exact vP.mk (gD.kF p aZ) (gD.kF aE (Nat.le_refl _)) p.1 aE.1 O
 ·simp only [Value.tuple.injEq,Array.mk.injEq,List.cons.injEq,Value.slice.injEq,and_true] at R
  obtain⟨⟨rfl,rfl,rfl⟩,⟨rfl,rfl,rfl⟩,rfl⟩:=R
  exact zR.pair aZ b aN
theorem lG.none{aX Z:U}{N:Int}(S:aX.size≤Z.size)(O:In .i64 N:=by decide):lG aX Z (.tuple #[.slice Option.none 0 0,.slice Option.none 0 0,.int .i64 N]) ([],[],N):=
 lG.mk aX.size (Nat.le_refl _) S (Or.inl ⟨gD.nil _ _ _,gD.nil _ _ _⟩) O
theorem Kb{aU:List Nat}(f:dS aU=aU)(Z:aU ≠ []):aU.getD (aU.length - 1) 0 ≠ 0:=(vJ.mp f).resolve_left Z
theorem Kc{a L:M}{c aV l m:Nat}{aA aU:List Nat}{Z:U}(r:cG Z a c aA)(aH:cG Z L aV aU)(PE:l=aA.length)(PF:m=aU.length):
  aY mM.id #[.slice a l c,.slice L m aV] Z fun v K=>bA Z K∧lG Z K v (tH aA aU):=by
 subst PE;subst PF
 refine mM.ok ?_
 unfold mM.t mM.aL.t
 refine cA (nA r rfl) fun v aZ ⟨e,f⟩=>?_
 subst e;subst f
 refine c5 rfl ?_
 refine jL (fun x=>⟨bA.refl _,?_⟩) fun x=>?_
 ·unfold tH;rw [if_neg (fun j=>of_decide_eq_false x j.1)];exact lG.none (Nat.le_refl _)
 refine cA (nA aH rfl) fun v Qk ⟨e,f⟩=>?_
 subst e;subst f
 refine c5 rfl ?_
 refine jL (fun y=>⟨bA.refl _,?_⟩) fun y=>?_
 ·unfold tH;rw [if_neg (fun j=>of_decide_eq_false y j.2)];exact lG.none (Nat.le_refl _)
 have k:=of_decide_eq_true x
 have q:=of_decide_eq_true y
 have s:=k.aK r.words
 have PG:=q.aK aH.words
 have I:=k.1;have PH:=q.1
 unfold mM.a0.t
 unfold tH
 rw [if_pos ⟨k,q⟩]
 refine eY (fun aX=>⟨bA.refl _,?_⟩) fun aX=>?_
 ·have:aU=[]:=List.length_eq_zero_iff.mp (by omega)
  subst this
  rw [if_pos (show val []=0 from rfl)];exact lG.none (Nat.le_refl _)
 have J:aU ≠ []:=fun R=>aX (by subst R;rfl)
 have z:=Kb q.2 J
 have PI:0 < aU.length:=List.length_pos_iff.mpr J
 have u:=Aa aH.words (m:=aU.length - 1) (by omega)
 have P:2 ^ (64*(aU.length - 1))≤val aU:=by
  refine Nat.le_of_not_lt fun j=>?_
  rw [Nat.div_eq_of_lt j] at u
  exact z u.symm
 have Q:val aU ≠ 0:=by
  have:0 < 2 ^ (64*(aU.length - 1)):=Nat.pow_pos (by decide)
  omega
 rw [if_neg Q]
 refine cA (BR r aH rfl rfl) fun v Ql ⟨e,f⟩=>?_
 subst e;subst f
 refine bQ rfl ?_
 refine b9 (fun g=>?_) fun g=>?_
 ·have T:val aA < val aU:=by unfold fA at g;split at g <;> (try split at g) <;> omega
  refine cA (BF r rfl) fun v A ⟨o,d⟩=>?_
  rw [k.fL r.words] at d
  refine d.h9 fun eA eF B _=>⟨o,?_⟩
  rw [Nat.div_eq_of_lt T,Nat.mod_eq_of_lt T,eP,s]
  exact lG.mk _ (Nat.le_refl _) o.le (Or.inl ⟨gD.nil _ _ _,gD.pQ B rfl (Nat.le_refl _) (Nat.le_refl _)⟩) (by decide)
 have PJ:val aU≤val aA:=by unfold fA at g;split at g <;> (try split at g) <;> omega
 refine eY (fun aZ=>?_) fun aZ=>?_
 ·have PK:aU.length=1:=by omega
  have PL:aU.getD 0 0=val aU:=by
   rw [PK] at u
   simpa using u.symm
  have V:=aH.word 0
  refine fX aH (aC:=0) rfl rfl (by omega) ?_
  rw [PL] at V ⊢
  refine cA (Fa r rfl V) fun v A ⟨o,d⟩=>?_
  have Qm:=Nat.mod_lt (val aA) (show 0 < val aU by omega)
  have PM:tF aA (val aU)=(aK (val aA / val aU),((val aA % val aU:Nat):Int),0):=by unfold tF;rw [if_pos k,if_neg Q]
  rw [PM] at d
  refine d.elim fun eA eF B=>?_
  refine cA (E6 (aB:=val aA % val aU) (by omega) A) fun v PN ⟨i,PO⟩=>?_
  refine vD.h9 PO fun bP bO PQ=>?_
  exact⟨o.trans i,lG.mk _ o.le i.le (Or.inl ⟨(gD.pQ B rfl (Nat.le_refl _) (Nat.le_refl _)).aR i,gD.pQ PQ rfl (Nat.le_refl _) (Nat.le_refl _)⟩) (by decide)⟩
 refine cO ((aU.length - 1:Nat):Int) (by omega) (by omega) (by omega) ?_
 refine fX aH (aC:=aU.length - 1) rfl rfl (by omega) ?_
 have PR:=aH.word (aU.length - 1)
 refine cA (E7 PR _) fun v A ⟨e,f⟩=>?_
 subst e;subst f
 refine bQ rfl ?_
 have Qn:=qG z
 have Qo:=w6 aH.words (n:=aU.length - 1) (by omega) z
 obtain⟨b,PS⟩:∃ b,b=64 - eB (aU.getD (aU.length - 1) 0):=⟨_,rfl⟩
 rw [← PS]
 have Pt:b < 64:=by omega
 have Qp:(2:Nat) ^ 64=18446744073709551616:=by decide
 have Qq:eB (aU.getD (aU.length - 1) 0)≤64:=h8.mpr (by omega)
 refine cO ((aA.length+1:Nat):Int) (by omega) (by omega) (by omega) ?_
 have PT:2 ^ b≤2 ^ 64:=Nat.pow_le_pow_right (by decide) (by omega)
 have h:0 < 2 ^ b:=Nat.pow_pos (by decide)
 have Pu:=h7 r.words
 have PU:val aA*2 ^ b < 2 ^ (64*(aA.length+1)):=by
  rw [Nat.mul_add,Nat.pow_add,Nat.mul_one]
  calc val aA*2 ^ b < 2 ^ (64*aA.length)*2 ^ b:=Nat.mul_lt_mul_of_pos_right Pu h
   _≤_:=Nat.mul_le_mul_left _ PT
 have Pv:val aU*2 ^ b < 2 ^ (64*aU.length):=by
  have aZ:val aU < 2 ^ (64*(aU.length - 1)+eB (aU.getD (aU.length - 1) 0)):=h8.mp (by omega)
  have e:64*aU.length=64*(aU.length - 1)+eB (aU.getD (aU.length - 1) 0)+b:=by omega
  rw [e,Nat.pow_add]
  exact Nat.mul_lt_mul_of_pos_right aZ h
 refine cA (Fl (n:=aA.length+1) r rfl Pt (by omega) (by omega) PU) fun v PN ⟨i,Pw,PV,cW,PW,C,PX,h2⟩=>?_
 subst cW
 refine bE rfl ?_
 refine cA (Fl (n:=aU.length) (aH.aR i) rfl Pt (Nat.le_refl _) (by omega) Pv) fun v PY ⟨Px,Py,bV,cW,Qr,Pz,PZ,D⟩=>?_
 subst cW
 refine bE rfl ?_
 have P0:bV.getD (aU.length - 1) 0 ≠ 0:=by
  rw [← Aa Pz.words (m:=aU.length - 1) (by omega),D]
  have aZ:2 ^ (64*(aU.length - 1))≤val aU*2 ^ b:=Nat.le_trans P (Nat.le_mul_of_pos_right _ h)
  have:=Nat.div_pos aZ (Nat.pow_pos (by decide))
  omega
 have Qs:aU.length≤aA.length:=by
  rw [← s,← PG];exact nV PJ
 have P1:val (PV.drop (aA.length+1 - aU.length)) < val bV:=by
  rw [k2 C.words,h2,D,Nat.div_lt_iff_lt_mul (Nat.pow_pos (by decide))]
  calc val aA*2 ^ b < 2 ^ (64*aA.length)*2 ^ b:=Nat.mul_lt_mul_of_pos_right Pu h
   _=2 ^ (64*(aU.length - 1))*2 ^ b*2 ^ (64*(aA.length+1 - aU.length)):=by
    rw [← Nat.pow_add,← Nat.pow_add,← Nat.pow_add];congr 1;omega
   _≤_:=Nat.mul_le_mul_right _ (Nat.mul_le_mul_right _ P)
 have Qt:=C.lt
 have P2:cG PY (some ⟨Py,0,none⟩) aU.length bV:=Pz.rd (by omega)
 have P3:Py ≠ Pw:=by omega
 refine cA (J7 P2 PZ rfl (Ka P3) PI P0 (by omega) (Nat.le_refl _) (by omega) PX (C.aR Px).BA P1) fun v PA ⟨P4,PB,eO,cW,Qu,P5,PC,P6,P7,Qv,p,eq⟩=>?_
 subst cW
 refine bE rfl ?_
 rw [h2,D] at p eq
 rw [Nat.mul_mod_mul_right] at p
 rw [Nat.mul_div_mul_right _ _ h] at eq
 have E:val PB < 2 ^ (64*aU.length):=by
  rw [p]
  exact Nat.lt_trans (Nat.mul_lt_mul_of_pos_right (Nat.mod_lt _ (by omega)) h) Pv
 have P8:=Fj (Nat.le_refl _) E PC.ok
 refine vH rfl (by omega) ?_
 have P9:cG PA (some ⟨Pw,0,none⟩) (aA.length+1) (PB.take aU.length):=((PC.qH (c:=aA.length+1) (by show _≤35184372088828;omega) (by omega)).w7).take _
 refine cA (BF P9 (by rw [List.length_take];omega)) fun v Qw ⟨w,d⟩=>?_
 rw [P8.2,p] at d
 have Qx:val aA % val aU < val aU:=Nat.mod_lt _ (by omega)
 have PD:(aK (val aA % val aU*2 ^ b)).length≤8192:=Nat.le_trans (gR.mpr (by rw [p] at E;exact E)) PH
 have Qa:fL (val aA % val aU*2 ^ b)=(aK (val aA % val aU*2 ^ b),0):=by unfold fL;rw [if_pos PD]
 rw [Qa] at d
 refine d.elim fun bR bT Qb=>?_
 refine cA (E4 Qb rfl (by omega)) fun v Qc ⟨F,d⟩=>?_
 have Qd:(aK (val aA % val aU)).length≤8192:=Nat.le_trans (nV (Nat.mod_le _ _)) (by rw [s];exact I)
 have Qe:tE (aK (val aA % val aU*2 ^ b)) (b:Int)=(aK (val aA % val aU),0):=by
  unfold tE
  rw [if_neg (by omega),if_pos ⟨PD,qF _⟩,e1,Int.toNat_natCast,Nat.mul_div_cancel _ h]
  unfold fL;rw [if_pos Qd]
 rw [Qe] at d
 refine d.h9 fun Qy Qz Qf _=>?_
 have Qg:cG Qc (some ⟨P4,0,none⟩) (aA.length+1 - aU.length) eO:=((P6.qH (c:=aA.length+1 - aU.length) (by show _≤35184372088828;omega) (by omega)).w7).aR (w.trans F)
 refine cA (BF Qg P5.symm) fun v fM ⟨G,d⟩=>?_
 have Qh:(aK (val aA / val aU)).length≤8192:=Nat.le_trans (nV (Nat.div_le_self _ _)) (by rw [s];exact I)
 have Qi:fL (val eO)=(aK (val aA / val aU),0):=by rw [eq];unfold fL;rw [if_pos Qh]
 rw [Qi] at d
 refine d.h9 fun QA QB Qj _=>?_
 have H:bA _ PA:=P7.aR (i.trans Px) PW
 exact⟨H.trans (w.trans (F.trans G)),lG.mk _ (H.trans (w.trans F)).le G.le (Or.inr ⟨gD.pQ Qj rfl (Nat.le_refl _) (Nat.le_refl _),(gD.pQ Qf rfl (H.trans w).le (Nat.le_refl _)).aR G⟩) (by decide)⟩
theorem Kd{a L:M}{c aV l m:Nat}{aA aU:List Nat}{Z:U}(r:cG Z a c aA)(aH:cG Z L aV aU)(b:l=aA.length)(d:m=aU.length):
  aY mM.id #[.slice a l c,.slice L m aV] Z fun v K=>bA Z K∧vP Z K v (tH aA aU):=
 cA (Kc r aH b d) fun v K ⟨S,t⟩=>⟨S,t.1⟩
def fE(n:Nat):Prop:=(aK n).length≤8192
theorem Ke{n S m:Nat}(Z:n < 2 ^ S)(a:S≤64*m):(aK n).length≤m:=
 gR.mpr (Nat.lt_of_lt_of_le Z (Nat.pow_le_pow_right (by decide) a))
theorem jJ{n S:Nat}(Z:n < 2 ^ S)(a:S≤524288):fE n:=Ke Z (m:=8192) a
theorem jV{n m:Nat}(Z:n≤m)(aH:fE m):fE n:=Nat.le_trans (nV Z) aH
theorem oV{n:Nat}(Z:n < 18446744073709551616):fE n:=jJ (S:=64) (by rw [show(2:Nat) ^ 64=18446744073709551616 by decide];exact Z) (by omega)
theorem tI{n:Nat}(aH:fE n):fL n=(aK n,0):=if_pos aH
theorem nF{n:Nat}(aH:fE n):iT (aK n):=⟨aH,qF n⟩
section
variable {a L:M} {c aV l m N aP:Nat} {Z:U}
theorem n2{aF:M→Nat→Nat→U→Prop}(b:N < 18446744073709551616)
  (g:∀ a c K,bA Z K→cV dP Z K a c (aK N)→aF a (aK N).length c K) :
  aY j8.id #[.int .u64 (N:Int)] Z fun v K=>aQ v fun a l c=>aF a l c K:=by
 refine cA (E6 b Z) fun v K ⟨S,aH⟩=>?_
 exact aH.h9 fun a c r=>g a c K S r
theorem tJ{aF:M→Nat→Nat→Int→U→Prop}(r:cG Z a c (aK N))(b:l=(aK N).length)(aH:cG Z L aV (aK aP))(d:m=(aK aP).length)(g5:fE (N+aP))
  (g:∀ a c K,bA Z K→cV dP Z K a c (aK (N+aP))→aF a (aK (N+aP)).length c 0 K) :
  aY iZ.id #[.slice a l c,.slice L m aV] Z fun v K=>cT v fun aP=>cQ aP fun e eH=>aQ e fun a l c=>cQ eH fun f h=>aW .i64 f fun N=>b5 h (aF a l c N K):=by
 refine cA (JB r aH b d) fun v K ⟨S,t⟩=>?_
 have R:vN (aK N) (aK aP)=(aK (N+aP),0):=by
  unfold vN;rw [if_pos ⟨nF (jV (by omega) g5),nF (jV (by omega) g5)⟩,e1,e1,tI g5]
 rw [R] at t
 exact t.h9 fun a c r O=>g a c K S r
theorem tK{aF:M→Nat→Nat→Int→U→Prop}(r:cG Z a c (aK N))(b:l=(aK N).length)(aH:cG Z L aV (aK aP))(d:m=(aK aP).length)(gW:fE N)(e:fE aP)
  (g:∀ a c K,bA Z K→cV dP Z K a c (aK (N - aP))→aF a (aK (N - aP)).length c (if N < aP then 3 else 0) K) :
  aY jS.id #[.slice a l c,.slice L m aV] Z fun v K=>cT v fun aP=>cQ aP fun f eH=>aQ f fun a l c=>cQ eH fun h i=>aW .i64 h fun N=>b5 i (aF a l c N K):=by
 refine cA (JD r aH b d) fun v K ⟨S,t⟩=>?_
 have R:vO (aK N) (aK aP)=(aK (N - aP),if N < aP then 3 else 0):=by
  unfold vO;rw [if_pos ⟨nF gW,nF e⟩,e1,e1]
  split
  ·rw [show N - aP=0 by omega,eP]
  ·exact tI (jV (by omega) gW)
 rw [R] at t
 exact t.h9 fun a c r O=>g a c K S r
theorem tL{aF:M→Nat→Nat→Int→U→Prop}{aB:Nat}(r:cG Z a c (aK N))(b:l=(aK N).length)(d:aB < 18446744073709551616)(gW:fE N)(g5:fE (N*aB))
  (g:∀ a c K,bA Z K→cV dP Z K a c (aK (N*aB))→aF a (aK (N*aB)).length c 0 K) :
  aY jT.id #[.slice a l c,.int .u64 (aB:Int)] Z fun v K=>cT v fun aP=>cQ aP fun e eH=>aQ e fun a l c=>cQ eH fun f h=>aW .i64 f fun N=>b5 h (aF a l c N K):=by
 refine cA (JO r b d) fun v K ⟨S,t⟩=>?_
 have R:z5 (aK N) aB=(aK (N*aB),0):=by unfold z5;rw [if_pos (nF gW),e1,tI g5]
 rw [R] at t
 exact t.h9 fun a c r O=>g a c K S r
theorem BX{aF:M→Nat→Nat→Int→Int→U→Prop}{aB:Nat}(r:cG Z a c (aK N))(b:l=(aK N).length)(aX:aB ≠ 0)(d:aB < 18446744073709551616)(gW:fE N)
  (g:∀ a c K,bA Z K→cV dP Z K a c (aK (N / aB))→aF a (aK (N / aB)).length c ((N % aB:Nat):Int) 0 K) :
  aY j9.id #[.slice a l c,.int .u64 (aB:Int)] Z fun v K=>cT v fun aP=>cQ aP fun e eH=>aQ e fun a l c=>cQ eH fun f h=>aW .u64 f fun N=>cQ h fun i j=>aW .i64 i fun bI=>b5 j (aF a l c N bI K):=by
 refine cA (Fa r b d) fun v K ⟨S,t⟩=>?_
 have R:tF (aK N) aB=(aK (N / aB),((N % aB:Nat):Int),0):=by unfold tF;rw [if_pos (nF gW),if_neg aX,e1]
 rw [R] at t
 exact t.elim fun a c r=>g a c K S r
theorem xI{aF:M→Nat→Nat→Int→U→Prop}{n:Nat}{O:Int}(a4:O=(n:Int))(r:cG Z a c (aK N))(b:l=(aK N).length)(h:n < 9223372036854775808)(gW:fE N)(g5:fE (N*2 ^ n))
  (g:∀ a c K,bA Z K→cV dP Z K a c (aK (N*2 ^ n))→aF a (aK (N*2 ^ n)).length c 0 K) :
  aY kN.id #[.slice a l c,.int .i64 O] Z fun v K=>cT v fun aP=>cQ aP fun d eH=>aQ d fun a l c=>cQ eH fun e f=>aW .i64 e fun N=>b5 f (aF a l c N K):=by
 subst a4
 refine cA (JG r b (by omega)) fun v K ⟨S,t⟩=>?_
 have R:xE (aK N) (n:Int)=(aK (N*2 ^ n),0):=by unfold xE;rw [if_neg (by omega),if_pos (nF gW),e1,Int.toNat_natCast,tI g5]
 rw [R] at t
 exact t.h9 fun a c r O=>g a c K S r
theorem BY{aF:M→Nat→Nat→Int→U→Prop}{n:Nat}{O:Int}(a4:O=(n:Int))(r:cG Z a c (aK N))(b:l=(aK N).length)(h:n < 9223372036854775808)(gW:fE N)
  (g:∀ a c K,bA Z K→cV dP Z K a c (aK (N / 2 ^ n))→aF a (aK (N / 2 ^ n)).length c 0 K) :
  aY kV.id #[.slice a l c,.int .i64 O] Z fun v K=>cT v fun aP=>cQ aP fun d eH=>aQ d fun a l c=>cQ eH fun e f=>aW .i64 e fun N=>b5 f (aF a l c N K):=by
 subst a4
 refine cA (E4 r b (by omega)) fun v K ⟨S,t⟩=>?_
 have R:tE (aK N) (n:Int)=(aK (N / 2 ^ n),0):=by unfold tE;rw [if_neg (by omega),if_pos (nF gW),e1,Int.toNat_natCast,tI (jV (Nat.div_le_self _ _) gW)]
 rw [R] at t
 exact t.h9 fun a c r O=>g a c K S r
theorem Fm{aF:M→Nat→Nat→Int→U→Prop}{n:Nat}{O:Int}(a4:O=(n:Int))(r:cG Z a c (aK N))(b:l=(aK N).length)(h:n < 9223372036854775808)(gW:fE N)
  (g:∀ a c K,bA Z K→cV dP Z K a c (aK (N % 2 ^ n))→aF a (aK (N % 2 ^ n)).length c 0 K) :
  aY oS.id #[.slice a l c,.int .i64 O] Z fun v K=>cT v fun aP=>cQ aP fun d eH=>aQ d fun a l c=>cQ eH fun e f=>aW .i64 e fun N=>b5 f (aF a l c N K):=by
 subst a4
 refine cA (JL r b (by omega)) fun v K ⟨S,t⟩=>?_
 have R:xF (aK N) (n:Int)=(aK (N % 2 ^ n),0):=by unfold xF;rw [if_neg (by omega),if_pos (nF gW),e1,Int.toNat_natCast,tI (jV (Nat.mod_le _ _) gW)]
 rw [R] at t
 exact t.h9 fun a c r O=>g a c K S r
theorem qO{aF:Int→U→Prop}(r:cG Z a c (aK N))(b:l=(aK N).length)(aH:cG Z L aV (aK aP))(d:m=(aK aP).length)(g:aF (fA N aP) Z):
  aY iU.id #[.slice a l c,.slice L m aV] Z fun v K=>aW .i64 v fun N=>aF N K:=by
 refine cA (BR r aH b d) fun v K ⟨e,f⟩=>?_
 subst e;subst f
 rw [e1,e1];exact g
theorem BZ{aF:Int→U→Prop}(r:cG Z a c (aK N))(b:l=(aK N).length)(g:aF ((eB N:Nat):Int) Z):
  aY oN.id #[.slice a l c] Z fun v K=>aW .i64 v fun N=>aF N K:=by
 refine cA (Ez r b) fun v K ⟨d,e⟩=>?_
 subst d;subst e
 rw [e1];exact g
theorem xJ{aF:M→Nat→Nat→M→Nat→Nat→Int→U→Prop}(r:cG Z a c (aK N))(b:l=(aK N).length)(aH:cG Z L aV (aK aP))(d:m=(aK aP).length)(aX:aP ≠ 0)(gW:fE N)(e:fE aP)
  (g:∀ a c L aV K,bA Z K→cV dP Z K a c (aK (N / aP))→cV dP Z K L aV (aK (N % aP))→aF a (aK (N / aP)).length c L (aK (N % aP)).length aV 0 K) :
  aY mM.id #[.slice a l c,.slice L m aV] Z fun v K=>cT v fun aP=>cQ aP fun f eH=>aQ f fun a l c=>cQ eH fun h i=>aQ h fun L m aV=>cQ i fun j k=>aW .i64 j fun bI=>b5 k (aF a l c L m aV bI K):=by
 refine cA (Kd r aH b d) fun v K ⟨S,t⟩=>?_
 have R:tH (aK N) (aK aP)=(aK (N / aP),aK (N % aP),0):=by unfold tH;rw [if_pos ⟨nF gW,nF e⟩,e1,e1,if_neg aX]
 rw [R] at t
 obtain⟨_,_,_,n,⟨a,c,o,p⟩,⟨L,aV,q,s⟩,u,_⟩:=t
 subst n;subst o;subst q;subst u
 exact g a c L aV K S p s
end
def fP(n:Nat):Prop:=(D.aK n).length≤1000000
theorem xK{n S m:Nat}(Z:n < 2 ^ S)(a:S≤32*m):(D.aK n).length≤m:=BB.mpr (Nat.lt_of_lt_of_le Z (Nat.pow_le_pow_right (by decide) a))
theorem vQ{n S:Nat}(Z:n < 2 ^ S)(a:S≤32000000):fP n:=xK Z a
theorem rX{n m:Nat}(Z:n≤m)(aH:fP m):fP n:=Nat.le_trans (D.nV Z) aH
theorem kW{n:Nat}(aH:fE n):fP n:=Nat.le_trans ((s9 n).mpr aH) (by decide)
theorem lW{n:Nat}(Z:n < 18446744073709551616):fP n:=kW (oV Z)
theorem fP.l{n:Nat}(aH:fP n):(D.aK n).length≤1099511627770:=Nat.le_trans aH (by decide)
section
variable {a L:M} {c aV l m N aP:Nat} {Z:U}
theorem kO{aF:M→Nat→Nat→U→Prop}{O:Int}(a4:O=(N:Int))(b:N < 18446744073709551616)
  (g:∀ a c K,bA Z K→cV b6 Z K a c (D.aK N)→aF a (D.aK N).length c K) :
  aY gF.id #[.int .u64 O] Z fun v K=>aQ v fun a l c=>aF a l c K:=by
 refine cA (n1 a4 b Z) fun v K ⟨S,aH⟩=>?_
 exact aH.elim fun a c r=>g a c K S r
theorem Ab{aF:M→Nat→Nat→U→Prop}(r:cH b6 Z a c (D.aK N))(b:l=(D.aK N).length)
  (g:∀ a c K,bA Z K→cV dP Z K a c (aK N)→aF a (aK N).length c K) :
  aY j7.id #[.slice a l c] Z fun v K=>aQ v fun a l c=>aF a l c K:=by
 refine cA (ED r b) fun v K ⟨S,aH⟩=>?_
 obtain⟨a,c,R,r⟩:=aH
 subst R;exact bE rfl (g a c K S r)
theorem nG{aF:M→Nat→Nat→U→Prop}(r:cH b6 Z a c (D.aK N))(b:l=(D.aK N).length)(aH:cH b6 Z L aV (D.aK aP))(d:m=(D.aK aP).length)(e:fP N)(f:fP aP)
  (g:∀ a c K,bA Z K→cV b6 Z K a c (D.aK (N+aP))→aF a (D.aK (N+aP)).length c K) :
  aY gS.id #[.slice a l c,.slice L m aV] Z fun v K=>aQ v fun a l c=>aF a l c K:=by
 refine cA (BK r aH b d (Nat.le_trans e.l (by decide)) (Nat.le_trans f.l (by decide))) fun v K ⟨S,aH⟩=>?_
 exact aH.elim fun a c r=>g a c K S r
theorem vR{aF:M→Nat→Nat→U→Prop}(r:cH b6 Z a c (D.aK N))(b:l=(D.aK N).length)(aH:cH b6 Z L aV (D.aK aP))(d:m=(D.aK aP).length)(e:fP N)(f:fP aP)
  (g:∀ a c K,bA Z K→cV b6 Z K a c (D.aK (N*aP))→aF a (D.aK (N*aP)).length c K) :
  aY hG.id #[.slice a l c,.slice L m aV] Z fun v K=>aQ v fun a l c=>aF a l c K:=by
 refine cA (EH r aH b d (Nat.le_trans e.l (by decide)) (Nat.le_trans f.l (by decide))) fun v K ⟨S,aH⟩=>?_
 exact aH.elim fun a c r=>g a c K S r
theorem n3{aF:M→Nat→Nat→U→Prop}(r:cH b6 Z a c (D.aK N))(b:l=(D.aK N).length)(aH:cH b6 Z L aV (D.aK aP))(d:m=(D.aK aP).length)
  (g:∀ a c K,bA Z K→cV b6 Z K a c (D.aK (N - aP))→aF a (D.aK (N - aP)).length c K) :
  aY g1.id #[.slice a l c,.slice L m aV] Z fun v K=>aQ v fun a l c=>aF a l c K:=by
 refine cA (EN r aH b d) fun v K ⟨S,aH⟩=>?_
 exact aH.elim fun a c r=>g a c K S r
theorem pT{aF:Int→U→Prop}(r:cH b6 Z a c (D.aK N))(b:l=(D.aK N).length)(aH:cH b6 Z L aV (D.aK aP))(d:m=(D.aK aP).length)(g:aF (fA N aP) Z):
  aY hZ.id #[.slice a l c,.slice L m aV] Z fun v K=>aW .i64 v fun N=>aF N K:=by
 refine cA (zW r aH b d) fun v K ⟨e,f⟩=>?_
 subst e;subst f;exact g
theorem Ac{aF:M→Nat→Nat→U→Prop}{n:Nat}{O:Int}(a4:O=(n:Int))(r:cH b6 Z a c (D.aK N))(b:l=(D.aK N).length)(d:n < 9223372036854775808)
  (g:∀ a c K,bA Z K→cV b6 Z K a c (D.aK (N / 2 ^ n))→aF a (D.aK (N / 2 ^ n)).length c K) :
  aY kT.id #[.slice a l c,.int .i64 O] Z fun v K=>aQ v fun a l c=>aF a l c K:=by
 refine cA (BP r b a4 d) fun v K ⟨S,aH⟩=>?_
 exact aH.elim fun a c r=>g a c K S r
theorem Fo{aF:M→Nat→Nat→U→Prop}{n:Nat}{O:Int}(a4:O=(n:Int))(r:cH b6 Z a c (D.aK N))(b:l=(D.aK N).length)(d:n≤35184372088832)(e:fP N)
  (g:∀ a c K,bA Z K→cV b6 Z K a c (D.aK (N*2 ^ n))→aF a (D.aK (N*2 ^ n)).length c K) :
  aY kM.id #[.slice a l c,.int .i64 O] Z fun v K=>aQ v fun a l c=>aF a l c K:=by
 refine cA (zZ r b a4 d (Nat.le_trans e.l (by decide))) fun v K ⟨S,aH⟩=>?_
 exact aH.elim fun a c r=>g a c K S r
theorem Ad{aF:M→Nat→Nat→U→Prop}{n:Nat}{O:Int}(a4:O=(n:Int))(r:cH b6 Z a c (D.aK N))(b:l=(D.aK N).length)(d:n < 9223372036854775808)(e:fP N)
  (g:∀ a c K,bA Z K→cV b6 Z K a c (D.aK (N % 2 ^ n))→aF a (D.aK (N % 2 ^ n)).length c K) :
  aY jR.id #[.slice a l c,.int .i64 O] Z fun v K=>aQ v fun a l c=>aF a l c K:=by
 refine cA (EK r b a4 d (Nat.le_trans e.l (by decide))) fun v K ⟨S,aH⟩=>?_
 exact aH.elim fun a c r=>g a c K S r
theorem Ae{aF:M→Nat→Nat→U→Prop}{aB:Nat}{O:Int}(r:cH b6 Z a c (D.aK N))(b:l=(D.aK N).length)(a4:O=(aB:Int))(d:aB < 4294967296)(e:fP N)
  (g:∀ a c K,bA Z K→cV b6 Z K a c (D.aK (N*aB))→aF a (D.aK (N*aB)).length c K) :
  aY kL.id #[.slice a l c,.int .u32 O,.int .u32 0] Z fun v K=>aQ v fun a l c=>aF a l c K:=by
 refine cA (EO r b a4 (bI:=0) rfl d (by decide) (Nat.le_trans e.l (by decide))) fun v K ⟨S,aH⟩=>?_
 rw [D.e1,Nat.add_zero] at aH
 exact aH.elim fun a c r=>g a c K S r
theorem vS{aF:M→Nat→Nat→Int→U→Prop}{aB:Nat}{O:Int}(r:cH b6 Z a c (D.aK N))(b:l=(D.aK N).length)(a4:O=(aB:Int))(d:aB < 4294967296)(e:0 < aB)
  (g:∀ a c K,bA Z K→cV b6 Z K a c (D.aK (N / aB))→aF a (D.aK (N / aB)).length c ((N % aB:Nat):Int) K) :
  aY jM.id #[.slice a l c,.int .u32 O] Z fun v K=>cT v fun aP=>cQ aP fun f eH=>aQ f fun a l c=>cQ eH fun h i=>aW .u32 h fun bI=>b5 i (aF a l c bI K):=by
 refine cA (BM r b a4 d e) fun v K ⟨S,aJ,aG,R,aH⟩=>?_
 rw [D.e1] at R aH
 subst R
 exact gE rfl (cF (bE rfl (cF (bQ rfl (dR (g aJ aG K S aH))))))
theorem tM{aF:M→Nat→Nat→M→Nat→Nat→U→Prop}(r:cH b6 Z a c (D.aK N))(b:l=(D.aK N).length)(aH:cH b6 Z L aV (D.aK aP))(d:m=(D.aK aP).length)(e:fP N)(f:aP ≠ 0)
  (g:∀ a c L aV K,bA Z K→cV b6 Z K a c (D.aK (N / aP))→cV b6 Z K L aV (D.aK (N % aP))→aF a (D.aK (N / aP)).length c L (D.aK (N % aP)).length aV K) :
  aY hK.id #[.slice a l c,.slice L m aV] Z fun v K=>cT v fun aP=>cQ aP fun h eH=>aQ h fun a l c=>cQ eH fun i j=>aQ i fun L m aV=>b5 j (aF a l c L m aV K):=by
 refine cA (EV r aH b d e.l) fun v K ⟨S,t⟩=>?_
 have R:nE N aP=(N / aP,N % aP):=if_neg f
 rw [R] at t
 obtain⟨_,_,k,⟨aJ,aG,n,o⟩,⟨e6,d1,p,q⟩⟩:=t
 subst k;subst n;subst p
 exact gE rfl (cF (bE rfl (cF (bE rfl (dR (g aJ aG e6 d1 K S o q))))))
theorem Fp{aF:Int→U→Prop}(r:cH b6 Z a c (D.aK N))(b:l=(D.aK N).length)(g:aF ((eB N:Nat):Int) Z):
  aY kK.id #[.slice a l c] Z fun v K=>aW .i64 v fun N=>aF N K:=by
 refine cA (Jd r b) fun v K ⟨d,e⟩=>?_
 subst d;subst e;exact bQ rfl g
end
theorem Fq(aA:List Nat):aA.take (dS aA).length=dS aA:=by
 induction aA with
 | nil=>rfl
 | cons N aA bU=>
  simp only [dS]
  split
  ·rfl
  ·simp [bU]
theorem Kf{Y:aD}{a:M}{c l:Nat}{aA:List Nat}{Z:U}(r:cG Z a c aA)(e:l=aA.length)(g:Y (.slice a (dS aA).length (dS aA).length) Z):
  ∀ n:Nat,n≤aA.length→dS (aA.take n)=dS aA→lX.cK.t Y (n+1) a l c (n:Int) Z:=by
 have aZ:=r.len
 intro n
 have fin:∀ n:Nat,n≤aA.length→dS aA=aA.take n→lX.a0.t Y a l c (n:Int) Z:=by
  intro n b R
  refine Bp rfl rfl (Nat.le_trans b r.cap) ?_
  have f:(dS aA).length=n:=by rw [R,List.length_take];omega
  rw [← f];exact g
 induction n with
 | zero=>
  intro b d
  unfold lX.cK.t lX.cE.t
  refine b9 (fun Z=>absurd Z (by omega)) fun _=>fin 0 b ?_
  rw [← d];rfl
 | succ n bU=>
  intro b d
  refine b9 (fun _=>?_) fun Z=>absurd (by omega) Z
  refine cO (n:Int) (by omega) (by omega) (by omega) ?_
  refine fX r (aC:=n) rfl e (by omega) ?_
  have es:=lS (aA:=aA) (n:=n) (by omega)
  refine eY (fun h=>?_) fun h=>?_
  ·refine cO (n:Int) (by omega) (by omega) (by omega) ?_
   refine bU (by omega) ?_
   rw [← d,es,show aA.getD n 0=0 by omega,vI]
  ·refine fin (n+1) b ?_
   rw [← d,es,xC _ (by omega)]
theorem Af{Z:U}{a:M}{c:Nat}{aA:List Nat}(r:cG Z a c aA):cG Z a (dS aA).length (dS aA):=by
 have:=r.take (dS aA).length
 rw [Fq] at this;exact this.rY (Nat.le_refl _)
theorem xL{a:M}{c l:Nat}{aA:List Nat}{Z:U}(r:cG Z a c aA)(b:l=aA.length):
  aY lX.id #[.slice a l c] Z fun v K=>K=Z∧v=.slice a (dS aA).length (dS aA).length:=by
 refine lX.ok ?_
 refine⟨aA.length+1,?_⟩
 subst b
 exact Kf r rfl ⟨rfl,rfl⟩ aA.length (Nat.le_refl _) (by rw [List.take_length])
theorem Kg{Y:aD}{c n T aE:Nat}{aX:U}(f:T < 2 ^ (64*n))(g:∀ K a6,cD aE aX K→fF K aE a6→a6.length=n→val a6=T→Y (.tuple #[]) K)(j:n≤35184372088828):
  ∀ (S O a:Nat) (a6:List Nat) (Z:U),O+S=n→a≤1→a6.length=n→fF Z aE a6→cD aE aX Z→val a6+a*2 ^ (64*O)=T→
   jN.cK.t Y (S+1) (some ⟨aE,0,none⟩) n c (a:Int) (O:Int) Z:=by
 intro S
 induction S with
 | zero=>
  intro O a a6 Z a4 e b aN cM R
  unfold jN.cK.t jN.cE.t
  refine b9 (fun d=>?_) fun d=>?_
  ·have:a=1:=by omega
   subst this
   have:=Bq (a6:=a6) (T:=T) (O:=O) rfl (by omega) (by rw [b];exact f)
   omega
  ·have:a=0:=by omega
   subst this
   exact g _ _ cM aN b (by omega)
 | succ S bU=>
  intro O a a6 Z a4 e b aN cM R
  unfold jN.cK.t jN.cE.t
  refine b9 (fun d=>?_) fun d=>?_
  ·have k:=aN.word O
   refine fX (aN.rd (c:=n) (by omega)) (aC:=O) rfl (by omega) (by omega) ?_
   refine pR (L:=0) rfl rfl rfl e ?_
   refine vB aN (aC:=O) rfl b.symm (by omega) rfl (by omega) fun h i=>?_
   refine cO ((O+1:Nat):Int) (by omega) (by omega) (by omega) ?_
   refine bU (O+1) _ _ _ (by omega) (by omega) (by simp [b]) h (cM.trans i) ?_
   have bM:=lQ (a6:=a6) (aC:=O) (v:=(a6.getD O 0+0+a) % 18446744073709551616) (by omega)
   have:=zI (bC:=18446744073709551616) (p:=0) (c:=a) (r:=0) (jI:=(a6.getD O 0+0+a) % 18446744073709551616) (dF:=(a6.getD O 0+0+a) / 18446744073709551616) (by omega) bM
   rw [j2]
   simp only [Nat.zero_add,Nat.mul_zero] at this ⊢
   omega
  ·have:a=0:=by omega
   subst this
   exact g _ _ cM aN b (by omega)
theorem Kh{Y:aD}{a:M}{c aG l n at_ T aE:Nat}{b:List Nat}{aX:U}(r:cG aX a aG b)(j:l=b.length)(k:b=[]∨fU aE a)(m:T < 2 ^ (64*n))(x:at_+b.length≤n)(o:n≤35184372088828)
  (g:∀ K a6,cD aE aX K→fF K aE a6→a6.length=n→val a6=T→Y (.tuple #[]) K) :
  ∀ (S O d:Nat) (a6:List Nat) (Z:U),O+S=b.length→d≤1→a6.length=n→fF Z aE a6→cD aE aX Z→val a6+(val (b.drop O)+d)*2 ^ (64*(at_+O))=T→
   jN.fS.t Y (S+1) (some ⟨aE,0,none⟩) n c a l aG (at_:Int) (d:Int) (l:Int) (O:Int) Z:=by
 subst j
 intro S
 induction S with
 | zero=>
  intro O d a6 Z a4 h f aN cM R
  unfold jN.fS.t jN.eW.t
  refine b9 (fun e=>absurd e (by omega)) fun e=>?_
  unfold jN.a0.t
  have q:O=b.length:=by omega
  subst q
  refine cO ((at_+b.length:Nat):Int) (by omega) (by omega) (by omega) ?_
  refine⟨n - (at_+b.length)+1,?_⟩
  refine Kg m g o _ _ _ a6 Z (by omega) h f aN cM ?_
  rw [List.drop_length] at R
  simpa [val] using R
 | succ S bU=>
  intro O d a6 Z a4 h f aN cM R
  have y:=aN.word (at_+O)
  have z:=r.word O
  have s:fU aE a:=by
   rcases k with i | i
   ·subst i;simp at a4
   ·exact i
  unfold jN.fS.t jN.eW.t
  refine b9 (fun e=>?_) fun e=>absurd (by omega) e
  refine cO ((at_+O:Nat):Int) (by omega) (by omega) (by omega) ?_
  refine cO ((at_+O:Nat):Int) (by omega) (by omega) (by omega) ?_
  refine fX (aN.rd (c:=n) (by omega)) (aC:=at_+O) rfl (by omega) (by omega) ?_
  refine fX (r.cL s cM) (aC:=O) rfl rfl (by omega) ?_
  refine pR rfl rfl rfl h ?_
  refine vB aN (aC:=at_+O) rfl f.symm (by omega) rfl (by omega) fun u w=>?_
  refine cO ((O+1:Nat):Int) (by omega) (by omega) (by omega) ?_
  refine bU (O+1) _ _ _ (by omega) (by omega) (by simp [f]) u (cM.trans w) ?_
  have bM:=lQ (a6:=a6) (aC:=at_+O) (v:=(a6.getD (at_+O) 0+b.getD O 0+d) % 18446744073709551616) (by omega)
  have:=zI (bC:=18446744073709551616) (p:=b.getD O 0) (c:=d) (r:=val (b.drop (O+1))) (jI:=(a6.getD (at_+O) 0+b.getD O 0+d) % 18446744073709551616) (dF:=(a6.getD (at_+O) 0+b.getD O 0+d) / 18446744073709551616) (by omega) bM
  rw [← Nat.add_assoc,j2,this,← lE];exact R
theorem Ag{a:M}{c aG l n m at_ aE:Nat}{a6 b:List Nat}{Z:U}(aN:fF Z aE a6)(r:cG Z a aG b)(e:l=b.length)(f:n=a6.length)(g:b=[]∨fU aE a)(h:val a6+val b*2 ^ (64*at_) < 2 ^ (64*a6.length))(i:at_+b.length≤a6.length){N:Int}(j:N=(at_:Int))(k:m=n):
  aY jN.id #[.slice (some ⟨aE,0,none⟩) m c,.slice a l aG,.int .i64 N] Z fun v K=>v=.tuple #[]∧cD aE Z K∧∃ d,fF K aE d∧d.length=a6.length∧val d=val a6+val b*2 ^ (64*at_):=by
 subst j;subst f;subst k
 refine jN.ok ?_
 unfold jN.t jN.aL.t jN.c8.t
 have o:=aN.len
 refine⟨b.length+1,?_⟩
 refine Kh r e g h i o (fun K d S fO p R=>⟨rfl,S,d,fO,p,R⟩) b.length 0 0 a6 Z (by omega) (by omega) rfl aN (cD.refl _ _) ?_
 simp
theorem Ki{Y:aD}{c n T aE:Nat}{aX:U}(g:∀ K a6,cD aE aX K→fF K aE a6→a6.length=n→val a6=T→Y (.tuple #[]) K)(i:n≤35184372088828):
  ∀ (S O a:Nat) (a6:List Nat) (Z:U),O+S=n→a≤1→a6.length=n→fF Z aE a6→cD aE aX Z→val a6=T+a*2 ^ (64*O)→
   kA.cK.t Y (S+1) (some ⟨aE,0,none⟩) n c (a:Int) (O:Int) Z:=by
 intro S
 induction S with
 | zero=>
  intro O a a6 Z a4 e b aN cM R
  unfold kA.cK.t kA.cE.t
  refine b9 (fun d=>?_) fun d=>?_
  ·have:a=1:=by omega
   subst this
   have:=Bq (a6:=a6) (T:=val a6) (O:=O) rfl (by omega) (h7 aN.words)
   omega
  ·have:a=0:=by omega
   subst this
   exact g _ _ cM aN b (by omega)
 | succ S bU=>
  intro O a a6 Z a4 e b aN cM R
  unfold kA.cK.t kA.cE.t
  refine b9 (fun d=>?_) fun d=>?_
  ·have j:=aN.word O
   refine fX (aN.rd (c:=n) (by omega)) (aC:=O) rfl (by omega) (by omega) ?_
   refine vM (L:=0) rfl rfl rfl e (by omega) ?_
   refine vB aN (aC:=O) rfl b.symm (by omega) rfl (by omega) fun f h=>?_
   refine cO ((O+1:Nat):Int) (by omega) (by omega) (by omega) ?_
   refine bU (O+1) _ _ _ (by omega) (by split <;> omega) (by simp [b]) f (cM.trans h) ?_
   have bM:=lQ (a6:=a6) (aC:=O) (v:=(a6.getD O 0+18446744073709551616 - 0 - a) % 18446744073709551616) (by omega)
   have:=Ec (bC:=18446744073709551616) (cU:=0) (aN:=a) (r:=0) (T:=T) (jI:=(a6.getD O 0+18446744073709551616 - 0 - a) % 18446744073709551616) (fO:=if a6.getD O 0 < 0+a then 1 else 0) (by split <;> omega) bM (by simpa using R)
   rw [j2]
   simpa using this
  ·have:a=0:=by omega
   subst this
   exact g _ _ cM aN b (by omega)
theorem Kj{Y:aD}{a:M}{c aG l n T aE:Nat}{b:List Nat}{aX:U}(r:cG aX a aG b)(j:l=b.length)(k:b=[]∨fU aE a)(w:b.length≤n)(m:n≤35184372088828)
  (g:∀ K a6,cD aE aX K→fF K aE a6→a6.length=n→val a6=T→Y (.tuple #[]) K) :
  ∀ (S O d:Nat) (a6:List Nat) (Z:U),O+S=b.length→d≤1→a6.length=n→fF Z aE a6→cD aE aX Z→val a6=T+(val (b.drop O)+d)*2 ^ (64*O)→
   kA.fS.t Y (S+1) (some ⟨aE,0,none⟩) n c a l aG (d:Int) (l:Int) (O:Int) Z:=by
 subst j
 intro S
 induction S with
 | zero=>
  intro O d a6 Z a4 h f aN cM R
  unfold kA.fS.t kA.eW.t
  refine b9 (fun e=>absurd e (by omega)) fun e=>?_
  unfold kA.a0.t
  have o:O=b.length:=by omega
  subst o
  refine⟨n - b.length+1,?_⟩
  refine Ki g m _ _ _ a6 Z (by omega) h f aN cM ?_
  rw [List.drop_length] at R
  simpa [val] using R
 | succ S bU=>
  intro O d a6 Z a4 h f aN cM R
  have x:=aN.word O
  have p:=r.word O
  have q:fU aE a:=by
   rcases k with i | i
   ·subst i;simp at a4
   ·exact i
  unfold kA.fS.t kA.eW.t
  refine b9 (fun e=>?_) fun e=>absurd (by omega) e
  refine fX (aN.rd (c:=n) (by omega)) (aC:=O) rfl (by omega) (by omega) ?_
  refine fX (r.cL q cM) (aC:=O) rfl rfl (by omega) ?_
  refine vM rfl rfl rfl h p ?_
  refine vB aN (aC:=O) rfl f.symm (by omega) rfl (by omega) fun s u=>?_
  refine cO ((O+1:Nat):Int) (by omega) (by omega) (by omega) ?_
  refine bU (O+1) _ _ _ (by omega) (by split <;> omega) (by simp [f]) s (cM.trans u) ?_
  have bM:=lQ (a6:=a6) (aC:=O) (v:=(a6.getD O 0+18446744073709551616 - b.getD O 0 - d) % 18446744073709551616) (by omega)
  rw [lE] at R
  have:=Ec (bC:=18446744073709551616) (cU:=b.getD O 0) (aN:=d) (r:=val (b.drop (O+1))) (T:=T) (jI:=(a6.getD O 0+18446744073709551616 - b.getD O 0 - d) % 18446744073709551616) (fO:=if a6.getD O 0 < b.getD O 0+d then 1 else 0) (by split <;> omega) bM R
  rw [j2];exact this
theorem Fs{a:M}{c aG l n aE:Nat}{a6 b:List Nat}{Z:U}(aN:fF Z aE a6)(r:cG Z a aG b)(e:l=b.length)(f:n=a6.length)(g:b=[]∨fU aE a)(k:val b≤val a6)(h:b.length≤a6.length):
  aY kA.id #[.slice (some ⟨aE,0,none⟩) n c,.slice a l aG] Z fun v K=>v=.tuple #[]∧cD aE Z K∧∃ d,fF K aE d∧d.length=a6.length∧val d=val a6 - val b:=by
 subst f
 refine kA.ok ?_
 unfold kA.t kA.aL.t kA.c8.t
 have i:=aN.len
 refine⟨b.length+1,?_⟩
 refine Kj (T:=val a6 - val b) r e g h i (fun K d S fO j R=>⟨rfl,S,d,fO,j,R⟩) b.length 0 0 a6 Z (by omega) (by omega) rfl aN (cD.refl _ _) ?_
 simp;omega
theorem getD_set_ne{a6:List Nat}{O t v:Nat}(Z:O ≠ t):(a6.set O v).getD t 0=a6.getD t 0:=by
 simp [List.getD,Z]
theorem Kk{Y:aD}{bX:M→Nat→Nat→M→Nat→Nat→M→Nat→Nat→Int→Int→U→Prop}{a L:M}{c aG bG f i n aC aE T:Nat}{aA aU:List Nat}{aX:U}{a2:Int}
  (r:cG aX a aG aA) (aH:cG aX L bG aU) (q:f=aA.length) (s:i=aU.length) (u:aA=[]∨fU aE a) (w:fU aE L) (G:aC < aU.length) (H:n=aA.length+aU.length)
  (g:∀ K a6,cD aE aX K→fF K aE a6→a6.length=n→(∀ t,aC+1+aA.length≤t→a6.getD t 0=0)→val a6+val (aU.drop (aC+1))*val aA*2 ^ (64*(aC+1))=T→bX (some ⟨aE,0,none⟩) n c a f aG L i bG a2 ((aC+1:Nat):Int) K) :
  ∀ (S O b:Nat) (a6:List Nat) (Z:U),O+S=aA.length→b < 18446744073709551616→a6.length=n→fF Z aE a6→cD aE aX Z→(∀ t,aC+aA.length≤t→a6.getD t 0=0)→
   val a6+(val (aA.drop O)*aU.getD aC 0+b)*2 ^ (64*(O+aC))+val (aU.drop (aC+1))*val aA*2 ^ (64*(aC+1))=T→
   jW.hH.t Y bX (S+1) (some ⟨aE,0,none⟩) n c a f aG L i bG (aC:Int) (b:Int) a2 (aC:Int) (f:Int) (O:Int) Z:=by
 subst q;subst s
 intro S
 induction S with
 | zero=>
  intro O b a6 Z a4 m d aN cM h R
  have x:=aN.len
  unfold jW.hH.t jW.gK.t
  refine b9 (fun e=>absurd e (by omega)) fun e=>?_
  have y:O=aA.length:=by omega
  subst y
  unfold jW.c8.t
  refine cO ((aC+aA.length:Nat):Int) (by omega) (by omega) (by omega) ?_
  refine vB aN (aC:=aC+aA.length) rfl d.symm (by omega) rfl m fun j k=>?_
  unfold jW.cE.t
  refine cO ((aC+1:Nat):Int) (by omega) (by omega) (by omega) ?_
  refine g _ _ (cM.trans k) j (by simp [d]) (fun t o=>?_) ?_
  ·rw [getD_set_ne (by omega)];exact h t (by omega)
  ·have bM:=lQ (a6:=a6) (aC:=aC+aA.length) (v:=b) (by omega)
   rw [h _ (Nat.le_refl _)] at bM
   rw [List.drop_length,Nat.add_comm aA.length aC] at R
   simp only [val,Nat.zero_mul,Nat.zero_add,Nat.add_zero] at bM R
   omega
 | succ S bU=>
  intro O b a6 Z a4 m d aN cM h R
  have x:=aN.len
  have z:=r.word O
  have A:=aH.word aC
  have I:=aN.word (O+aC)
  have B:fU aE a:=by
   rcases u with l | l
   ·subst l;simp at a4
   ·exact l
  have J:aA.getD O 0*aU.getD aC 0≤340282366920938463426481119284349108225:=Nat.mul_le_mul (show aA.getD O 0≤18446744073709551615 by omega) (show aU.getD aC 0≤18446744073709551615 by omega)
  unfold jW.hH.t jW.gK.t
  refine b9 (fun e=>?_) fun e=>absurd (by omega) e
  refine fX (r.cL B cM) (aC:=O) rfl rfl (by omega) ?_
  refine fX (aH.cL w cM) (aC:=aC) rfl rfl (by omega) ?_
  refine cA (BU z A _) fun v K ⟨C,D⟩=>?_
  subst C
  refine D.elim ?_
  have cW:val (aA.drop O)*aU.getD aC 0=aA.getD O 0*aU.getD aC 0+18446744073709551616*(val (aA.drop (O+1))*aU.getD aC 0):=by
   rw [lE,Nat.add_mul,Nat.mul_assoc]
  rw [cW] at R
  generalize aA.getD O 0*aU.getD aC 0=p at *
  refine pR (c:=0) rfl rfl rfl (by omega) ?_
  refine dB ((p+b) / 18446744073709551616) (by omega) (by omega) ?_
  refine cO ((O+aC:Nat):Int) (by omega) (by omega) (by omega) ?_
  refine cO ((O+aC:Nat):Int) (by omega) (by omega) (by omega) ?_
  refine fX (aN.rd (c:=n) (by omega)) (aC:=O+aC) rfl (by omega) (by omega) ?_
  refine pR (c:=0) rfl rfl rfl (by omega) ?_
  have E:(a6.getD (O+aC) 0+(p % 18446744073709551616+b+0) % 18446744073709551616+0) % 18446744073709551616=(p+b+a6.getD (O+aC) 0) % 18446744073709551616:=by omega
  have F:(p+b) / 18446744073709551616+(a6.getD (O+aC) 0+(p % 18446744073709551616+b+0) % 18446744073709551616+0) / 18446744073709551616=(p+b+a6.getD (O+aC) 0) / 18446744073709551616:=by omega
  rw [E]
  refine vB aN (aC:=O+aC) rfl d.symm (by omega) rfl (by omega) fun j k=>?_
  refine dB ((p+b+a6.getD (O+aC) 0) / 18446744073709551616) (by rw [← Int.natCast_add,F]) (by omega) ?_
  refine cO ((O+1:Nat):Int) (by omega) (by omega) (by omega) ?_
  refine bU (O+1) _ _ _ (by omega) (by omega) (by simp [d]) j (cM.trans k) (fun t o=>?_) ?_
  ·rw [getD_set_ne (by omega)];exact h t o
  ·have bM:=lQ (a6:=a6) (aC:=O+aC) (v:=(p+b+a6.getD (O+aC) 0) % 18446744073709551616) (by omega)
   have:=zI (bC:=18446744073709551616) (p:=p) (c:=b) (r:=val (aA.drop (O+1))*aU.getD aC 0) (jI:=(p+b+a6.getD (O+aC) 0) % 18446744073709551616) (dF:=(p+b+a6.getD (O+aC) 0) / 18446744073709551616) (by omega) bM
   rw [show O+1+aC=O+aC+1 by omega,j2 (O+aC),this];exact R
theorem Kl{Y:aD}{a L:M}{c aG bG h d n aE T:Nat}{aA aU:List Nat}{aX:U}
  (r:cG aX a aG aA) (aH:cG aX L bG aU) (k:h=aA.length) (l:d=aU.length) (m:aA=[]∨fU aE a) (o:aU=[]∨fU aE L) (p:n=aA.length+aU.length)
  (g:∀ K a6,cD aE aX K→fF K aE a6→a6.length=n→val a6=T→Y (.tuple #[]) K) :
  ∀ (S aC:Nat) (a6:List Nat) (Z:U),aC+S=aU.length→a6.length=n→fF Z aE a6→cD aE aX Z→(∀ t,aC+aA.length≤t→a6.getD t 0=0)→val a6+val (aU.drop aC)*val aA*2 ^ (64*aC)=T→
   jW.dA.t Y (S+1) (some ⟨aE,0,none⟩) n c a h aG L d bG (d:Int) (aC:Int) Z:=by
 subst k;subst l
 intro S
 induction S with
 | zero=>
  intro aC a6 Z i e aN cM j R
  unfold jW.dA.t jW.bF.t
  refine b9 (fun b=>absurd b (by omega)) fun b=>?_
  refine g _ _ cM aN e ?_
  rw [List.drop_of_length_le (by omega)] at R
  simpa [val] using R
 | succ S bU=>
  intro aC a6 Z i e aN cM j R
  have q:fU aE L:=by
   rcases o with f | f
   ·subst f;simp at i
   ·exact f
  unfold jW.dA.t jW.bF.t
  refine b9 (fun b=>?_) fun b=>absurd (by omega) b
  unfold jW.b7.t jW.e0.t
  refine⟨aA.length+1,?_⟩
  refine Kk (T:=T) r aH rfl rfl m q (by omega) p (fun K s cS fO u v w=>?_) aA.length 0 0 a6 Z (by omega) (by omega) e aN cM j ?_
  ·exact bU (aC+1) s K (by omega) u fO cS v w
  ·rw [lE] at R
   rw [← R,j2,Nat.zero_add,List.drop_zero,Nat.add_zero,Nat.add_mul,Nat.add_mul,Nat.mul_comm (val aA)]
   have x:val (aU.drop (aC+1))*val aA*(18446744073709551616*2 ^ (64*aC))=18446744073709551616*val (aU.drop (aC+1))*val aA*2 ^ (64*aC):=by
    rw [Nat.mul_left_comm,Nat.mul_assoc 18446744073709551616,Nat.mul_assoc 18446744073709551616]
   rw [x];omega
theorem Km{a L:M}{c aG bG b d n aE:Nat}{aA aU:List Nat}{Z:U}(aN:fF Z aE (List.replicate n 0))(r:cG Z a aG aA)(aH:cG Z L bG aU)(e:b=aA.length)(f:d=aU.length)(g:aA=[]∨fU aE a)(h:aU=[]∨fU aE L)(i:n=aA.length+aU.length):
  aY jW.id #[.slice (some ⟨aE,0,none⟩) n c,.slice a b aG,.slice L d bG] Z fun v K=>v=.tuple #[]∧cD aE Z K∧∃ a6,fF K aE a6∧a6.length=n∧val a6=val aA*val aU:=by
 refine jW.ok ?_
 unfold jW.t jW.aL.t
 refine⟨aU.length+1,?_⟩
 refine Kl r aH e f g h i (fun K j S fO k R=>⟨rfl,S,j,fO,k,R⟩) aU.length 0 _ Z (by omega) (by simp) aN (cD.refl _ _) (fun t _=>?_) ?_
 ·simp only [List.getD,List.getElem?_replicate];split <;> rfl
 ·rw [s5,List.drop_zero];simp [Nat.mul_comm]
def tN(Z K:U)(v:Value)(aA:List Nat):Prop:=∃ aE,Z.size≤aE∧v=.slice (some ⟨aE,0,none⟩) aA.length aA.length∧fF K aE aA
theorem tN.elim{Z K:U}{v:Value}{aA:List Nat}{aF:M→Nat→Nat→Prop}(f:tN Z K v aA)(g:∀ aE,Z.size≤aE→fF K aE aA→aF (some ⟨aE,0,none⟩) aA.length aA.length):aQ v aF:=by
 obtain⟨aE,a,R,aN⟩:=f
 subst R;exact g aE a aN
theorem xM{L aE:Nat}(Z:L ≠ aE):fU aE (some ⟨L,0,none⟩):=fun p R=>by cases R;exact Z
theorem Ft{aX Z:U}{aE n c:Nat}{a6:List Nat}{aF:Value→U→Prop}(a:aX.size≤aE)(aN:fF Z aE a6)(b:n=a6.length)(f:n≤c)(g:∀ v,tN aX Z v (aK (val a6))→aF v Z):
  aY lX.id #[.slice (some ⟨aE,0,none⟩) n c] Z aF:=by
 refine cA (xL (aN.rd (c:=c) (by omega)) b) fun v K ⟨d,e⟩=>?_
 subst d;subst e
 refine g _ ?_
 rw [lR aN.words]
 exact⟨aE,a,rfl,by have:=aN.take (dS a6).length;rw [Fq] at this;exact this⟩
theorem Fu{a:M}{c l S:Nat}{aA:List Nat}{Z:U}{N:Int}(r:cG Z a c aA)(g:l=aA.length)(h:N=(S:Int)):
  aY rZ.id #[.slice a l c,.int .i64 N] Z fun v K=>K=Z∧∃ bJ,v=.tuple #[.slice a (dS (aA.take S)).length (dS (aA.take S)).length,.slice bJ (aA.drop S).length (aA.drop S).length]∧
   cG Z a (dS (aA.take S)).length (dS (aA.take S))∧cG Z bJ (aA.drop S).length (aA.drop S)∧∀ aE,fU aE a→fU aE bJ:=by
 subst g;subst h
 have e:=r.cap
 refine rZ.ok ?_
 unfold rZ.t rZ.aL.t
 refine b9 (fun i=>?_) fun i=>?_
 ·refine Bp rfl rfl e ?_
  refine cA (xL (r.rY (Nat.le_refl _)) rfl) fun v K ⟨b,d⟩=>?_
  subst b;subst d
  refine bE rfl ?_
  rw [List.take_of_length_le (by omega),List.drop_of_length_le (by omega)]
  exact⟨rfl,none,rfl,Af r,cG.nil _ _ _,fun aE _=>fU.none aE⟩
 ·refine Bp rfl rfl (by omega) ?_
  have f:(aA.take S).length=S:=by rw [List.length_take];omega
  have rt:=(r.take S).rY (Nat.le_refl _)
  rw [f] at rt
  refine cA (xL rt f.symm) fun v K ⟨b,d⟩=>?_
  subst b;subst d
  refine bE rfl ?_
  refine Eb rfl rfl rfl (by omega) e ?_
  refine⟨rfl,iY a aA.length S 1,?_,Af rt,?_,fun aE j=>j.sub _ _ _⟩
  ·rw [List.length_drop]
  ·have rd:=(r.rY (Nat.le_refl _)).drop S (by omega)
   exact rd.rY (Nat.le_refl _)
theorem Fv(aA:List Nat)(S:Nat):val aA=val (dS (aA.take S))+2 ^ (64*S)*val (aA.drop S):=by
 rw [rI]
 by_cases Z:S≤aA.length
 ·conv=>lhs;rw [← List.take_append_drop S aA]
  rw [hX,List.length_take,Nat.min_eq_left Z]
 ·rw [List.take_of_length_le (by omega),List.drop_of_length_le (by omega)];simp [val]
theorem B0{cN n S:Nat}(a:S≤n)(Z:cN*2 ^ (64*S) < 2 ^ (64*n)):S+(aK cN).length≤n:=by
 have:(aK cN).length≤n - S:=by
  rw [gR]
  have R:2 ^ (64*n)=2 ^ (64*(n - S))*2 ^ (64*S):=by rw [← Nat.pow_add,show 64*(n - S)+64*S=64*n by omega]
  rw [R] at Z
  exact Nat.lt_of_mul_lt_mul_right Z
 omega
theorem Fw{Y:aD}{a L:M}{c aV l m:Nat}{aA aU:List Nat}{Z:U}(r:cG Z a c aA)(aH:cG Z L aV aU)(e:l=aA.length)(h:m=aU.length)(u:aU.length≤aA.length)(w:aA.length < 35184372088828)
  (g:∀ v K,bA Z K→tN Z K v (aK (val aA+val aU))→Y v K):pU.a0.t Y a l c L m aV Z:=by
 subst e;subst h
 unfold pU.a0.t
 refine cO ((aA.length+1:Nat):Int) (by omega) (by omega) (by omega) ?_
 refine nZ (aA.length+1) rfl rfl rfl rfl (by omega) fun aZ aN S=>?_
 refine zS aN (r.aR S) (by simp) rfl (Nat.le_refl _) S fun x b d=>?_
 have R:List.take (List.replicate (aA.length+1) 0).length aA ++ List.drop aA.length (List.replicate (aA.length+1) 0)=aA ++ [0]:=by
  rw [List.take_of_length_le (by simp)];simp
 rw [R] at b
 have cW:val (aA ++ [0])=val aA:=by rw [← rI,vI,rI]
 have y:=h7 r.words
 have z:=h7 aH.words
 have A:2 ^ (64*aU.length)≤2 ^ (64*aA.length):=Nat.pow_le_pow_right (by decide) (by omega)
 refine cA (Ag (at_:=0) b.Ea (aH.aR d) rfl (by simp) (aH.off (Nat.le_refl _)) ?_ (by simp;omega) rfl rfl) fun v B ⟨i,j,a6,k,n,o⟩=>?_
 ·rw [cW,List.length_append,List.length_singleton,j2,Nat.mul_zero,Nat.pow_zero,Nat.mul_one]
  generalize 2 ^ (64*aA.length)=P at *;omega
 subst i
 refine gE rfl (dR ?_)
 refine Ft (Nat.le_refl Z.size) k (by rw [n];simp) (by omega) fun v f=>?_
 rw [o,cW,Nat.mul_zero,Nat.pow_zero,Nat.mul_one] at f
 obtain⟨aE,p,q,s⟩:=f
 subst q
 exact g _ _ (j.aR d (Nat.le_refl _)) ⟨aE,p,rfl,s⟩
theorem Fx{a L:M}{c aV l m:Nat}{aA aU:List Nat}{Z:U}(r:cG Z a c aA)(aH:cG Z L aV aU)(b:l=aA.length)(d:m=aU.length)(e:aA.length < 35184372088828)(g:aU.length < 35184372088828):
  aY pU.id #[.slice a l c,.slice L m aV] Z fun v K=>bA Z K∧tN Z K v (aK (val aA+val aU)):=by
 refine pU.ok ?_
 unfold pU.t pU.aL.t
 refine b9 (fun h=>?_) fun h=>?_
 ·refine Fw aH r d b (by omega) g fun v K S f=>⟨S,?_⟩
  rw [Nat.add_comm];exact f
 ·exact Fw r aH b d (by omega) e fun v K S f=>⟨S,f⟩
theorem Fy{aE:Nat}:∀ {bV:List Value} {Z:U} {O:Nat},cD aE Z (j0 Z ⟨aE,0,none⟩ O bV)
 | [],Z,_=>cD.refl _ _
 | v :: bV,Z,O=>by
  have R:j0 Z ⟨aE,0,none⟩ O (v :: bV)=j0 (gQ Z ⟨aE,O,none⟩ v) ⟨aE,0,none⟩ (O+1) bV:=by
   show j0 (gQ Z ((⟨aE,0,none⟩:Addr).add O) v) _ _ _=_
   rw [cB]
  rw [R];exact(cD.set aE Z O v).trans Fy
theorem Kn{Z:U}{L l bZ bG:Nat}{aA aU:List Nat}{a:M}(aN:fF Z L aA)(r:cG Z a bG aU)(e:l=aA.length)(f:bZ=aU.length)(c:aU.length≤aA.length){aF:Int→U→Prop}
  (g:∀ K,fF K L (aU ++ aA.drop aU.length)→cD L Z K→aF (aU.length:Int) K):m3 Z 1 (some ⟨L,0,none⟩) l (.slice a bZ bG) aF:=by
 subst e;subst f
 obtain⟨rest,aN⟩:=aN
 have d:Nat.min aU.length aA.length=aU.length:=Nat.min_eq_left c
 refine⟨aU.length,aU.map h0,rfl,⟨by rw [List.length_map,d];omega,?_,?_⟩,?_,?_⟩
 ·intro v bW
  obtain⟨N,_,R⟩:=List.mem_map.mp bW
  subst R;rfl
 ·cases a with
  | none=>
   show aU.map h0=[]
   cases aU with
   | nil=>simp
   | cons aP aU=>obtain⟨p,R,_⟩:=r.at_ 0 (by simp);cases R
  | some p=>
   refine B1 fun aC b=>?_
   obtain⟨j,R,h⟩:=r.at_ aC b
   cases R
   rw [Nat.zero_add];exact h
 ·refine B2 fun aC b=>?_
  rw [Nat.zero_add,cB]
  rw [List.length_map] at b
  exact⟨⟨_,aN.cell (by rw [List.length_append];omega)⟩,aN.frozen aC⟩
 ·have:=B3 (aX:=#[]) (bV:=aU) (O:=0) aN r.words (by rw [List.length_append];omega) (by simp) ⟨by simp,fun L i=>absurd i (by simp)⟩
  rw [d]
  refine g _ ⟨rest,?_⟩ Fy
  have R:List.take 0 (aA ++ rest) ++ (aU ++ List.drop (0+aU.length) (aA ++ rest))=aU ++ aA.drop aU.length ++ rest:=by
   rw [List.take_zero,List.nil_append,Nat.zero_add,List.drop_append_of_le_length c,List.append_assoc]
  rw [← R];exact this.1
def Ah(b:Nat):Prop:=∀ {a L:M} {c aG bG d e n aE:Nat} {aA aU:List Nat} {Z:U},aA.length+aU.length≤b→fF Z aE (List.replicate n 0)→cG Z a aG aA→cG Z L bG aU→d=aA.length→e=aU.length→(aA=[]∨fU aE a)→(aU=[]∨fU aE L)→n=aA.length+aU.length→
 aY qP.id #[.slice (some ⟨aE,0,none⟩) n c,.slice a d aG,.slice L e bG] Z fun v K=>v=.tuple #[]∧cD aE Z K∧∃ a6,fF K aE a6∧a6.length=n∧val a6=val aA*val aU
theorem xN{b:Nat}(ok:Ah b){a L:M}{c aV l m:Nat}{aA aU:List Nat}{Z:U}(d:aA.length+aU.length≤b)(r:cG Z a c aA)(aH:cG Z L aV aU)(e:l=aA.length)(g:m=aU.length)(h:aA.length+aU.length≤35184372088828):
  aY n4.id #[.slice a l c,.slice L m aV] Z fun v K=>bA Z K∧tN Z K v (aK (val aA*val aU)):=by
 subst e;subst g
 refine n4.ok ?_
 unfold n4.t n4.aL.t
 refine cO ((aA.length+aU.length:Nat):Int) (by omega) (by omega) (by omega) ?_
 refine nZ (aA.length+aU.length) rfl rfl rfl rfl h fun aZ aN S=>?_
 refine cA (ok d aN.Ea (r.aR S) (aH.aR S) rfl rfl (r.off (Nat.le_refl _)) (aH.off (Nat.le_refl _)) rfl) fun v s ⟨i,j,a6,k,n,cW⟩=>?_
 subst i
 refine gE rfl (dR ?_)
 refine Ft (Nat.le_refl Z.size) k n.symm (Nat.le_refl _) fun v f=>?_
 rw [cW] at f
 obtain⟨aE,o,p,q⟩:=f
 subst p
 exact⟨j.aR S (Nat.le_refl _),aE,o,rfl,q⟩
theorem Fz{aA aU:List Nat}(a:Words aA)(b:Words aU):val aA*val aU < 2 ^ (64*(aA.length+aU.length)):=by
 rw [Nat.mul_add,Nat.pow_add]
 exact Nat.mul_lt_mul'' (h7 a) (h7 b)
theorem Ko{h:Nat}(ok:∀ cN,cN < h→Ah cN){Y:aD}{a L:M}{c aG bG i j n aE:Nat}{aA aU:List Nat}{aX:U}(Pu:aA.length+aU.length≤h)(r:cG aX a aG aA)(aH:cG aX L bG aU)(q:i=aA.length)(s:j=aU.length)(u:fU aE a)(w:fU aE L)(x:n=aA.length+aU.length)
  (Pv:1≤aU.length) (Pw:2*aU.length≤aA.length) (Px:aE < aX.size)
  (g:∀ K a6,cD aE aX K→fF K aE a6→a6.length=n→val a6=val aA*val aU→Y (.tuple #[]) K) :
  ∀ (S O:Nat) (a6:List Nat) (Z:U),aA.length≤O+S→O≤aA.length+aU.length→a6.length=n→fF Z aE a6→cD aE aX Z→val a6=val (aA.take O)*val aU→
   n5.dA.t Y (S+1) (some ⟨aE,0,none⟩) n c a i aG L j bG (O:Int) Z:=by
 subst q;subst s
 intro S
 induction S with
 | zero=>
  intro O a6 Z a4 s0 b aN cM R
  unfold n5.dA.t n5.bF.t
  refine b9 (fun d=>absurd d (by omega)) fun d=>?_
  rw [List.take_of_length_le (by omega)] at R
  exact g _ _ cM aN b R
 | succ S bU=>
  intro O a6 Z a4 s0 b aN cM R
  have Py:=aN.len
  have Pz:=r.cap
  unfold n5.dA.t n5.bF.t
  refine b9 (fun d=>?_) fun d=>?_
  ·refine cO ((O+aU.length:Nat):Int) (by omega) (by omega) (by omega) ?_
   obtain⟨m,y⟩:∃ m,m=min (O+aU.length) aA.length:=⟨_,rfl⟩
   have z:(if (((aA.length:Nat):Int)) < ((O+aU.length:Nat):Int) then(((aA.length:Nat):Int)) else((O+aU.length:Nat):Int))=(m:Int):=by
    split <;> omega
   rw [z]
   refine Eb rfl rfl rfl (by omega) (by omega) ?_
   have e:(aA.take m).length=m:=by rw [List.length_take];omega
   have rt:=((r.cL u cM).take m).rY (dF:=m) (by omega)
   have rd:=rt.drop O (by omega)
   have A:((aA.take m).drop O).length=m - O:=by rw [List.length_drop,e]
   refine cA (xL (rd.rY (dF:=m - O) (by omega)) A.symm) fun v aZ ⟨B,C⟩=>?_
   subst B;subst C
   refine bE rfl ?_
   have D:=Af (rd.rY (dF:=m - O) (by omega))
   have PA:=vK ((aA.take m).drop O)
   refine cA (xN (ok (aU.length+aU.length) (by omega)) (by omega) D (aH.cL w cM) rfl rfl (by omega)) fun v PB ⟨k,f⟩=>?_
   refine f.elim fun eM PC l=>?_
   rw [rI] at l ⊢
   have E:val (aA.take m)=val (aA.take O)+2 ^ (64*O)*val ((aA.take m).drop O):=by
    conv=>lhs;rw [← List.take_append_drop O (aA.take m)]
    rw [hX,List.length_take,e,Nat.min_eq_left (by omega),List.take_take,Nat.min_eq_left (by omega)]
   have F:val (aA.take m)≤val aA:=by
    have:val aA=val (aA.take m)+2 ^ (64*m)*val (aA.drop m):=by
     conv=>lhs;rw [← List.take_append_drop m aA]
     rw [hX,e]
    omega
   have o:val a6+val ((aA.take m).drop O)*val aU*2 ^ (64*O)=val (aA.take m)*val aU:=by
    rw [R,E,Nat.add_mul,Nat.mul_right_comm,Nat.mul_comm (2 ^ (64*O))]
   have G:val (aA.take m)*val aU < 2 ^ (64*a6.length):=by
    rw [b,x]
    exact Nat.lt_of_le_of_lt (Nat.mul_le_mul_right _ F) (Fz r.words aH.words)
   have H:=aN.aR k
   have I:aE ≠ eM:=by have:=cM.le;omega
   refine cA (Ag (at_:=O) H (l.rd (Nat.le_refl _)) rfl b.symm (Or.inr (xM (Ne.symm I))) (by rw [e1,o];exact G) (B0 (by omega) (by omega)) rfl rfl) fun v J ⟨P,Q,T,V,PD,p⟩=>?_
   subst P
   refine gE rfl (dR ?_)
   refine cO ((O+aU.length:Nat):Int) (by omega) (by omega) (by omega) ?_
   rw [e1,o] at p
   refine bU (O+aU.length) T J (by omega) (by omega) (by omega) V ((cM.trans k.Bo).trans Q) ?_
   rw [p]
   congr 2
   by_cases Pt:O+aU.length≤aA.length
   ·rw [y,Nat.min_eq_left Pt]
   ·rw [List.take_of_length_le (by omega),List.take_of_length_le (by omega)]
  ·rw [List.take_of_length_le (by omega)] at R
   exact g _ _ cM aN b R
theorem Kp{a2 bK aS aM iV eH bH:Nat}(a:a2=aS+bH*aM)(b:bK=iV+bH*eH):(aS+aM)*(iV+eH)=aS*iV+(aS*eH+aM*iV)+aM*eH∧a2*bK=aS*iV+(aS*eH+aM*iV)*bH+aM*eH*(bH*bH):=by
 subst a;subst b
 constructor
 ·rw [Nat.add_mul,Nat.mul_add,Nat.mul_add];omega
 ·have c:aS*(bH*eH)=aS*eH*bH:=by rw [Nat.mul_comm bH,Nat.mul_assoc]
  have d:bH*aM*iV=aM*iV*bH:=by rw [Nat.mul_assoc,Nat.mul_comm]
  have e:bH*aM*(bH*eH)=aM*eH*(bH*bH):=by
   rw [Nat.mul_mul_mul_comm,Nat.mul_comm]
  rw [Nat.add_mul,Nat.mul_add,Nat.mul_add,c,d,e,Nat.add_mul];omega
theorem Kq{F:Nat}(ok:∀ cN,cN < F→Ah cN){a L:M}{c aG bG G I n aE:Nat}{aA aU:List Nat}{Z:U}(Qi:aA.length+aU.length≤F)(aN:fF Z aE (List.replicate n 0))(r:cG Z a aG aA)(aH:cG Z L bG aU)(PG:G=aA.length)(PH:I=aU.length)(Qj:fU aE a)(Qk:fU aE L)(PI:n=aA.length+aU.length)
  (Ql:40≤aU.length) (Qm:aU.length≤aA.length) (Qn:aA.length < 2*aU.length) :
  aY tO.id #[.slice (some ⟨aE,0,none⟩) n c,.slice a G aG,.slice L I bG] Z fun v K=>v=.tuple #[]∧cD aE Z K∧∃ a6,fF K aE a6∧a6.length=n∧val a6=val aA*val aU:=by
 subst PG;subst PH
 have PJ:=aN.len
 rw [List.length_replicate] at PJ
 have Qo:=aN.lt
 refine tO.ok ?_
 unfold tO.t tO.aL.t
 refine cO ((aA.length+1:Nat):Int) (by omega) (by omega) (by omega) ?_
 obtain⟨S,PK⟩:∃ S,S=(aA.length+1) / 2:=⟨_,rfl⟩
 refine⟨by omega,cO (S:Int) (by rw [PK];exact n0 _ 2) (by omega) (by omega) ?_⟩
 refine cA (Fu (S:=S) r rfl rfl) fun v aZ ⟨h,Qp,i,j,k,Qq⟩=>?_
 subst h;subst i
 refine gE rfl (cF (bE rfl (cF (bE rfl (dR ?_)))))
 refine cA (Fu (S:=S) aH rfl rfl) fun v aZ ⟨h,Qr,i,l,m,Qs⟩=>?_
 subst h;subst i
 refine gE rfl (cF (bE rfl (cF (bE rfl (dR ?_)))))
 have ex:=Fv aA S
 have PL:=Fv aU S
 have Qt:(dS (aA.take S)).length≤S:=Nat.le_trans (vK _) (by rw [List.length_take];omega)
 have Qu:(dS (aU.take S)).length≤S:=Nat.le_trans (vK _) (by rw [List.length_take];omega)
 have Qv:(aA.drop S).length≤S:=by rw [List.length_drop];omega
 have Qw:(aU.drop S).length≤S:=by rw [List.length_drop];omega
 have J:=Fz r.words aH.words
 rw [← PI] at J
 generalize dS (aA.take S)=aS at *
 generalize dS (aU.take S)=iV at *
 generalize aA.drop S=aM at *
 generalize aU.drop S=eH at *
 refine cA (xN (ok (S+S) (by omega)) (by omega) j l rfl rfl (by omega)) fun v PM ⟨e,f⟩=>?_
 refine f.elim fun g9 Qx o=>?_
 refine cA (xN (ok (S+S) (by omega)) (by omega) (k.aR e) (m.aR e) rfl rfl (by omega)) fun v P ⟨p,f⟩=>?_
 refine f.elim fun PN Qy q=>?_
 have s:=e.trans p
 refine cA (Fx (j.aR s) (k.aR s) rfl rfl (by omega) (by omega)) fun v Qz ⟨u,f⟩=>?_
 refine f.elim fun QA QB os=>?_
 have Q:=s.trans u
 refine cA (Fx (l.aR Q) (m.aR Q) rfl rfl (by omega) (by omega)) fun v QC ⟨w,f⟩=>?_
 refine f.elim fun QD QE PO=>?_
 have QF:(aK (val aS+val aM)).length≤S+1:=zL (gR.mpr (Nat.lt_of_lt_of_le (h7 j.words) (Nat.pow_le_pow_right (by decide) (by omega)))) (gR.mpr (Nat.lt_of_lt_of_le (h7 k.words) (Nat.pow_le_pow_right (by decide) (by omega))))
 have QG:(aK (val iV+val eH)).length≤S+1:=zL (gR.mpr (Nat.lt_of_lt_of_le (h7 l.words) (Nat.pow_le_pow_right (by decide) (by omega)))) (gR.mpr (Nat.lt_of_lt_of_le (h7 m.words) (Nat.pow_le_pow_right (by decide) (by omega))))
 refine cA (xN (ok (S+1+(S+1)) (by omega)) (by omega) ((os.rd (Nat.le_refl _)).aR w) (PO.rd (Nat.le_refl _)) rfl rfl (by omega)) fun v QH ⟨PQ,f⟩=>?_
 refine f.elim fun d QI x=>?_
 rw [e1,e1] at x ⊢
 have nH:=Kp ex PL
 obtain⟨b,T⟩:∃ b,b=val aS*val iV:=⟨_,rfl⟩
 obtain⟨H,V⟩:∃ H,H=val aM*val eH:=⟨_,rfl⟩
 obtain⟨cN,PR⟩:∃ cN,cN=val aS*val eH+val aM*val iV:=⟨_,rfl⟩
 rw [← T,← PR,← V] at nH
 rw [← T] at o ⊢
 rw [← V] at q ⊢
 rw [nH.1] at x ⊢
 have y:=u.trans (w.trans PQ)
 have Pt:=p.trans y
 have Pu:=e.trans Pt
 have Pv:=o.aR Pt
 have PS:=q.aR y
 have PT:=aN.aR Pu
 have QJ:g9 < PM.size:=o.lt
 have QK:PN < P.size:=q.lt
 have QL:=p.le
 have QM:=y.le
 have QN:P.size≤d:=by have:=u.le;have:=w.le;omega
 refine cA (Fs x (Pv.rd (Nat.le_refl _)) rfl rfl (Or.inr (xM (by omega))) (by rw [e1,e1];omega) (nV (by omega))) fun v QO ⟨PU,z,QP,PV,Pw,PW⟩=>?_
 subst PU
 refine gE rfl (dR ?_)
 rw [e1,e1] at PW
 have Px:=PS.cL (aE:=d) (by omega) z
 have PX:=Pv.cL (aE:=d) (by omega) z
 refine cA (Fs PV (Px.rd (Nat.le_refl _)) rfl Pw.symm (Or.inr (xM (by omega))) (by rw [e1];omega) (by rw [Pw];exact nV (by omega))) fun v PY ⟨PZ,A,Py,Pz,QQ,P0⟩=>?_
 subst PZ
 refine gE rfl (dR ?_)
 rw [e1] at P0
 have P1:val Py=cN:=by omega
 have QR:=e.le
 have PA:=z.trans A
 have P2:bA aZ PY:=PA.aR Pu (by omega)
 have P3:=(PT.cL (aE:=d) (by omega) PA)
 have P4:=PX.cL (aE:=d) (by omega) A
 have P5:=Px.cL (aE:=d) (by omega) A
 have P6:2 ^ (64*S)*2 ^ (64*S)=2 ^ (64*(2*S)):=by rw [← Nat.pow_add,show 64*S+64*S=64*(2*S) by omega]
 have B:=nH.2
 rw [P6] at B
 rw [B] at J
 have P7:(aK b).length≤n:=gR.mpr (by omega)
 refine Kn P3 (P4.rd (Nat.le_refl _)) (by simp) rfl (by simpa using P7) fun QS P8 C=>?_
 have PB:val (aK b ++ (List.replicate n 0).drop (aK b).length)=b:=by
  rw [hX,e1,List.drop_replicate,s5];simp
 have g:(aK b ++ (List.replicate n 0).drop (aK b).length).length=n:=by simp;omega
 have PC:=Pz.cL (aE:=aE) (by omega) C
 refine cA (xL (PC.rd (by omega)) (by omega)) fun v fM ⟨P9,D⟩=>?_
 subst P9;subst D
 refine bE rfl ?_
 have PD:=Af (PC.rd (Nat.le_refl _))
 have Qa:dS Py=aK cN:=by rw [← P1,lR Pz.words]
 rw [Qa] at PD ⊢
 refine cA (Ag (at_:=S) P8 PD rfl g.symm (Or.inr (xM (by omega))) (by rw [PB,e1,g];omega) (by rw [g];exact B0 (by omega) (by omega)) rfl rfl) fun v QT ⟨D,PE,QU,Qb,PF,E⟩=>?_
 subst D
 refine gE rfl (dR ?_)
 rw [PB,e1] at E
 refine cO ((2*S:Nat):Int) (by omega) (by omega) (by omega) ?_
 have Qc:=(P5.cL (aE:=aE) (by omega) C).cL (aE:=aE) (by omega) PE
 refine cA (Ag (at_:=2*S) Qb (Qc.rd (Nat.le_refl _)) rfl (by omega) (Or.inr (xM (by omega))) (by rw [E,e1,PF,g];omega) (by rw [PF,g];exact B0 (by omega) (by omega)) rfl rfl) fun v QV ⟨Qd,Qe,Qf,Qg,QW,Qh⟩=>?_
 subst Qd
 refine gE rfl (dR ?_)
 refine⟨rfl,P2.Bo.trans (C.trans (PE.trans Qe)),Qf,Qg,by omega,?_⟩
 rw [Qh,E,e1,B]
theorem Kr(l:Nat):Ah l:=by
 induction l using Nat.strongRecOn with
 | ind l ok=>
  have main:∀ {a L:M} {c aG bG g h n aE:Nat} {aA aU:List Nat} {Z:U},aA.length+aU.length≤l→fF Z aE (List.replicate n 0)→cG Z a aG aA→cG Z L bG aU→g=aA.length→h=aU.length→(aA=[]∨fU aE a)→(aU=[]∨fU aE L)→n=aA.length+aU.length→aU.length≤aA.length→
    qP.a0.t (fun v K=>v=.tuple #[]∧cD aE Z K∧∃ a6,fF K aE a6∧a6.length=n∧val a6=val aA*val aU) (some ⟨aE,0,none⟩) n c a g aG L h bG Z:=by
   intro a L c aG bG g h n aE aA aU Z m aN r aH f b i j k p
   have u:=aN.len
   rw [List.length_replicate] at u
   unfold qP.a0.t
   refine b9 (fun bM=>?_) fun bM=>?_
   ·refine cA (Km aN r aH f b i j k) fun v K ⟨R,S,d⟩=>?_
    subst R
    exact gE rfl (dR ⟨rfl,S,d⟩)
   ·have q:fU aE a:=by
     rcases i with e | e
     ·subst e;have:aU.length≤0:=p;omega
     ·exact e
    have s:fU aE L:=by
     rcases j with e | e
     ·subst e;simp at b;omega
     ·exact e
    refine cO ((2*aU.length:Nat):Int) (by omega) (by omega) (by omega) ?_
    refine b9 (fun o=>?_) fun o=>?_
    ·have w:aY n5.id #[.slice (some ⟨aE,0,none⟩) n c,.slice a g aG,.slice L h bG] Z fun v K=>v=.tuple #[]∧cD aE Z K∧∃ a6,fF K aE a6∧a6.length=n∧val a6=val aA*val aU:=by
      refine n5.ok ?_
      unfold n5.t n5.aL.t
      refine⟨aA.length+1,?_⟩
      refine Ko ok m r aH f b q s k (by omega) (by omega) aN.lt (fun K a6 S fO d R=>⟨rfl,S,a6,fO,d,R⟩) aA.length 0 _ Z (by omega) (by omega) (by simp) aN (cD.refl _ _) ?_
      rw [s5];simp [val]
     refine cA w fun v K ⟨R,S,d⟩=>?_
     subst R
     exact gE rfl (dR ⟨rfl,S,d⟩)
    ·refine cA (Kq ok m aN r aH f b q s k (by omega) p (by omega)) fun v K ⟨R,S,d⟩=>?_
     subst R
     exact gE rfl (dR ⟨rfl,S,d⟩)
  intro a L c aG bG g h n aE aA aU Z m aN r aH f b i j k
  refine qP.ok ?_
  unfold qP.t qP.aL.t
  refine b9 (fun o=>?_) fun o=>?_
  ·have:=main (c:=c) (by omega) aN aH r b f j i (by omega) (by omega)
   rw [Nat.mul_comm (val aU)] at this;exact this
  ·exact main m aN r aH f b i j k (by omega)
theorem Ks{a L:M}{c aV l m:Nat}{aA aU:List Nat}{Z:U}(r:cG Z a c aA)(aH:cG Z L aV aU)(b:l=aA.length)(d:m=aU.length)(e:aA.length+aU.length≤35184372088828):
  aY n4.id #[.slice a l c,.slice L m aV] Z fun v K=>bA Z K∧tN Z K v (aK (val aA*val aU)):=
 xN (Kr _) (Nat.le_refl _) r aH b d e
def vT(aA aU:List Nat):List Nat × Int:=if iT aA∧iT aU then fL (val aA*val aU) else([],2)
theorem Kt{a L:M}{c aV l m:Nat}{aA aU:List Nat}{Z:U}(r:cG Z a c aA)(aH:cG Z L aV aU)(j:l=aA.length)(k:m=aU.length):
  aY qQ.id #[.slice a l c,.slice L m aV] Z fun v K=>bA Z K∧e2 Z K v (vT aA aU):=by
 refine qQ.ok ?_
 unfold qQ.t qQ.aL.t
 refine cA (nA r j) fun v K ⟨b,d⟩=>?_
 subst b;subst d
 refine c5 rfl ?_
 refine jL (fun e=>⟨bA.refl _,?_⟩) fun e=>?_
 ·unfold vT;rw [if_neg (fun g=>of_decide_eq_false e g.1)];exact e2.none
 refine cA (nA aH k) fun v K ⟨b,d⟩=>?_
 subst b;subst d
 refine c5 rfl ?_
 refine jL (fun h=>⟨bA.refl _,?_⟩) fun h=>?_
 ·unfold vT;rw [if_neg (fun g=>of_decide_eq_false h g.2)];exact e2.none
 have f1:=of_decide_eq_true e
 have f2:=of_decide_eq_true h
 have aZ:=f1.1
 have A:=f2.1
 unfold vT;rw [if_pos ⟨f1,f2⟩]
 unfold qQ.a0.t
 refine cA (Ks r aH j k (by omega)) fun v i ⟨n,f⟩=>?_
 refine f.elim fun gN o p=>?_
 have q:aY tP.id #[.slice (some ⟨gN,0,none⟩) (aK (val aA*val aU)).length (aK (val aA*val aU)).length] i fun v s=>s=i∧e2 K i v (fL (val aA*val aU)):=by
  refine tP.ok ?_
  unfold tP.t tP.aL.t
  refine b9 (fun u=>⟨rfl,?_⟩) fun u=>⟨rfl,?_⟩
  ·unfold fL;rw [if_neg (by omega)];exact e2.none
  ·unfold fL;rw [if_pos (by omega)];exact e2.mk rfl rfl (p.kF o) (show In .i64 0 by decide)
 refine cA q fun v B ⟨w,x⟩=>?_
 subst w
 refine x.h9 fun bP bO y z=>?_
 exact⟨n,e2.back y z⟩
abbrev FA:=Bool × List Nat
abbrev vU:=Bool × Nat
def dM(O:Int):vU:=(decide (O < 0),O.natAbs)
def c1(N:vU):Int:=if N.1 then -((N.2:Nat):Int) else((N.2:Nat):Int)
def FB(N:FA):Prop:=iT N.2∧¬ (N.1=true∧N.2=[])
instance (N:FA):Decidable (FB N):=by unfold FB;infer_instance
def FC(O:Int):Prop:=(aK O.natAbs).length≤8192
instance (O:Int):Decidable (FC O):=by unfold FC;infer_instance
theorem xO(O:Int):c1 (dM O)=O:=by
 unfold c1 dM
 by_cases Z:O < 0
 ·simp only [Z,decide_true,if_true];omega
 ·simp only [Z,decide_false,Bool.false_eq_true,if_false];omega
def dE(L:Bool)(n:Nat):Int:=if L then -(n:Int) else(n:Int)
theorem qR(L:Bool)(n:Nat):(dE L n).natAbs=n:=by unfold dE;cases L <;> simp
theorem FD(L:Bool)(n:Nat):decide (dE L n < 0)=(L && decide (n ≠ 0)):=by
 unfold dE
 cases L
 ·simp
 ·by_cases Z:n=0
  ·subst Z;simp
  ·simp only [if_true,Bool.true_and,Z,ne_eq,not_false_eq_true,decide_true,decide_eq_true_eq];omega
theorem Ku(L:Bool)(n:Nat):dM (dE L n)=((L && decide (n ≠ 0)),n):=by unfold dM;rw [qR,FD]
theorem Kv{a L aE:Int}(b:0 < L)(aZ:aE*L≤a)(c:a < (aE+1)*L):a / L=aE:=by
 refine Int.le_antisymm (Int.lt_add_one_iff.mp (Int.ediv_lt_of_lt_mul b c)) (Int.le_ediv_of_mul_le b aZ)
def hP(a L:Int):Int:=if L < 0 then(-a) / (-L) else a / L
def qS(a L:Int):Int:=a - L*hP a L
def hQ(a bC:Nat):Nat:=if bC < 2*(a % bC)∨(2*(a % bC)=bC∧a / bC % 2=1) then a / bC+1 else a / bC
def lH(a L:Int):Int:=dE (xor (decide (a < 0)) (decide (L < 0))) (hQ a.natAbs L.natAbs)
theorem Kw{bC:Nat}(Z:bC ≠ 0):(0:Int) < (bC:Int):=by omega
theorem xP{p aE:Bool}{a bC:Nat}(e:bC ≠ 0)(c:p=true→a ≠ 0):hP (dE p a) (dE aE bC)=dE (xor p aE) (if (xor p aE)=true∧a % bC ≠ 0 then a / bC+1 else a / bC):=by
 have key:∀ (r:Bool),(r=true→a ≠ 0)→dE r a / (bC:Int)=dE r (if r=true∧a % bC ≠ 0 then a / bC+1 else a / bC):=by
  intro r i
  have j:=Nat.div_add_mod a bC
  have k:=Nat.mod_lt a (show 0 < bC by omega)
  refine Kv (Kw e) ?_ ?_
  ·cases r
   ·simp only [dE,Bool.false_eq_true,false_and,if_false]
    have:a / bC*bC≤a:=Nat.div_mul_le_self _ _
    exact_mod_cast this
   ·simp only [dE,if_true,true_and]
    split
    ·have:a≤(a / bC+1)*bC:=by rw [Nat.add_mul,Nat.one_mul,Nat.mul_comm];omega
     have b:(a:Int)≤(((a / bC+1:Nat):Int))*(bC:Int):=by exact_mod_cast this
     rw [Int.neg_mul];omega
    ·rename_i Z
     have:a=a / bC*bC:=by rw [Nat.mul_comm];omega
     have b:(a:Int)=(((a / bC:Nat):Int))*(bC:Int):=by exact_mod_cast this
     rw [Int.neg_mul];omega
  ·cases r
   ·simp only [dE,Bool.false_eq_true,false_and,if_false]
    have:a < (a / bC+1)*bC:=by rw [Nat.add_mul,Nat.one_mul,Nat.mul_comm];omega
    exact_mod_cast this
   ·simp only [dE,if_true,true_and]
    split
    ·rename_i Z
     have:a / bC*bC < a:=by rw [Nat.mul_comm];omega
     have b:(((a / bC:Nat):Int))*(bC:Int) < (a:Int):=by exact_mod_cast this
     have f:(-(((a / bC+1:Nat):Int))+1)=-(((a / bC:Nat):Int)):=by omega
     rw [f,Int.neg_mul];omega
    ·rename_i Z
     have aX:a=a / bC*bC:=by rw [Nat.mul_comm];omega
     have b:(a:Int)=(((a / bC:Nat):Int))*(bC:Int):=by exact_mod_cast aX
     rw [Int.add_mul,Int.neg_mul,Int.one_mul];omega
 unfold hP
 cases aE
 ·have R:dE false bC=(bC:Int):=rfl
  rw [R,if_neg (by omega),key p c]
  simp
 ·have R:dE true bC=-(bC:Int):=rfl
  rw [R,if_pos (by omega),Int.neg_neg]
  have g:-dE p a=dE (!p) a:=by cases p <;> simp [dE]
  rw [g]
  by_cases d:a=0
  ·subst d
   have h:p=false:=by cases p;rfl;exact absurd rfl (c rfl)
   subst h
   simp [dE]
  ·rw [key (!p) fun _=>d]
   cases p <;> simp
def hL(O aC:Int):Int:=if O < aC then -1 else if O=aC then 0 else 1
theorem Kx(L:Bool)(a bC:Nat):dE L a+dE L bC=dE L (a+bC):=by unfold dE;cases L <;> simp <;> omega
theorem FE{p aE:Bool}{a bC:Nat}(Z:p ≠ aE)(b:bC≤a):dE p a+dE aE bC=dE p (a - bC):=by
 unfold dE;cases p <;> cases aE <;> simp at Z ⊢ <;> omega
theorem B4(p:Bool)(a:Nat):-dE p a=dE (!p) a:=by unfold dE;cases p <;> simp
theorem B5(p aE:Bool)(a bC:Nat):dE p a*dE aE bC=dE (xor p aE) (a*bC):=by
 unfold dE;cases p <;> cases aE <;> simp [Int.neg_mul,Int.mul_neg]
theorem pV(p:Bool):dE p 0=0:=by unfold dE;cases p <;> rfl
theorem B6{p:Bool}{a:Nat}:dE p a=0↔a=0:=by unfold dE;cases p <;> simp
theorem B7(a:Nat):dE false a=(a:Int):=rfl
theorem FF(n:Nat):((2:Int) ^ n)=dE false (2 ^ n):=by rw [B7];exact(Int.natCast_pow 2 n).symm
theorem Ky(n:Nat):(2:Nat) ^ n ≠ 0:=Nat.pos_iff_ne_zero.mp (Nat.two_pow_pos n)
theorem Kz(p:Bool)(a n:Nat):dE p a*2 ^ n=dE p (a*2 ^ n):=by rw [FF,B5];simp
theorem FG{p:Bool}{a:Nat}(Z:p=true→a ≠ 0):decide (dE p a < 0)=p:=by
 rw [FD];cases p
 ·rfl
 ·simp [Z rfl]
theorem B8(L:Int):hP 0 L=0:=by unfold hP;split <;> simp
theorem KA{p aE:Bool}{a bC:Nat}(b:bC ≠ 0)(c:p=true→a ≠ 0):lH (dE p a) (dE aE bC)=dE (xor p aE) (hQ a bC):=by
 unfold lH
 rw [FG c,FG fun _=>b,qR,qR]
theorem KB{a L:Int}(b:0 < L):hP a L*L≤a∧a < (hP a L+1)*L:=by
 unfold hP;rw [if_neg (by omega)]
 exact⟨Int.ediv_mul_le _ (by omega),Int.lt_ediv_add_one_mul_self _ b⟩
theorem KC(L:Int):qS 0 L=0:=by unfold qS;rw [B8];simp
theorem FH{p aE:Bool}{a bC:Nat}(e:bC ≠ 0)(f:p=true→a ≠ 0):qS (dE p a) (dE aE bC)=dE aE (if (xor p aE)=true∧a % bC ≠ 0 then bC - a % bC else a % bC):=by
 unfold qS
 rw [xP e f,B5]
 have b:=Nat.div_add_mod a bC
 have h:=Nat.mod_lt a (show 0 < bC by omega)
 have ex:(xor aE (xor p aE))=p:=by cases p <;> cases aE <;> rfl
 rw [ex]
 generalize a % bC=r at *
 generalize a / bC=Q at *
 have g:bC*(Q+1)=bC*Q+bC:=by rw [Nat.mul_add,Nat.mul_one]
 by_cases c:(xor p aE)=true∧r ≠ 0
 ·rw [if_pos c,if_pos c,g]
  generalize bC*Q=T at *
  subst b
  obtain⟨aG,bG⟩:=c
  cases p <;> cases aE <;> simp at aG <;> simp only [dE,if_true,Bool.false_eq_true,if_false] <;> omega
 ·rw [if_neg c,if_neg c]
  generalize bC*Q=T at *
  subst b
  have cR:p=aE∨r=0:=by
   by_cases d:r=0
   ·exact Or.inr d
   ·refine Or.inl ?_
    cases p <;> cases aE <;> first | rfl | exact absurd ⟨rfl,d⟩ c
  rcases cR with rfl | rfl
  ·cases p <;> simp only [dE,if_true,Bool.false_eq_true,if_false] <;> omega
  ·cases p <;> cases aE <;> simp only [dE,if_true,Bool.false_eq_true,if_false] <;> omega
section
variable {a L:M} {c aV l m:Nat} {aA aU:List Nat} {aX Z:U} {N aP:Int}
end
section
variable {a L:M} {c aV l m:Nat} {aA aU:List Nat} {Z:U} {N aP:Int} {p aE:Bool}
end
section
variable {a L:M} {c aV l m:Nat} {aA aU:List Nat} {Z:U} {N aP:Int} {p aE:Bool}
end
section
variable {a L:M} {c aV l m a2 bK:Nat} {aA aU:List Nat} {Z:U} {N aP:Int}
theorem gV.bW(r:cH b6 Z a c (D.aK a2))(R:l=(D.aK a2).length):aY gV.id #[.slice a l c] Z fun v K=>bA Z K∧gO Z K v a2:=by
 have:=nD r R
 rw [D.e1] at this;exact this
end
namespace fR
def aL.v(a:Bool)(b:Nat):(Bool × Nat):=
 fQ (b) fun b=>
 bif a then
  ((decide (((((D.aK b).length:Nat):Int)) > (0:Int))),b)
 else
  (false,b)
theorem aL.bW{Y:aD}{aX Z:U}(b:bA aX Z){o:Bool}{aJ:M}{aG aI:Nat}{f:Nat}(r:cH b6 Z aJ aG (D.aK f))(s:aI=(D.aK f).length)(g:hY gU aX Y (aL.v o f)):aL.t Y o aJ aI aG Z:=by
 subst s
 have c:=bA.refl Z
 unfold aL.v at g
 unfold aL.t
 refine eZ fun u a l=>?_
 have a:eC u (Z.size) [.bool false,.slice none (D.aK 0).length 0]:=by rw [D.eP];exact a
 have h:aX.size≤Z.size:=b.le
 have i:Z.size≤Z.size:=c.le
 have A:=a.lt
 have w:=l.cZ
 have b:=b.trans l
 have c:=c.trans l
 refine cA (gV.bW (r.cZ (w)) rfl) fun v B ⟨j,aH⟩=>?_
 obtain⟨C,q⟩:∃ p,p=f:=⟨_,rfl⟩
 rw [← q] at aH
 replace g:=gJ q g
 obtain⟨E,F,rfl,k⟩:=aH
 refine bE rfl (?_)
 have k:=k.from b.le
 have G:=j.cZ
 have a:=a.aR j
 have b:=b.trans j
 have c:=c.trans j
 refine w9 g (fun x g=>?_) (fun x g=>?_)
 ·refine eV a (cB _ _) rfl fun y a d m=>?_
  have b:=cD.aR b d h
  have c:=cD.aR c d i
  refine eV a (cB _ _) rfl fun z a e n=>?_
  have b:=cD.aR b e h
  have c:=cD.aR c e i
  refine dD a (cB _ _) rfl ?_
  refine c5 rfl ?_
  refine dD a (cB _ _) rfl ?_
  refine bE rfl ?_
  exact g _ _ b ⟨_,_,rfl,(k.cZ (m.trans n))⟩
 ·refine eV a (cB _ _) rfl fun y a d m=>?_
  have b:=cD.aR b d h
  have c:=cD.aR c d i
  refine eV a (cB _ _) rfl fun z a e n=>?_
  have b:=cD.aR b e h
  have c:=cD.aR c e i
  refine dD a (cB _ _) rfl ?_
  refine c5 rfl ?_
  refine dD a (cB _ _) rfl ?_
  refine bE rfl ?_
  exact g _ _ b ⟨_,_,rfl,(k.cZ (m.trans n))⟩
def v(a:Bool)(b:Nat):(Bool × Nat):=aL.v a b
theorem bW{Z:U}{a:Bool}{aJ:M}{aG aI:Nat}{b:Nat}(c:cH b6 Z aJ aG (D.aK b))(d:aI=(D.aK b).length):aY id #[.bool a,.slice aJ aI aG] Z fun e f=>bA Z f∧gU Z f e (v a b):=
 ok (aL.bW (bA.refl _) c d fun v K S aH=>⟨S,aH⟩)
end fR
theorem r0(a2:Nat):(D.aK a2).length=0↔a2=0:=by
 constructor
 ·intro Z
  have a:D.aK a2=[]:=List.length_eq_zero_iff.mp Z
  rw [← D.e1 a2,a];rfl
 ·intro Z;subst Z;simp [D.eP]
theorem KD(L:Bool)(a2:Nat):fR.v L a2=dM (dE L a2):=by
 unfold fR.v fR.aL.v
 rw [Ku]
 have R:decide ((((D.aK a2).length:Nat):Int) > 0)=decide (a2 ≠ 0):=by
  rw [decide_eq_decide];have:=r0 a2;omega
 simp only [fQ,R]
 cases L <;> rfl
section
variable {a L:M} {c aV l m a2:Nat} {aA aU:List Nat} {Z:U} {N aP:Int} {p aE:Bool}
theorem fR.bM(r:cH b6 Z a c (D.aK a2))(R:l=(D.aK a2).length):aY fR.id #[.bool p,.slice a l c] Z fun v K=>bA Z K∧gU Z K v (dM (dE p a2)):=by rw [← KD];exact fR.bW r R
theorem nI.bM(O:In .i64 N):aY nI.id #[.int .i64 N] Z fun v K=>bA Z K∧gU Z K v (dM N):=by
 rw [qI] at O
 refine nI.ok ?_
 unfold nI.t nI.aL.t
 refine eZ fun m a n=>?_
 refine b9 (fun b=>?_) fun b=>?_
 ·have b:N < 0:=b
  refine j5 (aP:=N+1) (wrap_i64 (by omega) (by omega)) ?_
  refine j5 (aP:=-(N+1)) (by rw [show 0 - (N+1)=-(N+1) by omega];exact wrap_i64 (by omega) (by omega)) ?_
  refine j5 (aP:=(((N+1).natAbs:Nat):Int)) (by rw [wrap_u64];omega) ?_
  refine cA (n1 (aB:=(N+1).natAbs) rfl (by omega) m) fun v o ⟨c,aH⟩=>?_
  refine aH.elim fun aJ aG e=>?_
  refine cA (n1 (aB:=1) rfl (by omega) o) fun v fM ⟨f,aH⟩=>?_
  refine aH.elim fun bJ bG q=>?_
  have aI:(D.aK (N+1).natAbs).length≤2:=BB.mpr (by omega)
  have bZ:(D.aK 1).length≤2:=BB.mpr (by omega)
  refine cA (BK (e.rd.aR f) q.rd rfl rfl (by omega) (by omega)) fun v x ⟨p,aH⟩=>?_
  refine aH.elim fun c3 cR r=>?_
  refine cA (fR.bM r.rd rfl) fun v s ⟨d,aH⟩=>?_
  have g:dE true ((N+1).natAbs+1)=N:=by unfold dE;simp only [if_true];omega
  rw [g] at aH
  have eK:=n.trans (c.trans (f.trans p))
  obtain⟨eA,eF,R,h⟩:=aH
  subst R
  refine e5 rfl ?_
  refine cF ?_
  refine c5 rfl ?_
  refine cF ?_
  refine bE rfl ?_
  refine dR ?_
  have a:=a.aR (c.trans (f.trans (p.trans d)))
  refine eV a (cB _ _) rfl fun u a i j=>?_
  refine eV a (cB _ _) rfl fun w a k l=>?_
  refine dD a (cB _ _) rfl ?_
  refine c5 rfl ?_
  refine dD a (cB _ _) rfl ?_
  refine bE rfl ?_
  exact⟨cD.aR (cD.aR (eK.trans d) i (Nat.le_refl _)) k (Nat.le_refl _),_,_,rfl,(h.from eK.le).cZ (j.trans l)⟩
 ·have b:¬ N < 0:=b
  refine j5 (aP:=((N.natAbs:Nat):Int)) (by rw [wrap_u64];omega) ?_
  refine cA (n1 (aB:=N.natAbs) rfl (by omega) m) fun v o ⟨c,aH⟩=>?_
  refine aH.elim fun aJ aG e=>?_
  refine cA (fR.bM e.rd rfl) fun v s ⟨d,aH⟩=>?_
  have g:dE false N.natAbs=N:=by unfold dE;simp only [Bool.false_eq_true,if_false];omega
  rw [g] at aH
  have eK:=n.trans c
  obtain⟨eA,eF,R,h⟩:=aH
  subst R
  refine e5 rfl ?_
  refine cF ?_
  refine c5 rfl ?_
  refine cF ?_
  refine bE rfl ?_
  refine dR ?_
  have a:=a.aR (c.trans d)
  refine eV a (cB _ _) rfl fun u a i j=>?_
  refine eV a (cB _ _) rfl fun w a k l=>?_
  refine dD a (cB _ _) rfl ?_
  refine c5 rfl ?_
  refine dD a (cB _ _) rfl ?_
  refine bE rfl ?_
  exact⟨cD.aR (cD.aR (eK.trans d) i (Nat.le_refl _)) k (Nat.le_refl _),_,_,rfl,(h.from eK.le).cZ (j.trans l)⟩
end
section
variable {a L:M} {c aV l m a2:Nat} {aA aU:List Nat} {Z:U} {N aP:Int} {p aE:Bool}
end
theorem B9(a:Int):∃ p b,a=dE p b∧(p=true→b ≠ 0)∧b=a.natAbs:=by
 by_cases Z:a < 0
 ·exact⟨true,a.natAbs,by unfold dE;simp;omega,fun _=>by omega,rfl⟩
 ·exact⟨false,a.natAbs,by unfold dE;simp;omega,fun Z=>(by cases Z),rfl⟩
theorem FI{a bC:Nat}(Z:a % bC ≠ 0):a / bC+1≤a:=by
 have c:=Nat.div_add_mod a bC
 rcases Nat.eq_zero_or_pos bC with aX | aX
 ·subst aX;simp at Z ⊢;omega
 have d:=Nat.mod_lt a aX
 generalize a % bC=r at *
 have b:2≤bC:=by omega
 have e:=Nat.mul_le_mul_right (a / bC) b
 omega
theorem KE{a L:Int}(b:L ≠ 0):(hP a L).natAbs≤a.natAbs:=by
 obtain⟨p,e,rfl,c,_⟩:=B9 a
 obtain⟨aE,bC,rfl,f,_⟩:=B9 L
 have d:bC ≠ 0:=fun Z=>b (B6.mpr Z)
 rw [xP d c,qR,qR]
 split
 ·rename_i Z;exact FI Z.2
 ·exact Nat.div_le_self _ _
theorem KF{a bC:Nat}(b:bC ≠ 0):hQ a bC≤a:=by
 unfold hQ
 split
 ·rename_i Z;exact FI (by omega)
 ·exact Nat.div_le_self _ _
theorem KG{a L:Int}(b:L ≠ 0):(lH a L).natAbs≤a.natAbs:=by
 unfold lH;rw [qR];exact KF (by omega)
theorem KH{a L:Int}:lH (-a) L=-lH a L:=by
 by_cases Z:a=0
 ·subst Z
  unfold lH
  have:hQ (0:Int).natAbs L.natAbs=0:=by
   unfold hQ;simp
  simp only [Int.neg_zero,this,pV]
 ·unfold lH
  rw [Int.natAbs_neg,B4]
  congr 1
  have:decide (-a < 0)=!decide (a < 0):=by
   by_cases b:a < 0
   ·simp [b];omega
   ·simp [b];omega
  rw [this];cases decide (a < 0) <;> cases decide (L < 0) <;> rfl
theorem KI(O aC:Int):decide (hL O aC > 0)=decide (O > aC):=by
 unfold hL
 rcases Int.lt_trichotomy O aC with Z | Z | Z
 ·rw [if_pos Z];simp;omega
 ·subst Z;simp
 ·rw [if_neg (by omega),if_neg (by omega)];simp;omega
theorem KJ(O:Int):(hL O 0 == 0)=decide (O=0):=by
 unfold hL
 rcases Int.lt_trichotomy O 0 with Z | Z | Z
 ·rw [if_pos Z];have:O ≠ 0:=by omega
  simp [this]
 ·subst Z;simp
 ·rw [if_neg (by omega),if_neg (by omega)];have:O ≠ 0:=by omega
  simp [this]
section
variable {a:M} {c l:Nat} {aA:List Nat} {Z:U} {N:Int} {p:Bool}
end
theorem FJ(Z:U)(a:M)(c:Nat):cH b6 Z a c (D.aK 0):=by rw [D.eP];exact cH.nil _ _ _
theorem tQ(aX Z:U):cV b6 aX Z none 0 (D.aK 0):=by rw [D.eP];exact cV.nil _ _
theorem _root_.Go.Gv.eC.FK{Z:U}{L S:Nat}{bV:List Value}(aN:eC Z L (bV.set S (.slice none 0 0))):eC Z L (bV.set S (.slice none (D.aK 0).length 0)):=by rw [D.eP];exact aN
theorem n6{a2 bK:Nat}(Z:a2≤bK):(D.aK a2).length≤(D.aK bK).length:=D.nV Z
theorem xQ(a2 bK:Nat):(D.aK (a2*bK)).length≤(D.aK a2).length+(D.aK bK).length:=by
 have a:=(D.gR (n:=a2)).mp (Nat.le_refl _)
 have b:=(D.gR (n:=bK)).mp (Nat.le_refl _)
 rw [D.gR,Nat.mul_add,Nat.pow_add]
 exact Nat.mul_lt_mul'' a b
theorem xR(a2 bK:Nat):(D.aK (a2+bK)).length≤(D.aK a2).length+(D.aK bK).length+1:=by
 have a:=(D.gR (n:=a2)).mp (Nat.le_refl _)
 have b:=(D.gR (n:=bK)).mp (Nat.le_refl _)
 rw [D.gR]
 generalize (D.aK a2).length=aC at *
 generalize (D.aK bK).length=S at *
 have aZ:2 ^ (32*aC)≤2 ^ (32*(aC+S)):=Nat.pow_le_pow_right (by decide) (by omega)
 have c:2 ^ (32*S)≤2 ^ (32*(aC+S)):=Nat.pow_le_pow_right (by decide) (by omega)
 have d:2*2 ^ (32*(aC+S))≤2 ^ (32*(aC+S+1)):=by
  have:(2:Nat)*2 ^ (32*(aC+S))=2 ^ (32*(aC+S)+1):=by rw [Nat.pow_succ];omega
  rw [this];exact Nat.pow_le_pow_right (by decide) (by omega)
 omega
theorem KK{N:Int}(O:In .u64 N):(D.aK N.toNat).length≤2:=by
 rw [xB] at O
 exact D.gR.mpr (by show N.toNat < 2 ^ 64;omega)
theorem KL(a2 bK:Nat):(D.aK (nE a2 bK).1).length≤(D.aK a2).length:=by
 unfold nE;split
 ·exact n6 (Nat.zero_le _)
 ·exact n6 (Nat.div_le_self _ _)
theorem KM(a2 bK:Nat):(D.aK (nE a2 bK).2).length≤(D.aK a2).length:=by
 unfold nE;split
 ·exact n6 (Nat.zero_le _)
 ·exact n6 (Nat.mod_le _ _)
theorem qT(L:Bool)(a2:Nat):(c1 (L,a2)).natAbs=a2:=qR L a2
theorem r1{O:Int}{n:Nat}(Z:O.natAbs≤n):(D.aK (dM O).2).length≤(D.aK n).length:=D.nV Z
theorem lI(L:Bool)(a2:Nat):(D.aK (dM (dE L a2)).2).length≤(D.aK a2).length:=r1 (by rw [qR];exact Nat.le_refl _)
theorem Ca{N:Int}(O:In .i64 N):(D.aK (dM N).2).length≤2:=by
 rw [qI] at O
 exact D.gR.mpr (by show N.natAbs < 2 ^ 64;omega)
theorem Cb(L:Bool)(a2:Nat):(D.aK (dM (-c1 (L,a2))).2).length≤(D.aK a2).length:=r1 (by rw [Int.natAbs_neg,qT];exact Nat.le_refl _)
theorem Cc(L:Bool)(a2:Nat)(c:Bool)(bK:Nat):(D.aK (dM (c1 (L,a2)+c1 (c,bK))).2).length≤(D.aK a2).length+(D.aK bK).length+1:=
 Nat.le_trans (r1 (n:=a2+bK) (by have:=Int.natAbs_add_le (c1 (L,a2)) (c1 (c,bK));rw [qT,qT] at this;exact this)) (xR a2 bK)
theorem FL(L:Bool)(a2:Nat)(c:Bool)(bK:Nat):(D.aK (dM (c1 (L,a2) - c1 (c,bK))).2).length≤(D.aK a2).length+(D.aK bK).length+1:=
 Nat.le_trans (r1 (n:=a2+bK) (by have:=Int.natAbs_sub_le (c1 (L,a2)) (c1 (c,bK));rw [qT,qT] at this;exact this)) (xR a2 bK)
theorem KN(L:Bool)(a2:Nat):(D.aK (dM (c1 (L,a2)*2 ^ (Int.toNat (1:Int)))).2).length≤(D.aK a2).length+1:=by
 refine Nat.le_trans (r1 (n:=a2*2) (by rw [Int.natAbs_mul,qT];exact Nat.le_refl _)) (Nat.le_trans (xQ a2 2) ?_)
 have:(D.aK 2).length≤1:=D.gR.mpr (by decide)
 omega
def nJ(a L:Int):vU × vU:=if L≤0 then((false,0),(false,0)) else(dM (a / L),dM (a % L))
theorem FM{a L:Int}(Z:0 < L):hP a L=a / L:=by unfold hP;rw [if_neg (by omega)]
theorem KO(a L:Int):(hP a L).natAbs≤a.natAbs:=by
 by_cases Z:L=0
 ·subst Z;unfold hP;simp
 ·exact KE Z
theorem Cd(n:Nat):(D.aK 0).length≤n:=by simp [D.eP]
theorem KP(L:Bool)(a2:Nat)(c:Bool)(bK:Nat):(D.aK (nJ (c1 (L,a2)) (c1 (c,bK))).1.2).length≤(D.aK a2).length:=by
 unfold nJ;split
 ·exact Cd _
 ·rename_i Z
  have:=KO (c1 (L,a2)) (c1 (c,bK))
  rw [FM (by omega),qT] at this
  exact r1 this
theorem KQ(L:Bool)(a2:Nat)(c:Bool)(bK:Nat):(D.aK (nJ (c1 (L,a2)) (c1 (c,bK))).2.2).length≤(D.aK bK).length:=by
 unfold nJ;split
 ·exact Cd _
 ·rename_i Z
  refine r1 ?_
  have aZ:=Int.emod_lt_of_pos (c1 (L,a2)) (show 0 < c1 (c,bK) by omega)
  have a:=Int.emod_nonneg (c1 (L,a2)) (show c1 (c,bK) ≠ 0 by omega)
  have b:=qT c bK
  omega
def nK(a L:Int):vU:=if L < 0 then dM 1 else if L=0 then(false,0) else dM (lH a L)
def vV(a L:Int):vU:=if L=0 then(false,0) else dM (lH a L)
theorem KR(L:Bool)(a2:Nat)(c:Bool)(bK:Nat):(D.aK (nK (c1 (L,a2)) (c1 (c,bK))).2).length≤(D.aK a2).length+1:=by
 unfold nK;split
 ·have:(D.aK (dM 1).2).length≤1:=D.gR.mpr (by decide)
  omega
 ·split
  ·exact Cd _
  ·exact Nat.le_succ_of_le (r1 (by have:=KG (a:=c1 (L,a2)) (L:=c1 (c,bK)) (by omega);rw [qT] at this;exact this))
section
variable {a L:M} {c aV l m a2 bK:Nat} {aA aU:List Nat} {Z:U} {N aP:Int}
theorem gF.bW(O:In .u64 N):aY gF.id #[.int .u64 N] Z fun v K=>bA Z K∧gO Z K v N.toNat:=n1 (Fc O).1 (Fc O).2 Z
theorem gS.bW(r:cH b6 Z a c (D.aK a2))(R:l=(D.aK a2).length)(aH:cH b6 Z L aV (D.aK bK))(f:m=(D.aK bK).length)(b:(D.aK a2).length≤100000000)(b:(D.aK bK).length≤100000000):aY gS.id #[.slice a l c,.slice L m aV] Z fun v K=>bA Z K∧gO Z K v (a2+bK):=BK r aH R f (by omega) (by omega)
theorem g1.bW(r:cH b6 Z a c (D.aK a2))(R:l=(D.aK a2).length)(aH:cH b6 Z L aV (D.aK bK))(f:m=(D.aK bK).length):aY g1.id #[.slice a l c,.slice L m aV] Z fun v K=>bA Z K∧gO Z K v (a2 - bK):=EN r aH R f
theorem hG.bW(r:cH b6 Z a c (D.aK a2))(R:l=(D.aK a2).length)(aH:cH b6 Z L aV (D.aK bK))(f:m=(D.aK bK).length)(b:(D.aK a2).length≤100000000)(b:(D.aK bK).length≤100000000):aY hG.id #[.slice a l c,.slice L m aV] Z fun v K=>bA Z K∧gO Z K v (a2*bK):=EH r aH R f (by omega) (by omega)
theorem hZ.bW(r:cH b6 Z a c (D.aK a2))(R:l=(D.aK a2).length)(aH:cH b6 Z L aV (D.aK bK))(f:m=(D.aK bK).length):aY hZ.id #[.slice a l c,.slice L m aV] Z fun v K=>bA Z K∧m6 .i64 Z K v (fA a2 bK):=Fb (zW r aH R f) fun v aH=>⟨aH,JW _ _⟩
theorem hK.bW(r:cH b6 Z a c (D.aK a2))(R:l=(D.aK a2).length)(aH:cH b6 Z L aV (D.aK bK))(f:m=(D.aK bK).length)(b:(D.aK a2).length≤100000000):aY hK.id #[.slice a l c,.slice L m aV] Z fun v K=>bA Z K∧s2 gO gO Z K v (nE a2 bK):=EV r aH R f (by omega)
theorem oP.bW(r:cH b6 Z a c (D.aK a2))(R:l=(D.aK a2).length)(O:In .i64 N):aY oP.id #[.slice a l c,.int .i64 N] Z fun v K=>bA Z K∧m6 .i64 Z K v (tD a2 N):=Fb (Jo r R O) fun v aH=>⟨aH,by unfold tD;split <;> rw [qI] <;> omega⟩
theorem kT.bW(r:cH b6 Z a c (D.aK a2))(R:l=(D.aK a2).length)(O:In .i64 N)(aB:0≤N):aY kT.id #[.slice a l c,.int .i64 N] Z fun v K=>bA Z K∧gO Z K v (a2 / 2 ^ N.toNat):=by
 rw [qI] at O;exact BP r R (n:=N.toNat) (by omega) (by omega)
theorem jR.bW(r:cH b6 Z a c (D.aK a2))(R:l=(D.aK a2).length)(O:In .i64 N)(aB:0≤N)(b:(D.aK a2).length≤100000000):aY jR.id #[.slice a l c,.int .i64 N] Z fun v K=>bA Z K∧gO Z K v (a2 % 2 ^ N.toNat):=by
 rw [qI] at O;exact EK r R (n:=N.toNat) (by omega) (by omega) (by omega)
theorem kM.bW(r:cH b6 Z a c (D.aK a2))(R:l=(D.aK a2).length)(O:In .i64 N)(aB:0≤N)(b:N≤35184372088832∨a2=0)(i:(D.aK a2).length≤100000000):aY kM.id #[.slice a l c,.int .i64 N] Z fun v K=>bA Z K∧gO Z K v (a2*2 ^ N.toNat):=by
 by_cases aX:N≤35184372088832
 ·exact zZ r R (n:=N.toNat) (by omega) (by omega) (by omega)
 ·have d:a2=0:=by rcases b with b | b;exact absurd b aX;exact b
  subst d;subst R
  rw [Nat.zero_mul]
  refine kM.ok ?_
  unfold kM.t kM.aL.t
  have f:(D.aK 0).length=0:=by simp [D.eP]
  refine b9 (fun aZ=>absurd aZ (by omega)) fun aZ=>?_
  refine eY (fun e=>?_) fun e=>absurd (by rw [f];rfl) e
  have d:D.val (D.aK 0)=0:=D.e1 0
  refine cA (nD r rfl) fun v K ⟨g,aH⟩=>?_
  rw [d] at aH
  exact aH.elim fun bJ bG h=>⟨g,bJ,bG,rfl,h⟩
end
namespace kP
def aL.v(a:Bool)(b:Nat):Int:=
 bif (((((D.aK b).length:Nat):Int)) == (0:Int)) then
  (0:Int)
 else
  bif a then
   (-1:Int)
  else
   (1:Int)
theorem aL.bW{Y:aD}{aX Z:U}(a:bA aX Z){f:Bool}{h:M}{i j:Nat}{b:Nat}(n:cH b6 Z h i (D.aK b))(k:j=(D.aK b).length)(g:hY (m6 .i64) aX Y (aL.v f b)):aL.t Y f h j i Z:=by
 subst k
 have c:=bA.refl Z
 unfold aL.v at g
 unfold aL.t
 refine eZ fun o d e=>?_
 have p:aX.size≤Z.size:=a.le
 have q:Z.size≤Z.size:=c.le
 have r:=d.lt
 have s:=e.cZ
 have a:=a.trans e
 have c:=c.trans e
 refine dD d (cB _ _) rfl ?_
 refine bE rfl ?_
 refine Bz g (fun l g=>?_) (fun l g=>?_)
 ·exact g _ _ a ⟨rfl,(show In .i64 (0:Int) by decide)⟩
 ·refine dD d (cB _ _) rfl ?_
  refine c5 rfl ?_
  refine w9 g (fun m g=>?_) (fun m g=>?_)
  ·exact g _ _ a ⟨rfl,(show In .i64 (-1:Int) by decide)⟩
  ·exact g _ _ a ⟨rfl,(show In .i64 (1:Int) by decide)⟩
def v(a:Bool)(b:Nat):Int:=aL.v a b
theorem bW{Z:U}{a:Bool}{b:M}{c d:Nat}{e:Nat}(f:cH b6 Z b c (D.aK e))(g:d=(D.aK e).length):aY id #[.agg #[.bool a,.slice b d c]] Z fun b c=>bA Z c∧(m6 .i64) Z c b (v a e):=
 ok (aL.bW (bA.refl _) f g fun v K S aH=>⟨S,aH⟩)
end kP
namespace mN
def aL.v(a:Bool)(b:Nat):(Bool × Nat):=
 fQ (dM (dE (!a) b)) fun a=>
 (a.1,a.2)
theorem aL.bW{Y:aD}{aX Z:U}(a:bA aX Z){h:Bool}{q:M}{r s:Nat}{e:Nat}(y:cH b6 Z q r (D.aK e))(z:s=(D.aK e).length)(g:hY gU aX Y (aL.v h e)):aL.t Y h q s r Z:=by
 subst z
 have b:=bA.refl Z
 unfold aL.v at g
 unfold aL.t
 refine eZ fun i c k=>?_
 have H:aX.size≤Z.size:=a.le
 have I:Z.size≤Z.size:=b.le
 have J:=c.lt
 have A:=k.cZ
 have a:=a.trans k
 have b:=b.trans k
 refine eZ fun B d j=>?_
 have u:Z.size ≠ i.size:=Nat.ne_of_lt c.lt
 have d:eC B (i.size) [.bool false,.slice none (D.aK 0).length 0]:=by rw [D.eP];exact d
 have w:aX.size≤i.size:=a.le
 have x:Z.size≤i.size:=b.le
 have P:=d.lt
 have C:=j.cZ
 have c:=c.aR j
 have a:=a.trans j
 have b:=b.trans j
 refine dD c (cB _ _) rfl ?_
 refine c5 rfl ?_
 refine dD c (cB _ _) rfl ?_
 refine bE rfl ?_
 refine cA (fR.bM (y.cZ (A.trans C)) rfl) fun v Q ⟨f,aH⟩=>?_
 obtain⟨T,l⟩:∃ p,p=dM (dE (!h) e):=⟨_,rfl⟩
 rw [← l] at aH
 replace g:=gJ l g
 have E:=lI (!h) e
 rw [← l] at E
 obtain⟨V,Pt,rfl,m⟩:=aH
 refine e5 rfl (cF (c5 rfl (cF (bE rfl (dR (?_))))))
 have m:=m.from a.le
 have Pu:=f.cZ
 have c:=c.aR f
 have d:=d.aR f
 have a:=a.trans f
 have b:=b.trans f
 refine eV d (cB _ _) rfl fun Pv d n F=>?_
 have c:=c.cL u n
 have a:=cD.aR a n w
 have b:=cD.aR b n x
 refine eV d (cB _ _) rfl fun Pw d o G=>?_
 have c:=c.cL u o
 have a:=cD.aR a o w
 have b:=cD.aR b o x
 refine dD d (cB _ _) rfl ?_
 refine c5 rfl ?_
 refine dD d (cB _ _) rfl ?_
 refine bE rfl ?_
 exact g _ _ a ⟨_,_,rfl,(m.cZ (F.trans G))⟩
def v(a:Bool)(b:Nat):(Bool × Nat):=aL.v a b
theorem bW{Z:U}{a:Bool}{b:M}{c d:Nat}{e:Nat}(f:cH b6 Z b c (D.aK e))(g:d=(D.aK e).length):aY id #[.agg #[.bool a,.slice b d c]] Z fun b c=>bA Z c∧gU Z c b (v a e):=
 ok (aL.bW (bA.refl _) f g fun v K S aH=>⟨S,aH⟩)
end mN
namespace lJ
def aL.v(a:Bool)(b:Nat)(c:Bool)(d:Nat):(Bool × Nat):=
 bif (a == c) then
  fQ (b+d) fun e=>
  fQ (dM (dE a e)) fun e=>
  (e.1,e.2)
 else
  bif (decide ((fA b d)≥(0:Int))) then
   fQ (b - d) fun e=>
   fQ (dM (dE a e)) fun a=>
   (a.1,a.2)
  else
   fQ (d - b) fun a=>
   fQ (dM (dE c a)) fun a=>
   (a.1,a.2)
theorem aL.bW{Y:aD}{aX Z:U}(a:bA aX Z){s:Bool}{PF:M}{PG PH:Nat}{n:Nat}(E:cH b6 Z PF PG (D.aK n))(PS:PH=(D.aK n).length)(P5:(D.aK n).length≤1000000){F:Bool}{PI:M}{PJ PK:Nat}{o:Nat}(G:cH b6 Z PI PJ (D.aK o))(PT:PK=(D.aK o).length)(P6:(D.aK o).length≤1000000)(g:hY gU aX Y (aL.v s n F o)):aL.t Y s PF PH PG F PI PK PJ Z:=by
 subst PS PT
 have d:=bA.refl Z
 have P7:(D.aK 0).length=0:=by simp [D.eP]
 unfold aL.v at g
 unfold aL.t
 refine eZ fun H b Q=>?_
 have P8:aX.size≤Z.size:=a.le
 have P9:Z.size≤Z.size:=d.le
 have z:=b.lt
 have r:=Q.cZ
 have a:=a.trans Q
 have d:=d.trans Q
 refine eZ fun A c I=>?_
 have Qa:Z.size ≠ H.size:=Nat.ne_of_lt b.lt
 have Qb:aX.size≤H.size:=a.le
 have Qc:Z.size≤H.size:=d.le
 have J:=c.lt
 have l:=I.cZ
 have b:=b.aR I
 have a:=a.trans I
 have d:=d.trans I
 refine eZ fun PU e B=>?_
 have u:Z.size ≠ A.size:=Nat.ne_of_lt b.lt
 have w:H.size ≠ A.size:=Nat.ne_of_lt c.lt
 have e:eC PU (A.size) [.bool false,.slice none (D.aK 0).length 0]:=by rw [D.eP];exact e
 have x:aX.size≤A.size:=a.le
 have y:Z.size≤A.size:=d.le
 have Qd:=e.lt
 have i:=B.cZ
 have b:=b.aR B
 have c:=c.aR B
 have a:=a.trans B
 have d:=d.trans B
 refine dD b (cB _ _) rfl ?_
 refine c5 rfl ?_
 refine dD c (cB _ _) rfl ?_
 refine c5 rfl ?_
 refine w9 g (fun PV g=>?_) (fun PV g=>?_)
 ·refine⟨iF (cB _ _) ((l.trans i).lt z),?_⟩
  refine dD b (cB _ _) rfl ?_
  refine c5 rfl ?_
  refine⟨iF (cB _ _) ((l.trans i).lt z),?_⟩
  refine dD b (cB _ _) rfl ?_
  refine bE rfl ?_
  refine⟨iF (cB _ _) ((i).lt J),?_⟩
  refine dD c (cB _ _) rfl ?_
  refine bE rfl ?_
  refine cA (gS.bW (E.cZ (r.trans (l.trans i))) rfl (G.cZ (r.trans (l.trans i))) rfl (by first | assumption | decide | omega) (by first | assumption | decide | omega)) fun v PW ⟨j,aH⟩=>?_
  obtain⟨PL,T⟩:∃ p,p=n+o:=⟨_,rfl⟩
  rw [← T] at aH
  replace g:=gJ T g
  have PX:=xR n o
  rw [← T] at PX
  obtain⟨Qe,Qf,rfl,V⟩:=aH
  refine bE rfl (?_)
  have V:=V.from a.le
  have m:=j.cZ
  have b:=b.aR j
  have c:=c.aR j
  have e:=e.aR j
  have a:=a.trans j
  have d:=d.trans j
  refine⟨j.fV (Nat.le_refl _),?_⟩
  refine cA (fR.bM V.rd rfl) fun v PM ⟨f,aH⟩=>?_
  obtain⟨Qg,Pt⟩:∃ p,p=dM (dE s PL):=⟨_,rfl⟩
  rw [← Pt] at aH
  replace g:=gJ Pt g
  have PY:=lI s PL
  rw [← Pt] at PY
  obtain⟨Qh,Qi,rfl,Pu⟩:=aH
  refine e5 rfl (cF (c5 rfl (cF (bE rfl (dR (?_))))))
  have Pu:=Pu.from a.le
  have P:=f.cZ
  have b:=b.aR f
  have c:=c.aR f
  have e:=e.aR f
  have a:=a.trans f
  have d:=d.trans f
  refine⟨f.fV (m).le,?_⟩
  refine eV e (cB _ _) rfl fun PN e h Pv=>?_
  have b:=b.cL u h
  have c:=c.cL w h
  have a:=cD.aR a h x
  have d:=cD.aR d h y
  refine eV e (cB _ _) rfl fun PO e k C=>?_
  have b:=b.cL u k
  have c:=c.cL w k
  have a:=cD.aR a k x
  have d:=cD.aR d k y
  refine dD e (cB _ _) rfl ?_
  refine c5 rfl ?_
  refine dD e (cB _ _) rfl ?_
  refine bE rfl ?_
  exact g _ _ a ⟨_,_,rfl,(Pu.cZ (Pv.trans C))⟩
 ·refine dD b (cB _ _) rfl ?_
  refine bE rfl ?_
  refine dD c (cB _ _) rfl ?_
  refine bE rfl ?_
  refine cA (hZ.bW (E.cZ (r.trans (l.trans i))) rfl (G.cZ (r.trans (l.trans i))) rfl) fun v PW ⟨j,aH⟩=>?_
  obtain⟨rfl,Qj⟩:=aH
  refine bQ rfl (?_)
  have m:=j.cZ
  have b:=b.aR j
  have c:=c.aR j
  have e:=e.aR j
  have a:=a.trans j
  have d:=d.trans j
  refine xA g (fun PZ g=>?_) (fun PZ g=>?_)
  ·refine⟨iF (cB _ _) ((l.trans (i.trans m)).lt z),?_⟩
   refine dD b (cB _ _) rfl ?_
   refine c5 rfl ?_
   refine⟨iF (cB _ _) ((l.trans (i.trans m)).lt z),?_⟩
   refine dD b (cB _ _) rfl ?_
   refine bE rfl ?_
   refine⟨iF (cB _ _) ((i.trans m).lt J),?_⟩
   refine dD c (cB _ _) rfl ?_
   refine bE rfl ?_
   refine cA (g1.bW (E.cZ (r.trans (l.trans (i.trans m)))) rfl (G.cZ (r.trans (l.trans (i.trans m)))) rfl) fun v PM ⟨f,aH⟩=>?_
   obtain⟨PQ,Pw⟩:∃ p,p=n - o:=⟨_,rfl⟩
   rw [← Pw] at aH
   replace g:=gJ Pw g
   have P0:=n6 (Nat.sub_le n o)
   rw [← Pw] at P0
   obtain⟨Qk,Ql,rfl,Px⟩:=aH
   refine bE rfl (?_)
   have Px:=Px.from a.le
   have P:=f.cZ
   have b:=b.aR f
   have c:=c.aR f
   have e:=e.aR f
   have a:=a.trans f
   have d:=d.trans f
   refine⟨f.fV (Nat.le_refl _),?_⟩
   refine cA (fR.bM Px.rd rfl) fun v PN ⟨h,aH⟩=>?_
   obtain⟨Qm,Py⟩:∃ p,p=dM (dE s PQ):=⟨_,rfl⟩
   rw [← Py] at aH
   replace g:=gJ Py g
   have P1:=lI s PQ
   rw [← Py] at P1
   obtain⟨Qn,Qo,rfl,Pz⟩:=aH
   refine e5 rfl (cF (c5 rfl (cF (bE rfl (dR (?_))))))
   have Pz:=Pz.from a.le
   have Pv:=h.cZ
   have b:=b.aR h
   have c:=c.aR h
   have e:=e.aR h
   have a:=a.trans h
   have d:=d.trans h
   refine⟨h.fV (P).le,?_⟩
   refine eV e (cB _ _) rfl fun PO e k C=>?_
   have b:=b.cL u k
   have c:=c.cL w k
   have a:=cD.aR a k x
   have d:=cD.aR d k y
   refine eV e (cB _ _) rfl fun P2 e q PA=>?_
   have b:=b.cL u q
   have c:=c.cL w q
   have a:=cD.aR a q x
   have d:=cD.aR d q y
   refine dD e (cB _ _) rfl ?_
   refine c5 rfl ?_
   refine dD e (cB _ _) rfl ?_
   refine bE rfl ?_
   exact g _ _ a ⟨_,_,rfl,(Pz.cZ (C.trans PA))⟩
  ·refine⟨iF (cB _ _) ((i.trans m).lt J),?_⟩
   refine dD c (cB _ _) rfl ?_
   refine c5 rfl ?_
   refine⟨iF (cB _ _) ((i.trans m).lt J),?_⟩
   refine dD c (cB _ _) rfl ?_
   refine bE rfl ?_
   refine⟨iF (cB _ _) ((l.trans (i.trans m)).lt z),?_⟩
   refine dD b (cB _ _) rfl ?_
   refine bE rfl ?_
   refine cA (g1.bW (G.cZ (r.trans (l.trans (i.trans m)))) rfl (E.cZ (r.trans (l.trans (i.trans m)))) rfl) fun v PM ⟨f,aH⟩=>?_
   obtain⟨PR,PB⟩:∃ p,p=o - n:=⟨_,rfl⟩
   rw [← PB] at aH
   replace g:=gJ PB g
   have P3:=n6 (Nat.sub_le o n)
   rw [← PB] at P3
   obtain⟨Qp,Qq,rfl,PC⟩:=aH
   refine bE rfl (?_)
   have PC:=PC.from a.le
   have P:=f.cZ
   have b:=b.aR f
   have c:=c.aR f
   have e:=e.aR f
   have a:=a.trans f
   have d:=d.trans f
   refine⟨f.fV (Nat.le_refl _),?_⟩
   refine cA (fR.bM PC.rd rfl) fun v PN ⟨h,aH⟩=>?_
   obtain⟨Qr,PD⟩:∃ p,p=dM (dE F PR):=⟨_,rfl⟩
   rw [← PD] at aH
   replace g:=gJ PD g
   have P4:=lI F PR
   rw [← PD] at P4
   obtain⟨Qs,Qt,rfl,PE⟩:=aH
   refine e5 rfl (cF (c5 rfl (cF (bE rfl (dR (?_))))))
   have PE:=PE.from a.le
   have Pv:=h.cZ
   have b:=b.aR h
   have c:=c.aR h
   have e:=e.aR h
   have a:=a.trans h
   have d:=d.trans h
   refine⟨h.fV (P).le,?_⟩
   refine eV e (cB _ _) rfl fun PO e k C=>?_
   have b:=b.cL u k
   have c:=c.cL w k
   have a:=cD.aR a k x
   have d:=cD.aR d k y
   refine eV e (cB _ _) rfl fun P2 e q PA=>?_
   have b:=b.cL u q
   have c:=c.cL w q
   have a:=cD.aR a q x
   have d:=cD.aR d q y
   refine dD e (cB _ _) rfl ?_
   refine c5 rfl ?_
   refine dD e (cB _ _) rfl ?_
   refine bE rfl ?_
   exact g _ _ a ⟨_,_,rfl,(PE.cZ (C.trans PA))⟩
def v(a:Bool)(b:Nat)(c:Bool)(d:Nat):(Bool × Nat):=aL.v a b c d
theorem bW{Z:U}{a:Bool}{b:M}{c d:Nat}{e:Nat}(f:cH b6 Z b c (D.aK e))(g:d=(D.aK e).length)(h:(D.aK e).length≤1000000){i:Bool}{j:M}{k l:Nat}{m:Nat}(n:cH b6 Z j k (D.aK m))(o:l=(D.aK m).length)(p:(D.aK m).length≤1000000):aY id #[.agg #[.bool a,.slice b d c],.agg #[.bool i,.slice j l k]] Z fun b c=>bA Z c∧gU Z c b (v a e i m):=
 ok (aL.bW (bA.refl _) f g h n o p fun v K S aH=>⟨S,aH⟩)
end lJ
namespace oW
def aL.v(a:Bool)(b:Nat)(c:Bool)(d:Nat):(Bool × Nat):=
 fQ (b*d) fun b=>
 fQ (dM (dE ((!(a == c))) b)) fun a=>
 (a.1,a.2)
theorem aL.bW{Y:aD}{aX Z:U}(a:bA aX Z){n:Bool}{C:M}{E F:Nat}{i:Nat}(Pw:cH b6 Z C E (D.aK i))(Px:F=(D.aK i).length)(PG:(D.aK i).length≤1000000){o:Bool}{G:M}{H I:Nat}{j:Nat}(Py:cH b6 Z G H (D.aK j))(Pz:I=(D.aK j).length)(PH:(D.aK j).length≤1000000)(g:hY gU aX Y (aL.v n i o j)):aL.t Y n C F E o G I H Z:=by
 subst Px Pz
 have b:=bA.refl Z
 have PI:(D.aK 0).length=0:=by simp [D.eP]
 unfold aL.v at g
 unfold aL.t
 refine eZ fun q c x=>?_
 have PJ:aX.size≤Z.size:=a.le
 have PK:Z.size≤Z.size:=b.le
 have J:=c.lt
 have P:=x.cZ
 have a:=a.trans x
 have b:=b.trans x
 refine eZ fun l d r=>?_
 have PL:Z.size ≠ q.size:=Nat.ne_of_lt c.lt
 have PM:aX.size≤q.size:=a.le
 have PN:Z.size≤q.size:=b.le
 have Q:=d.lt
 have s:=r.cZ
 have c:=c.aR r
 have a:=a.trans r
 have b:=b.trans r
 refine eZ fun PA e m=>?_
 have T:Z.size ≠ l.size:=Nat.ne_of_lt c.lt
 have V:q.size ≠ l.size:=Nat.ne_of_lt d.lt
 have e:eC PA (l.size) [.bool false,.slice none (D.aK 0).length 0]:=by rw [D.eP];exact e
 have Pt:aX.size≤l.size:=a.le
 have Pu:Z.size≤l.size:=b.le
 have PO:=e.lt
 have k:=m.cZ
 have c:=c.aR m
 have d:=d.aR m
 have a:=a.trans m
 have b:=b.trans m
 refine⟨iF (cB _ _) ((s.trans k).lt J),?_⟩
 refine dD c (cB _ _) rfl ?_
 refine c5 rfl ?_
 refine⟨iF (cB _ _) ((k).lt Q),?_⟩
 refine dD d (cB _ _) rfl ?_
 refine c5 rfl ?_
 refine⟨iF (cB _ _) ((s.trans k).lt J),?_⟩
 refine dD c (cB _ _) rfl ?_
 refine bE rfl ?_
 refine⟨iF (cB _ _) ((k).lt Q),?_⟩
 refine dD d (cB _ _) rfl ?_
 refine bE rfl ?_
 refine cA (hG.bW (Pw.cZ (P.trans (s.trans k))) rfl (Py.cZ (P.trans (s.trans k))) rfl (by first | assumption | decide | omega) (by first | assumption | decide | omega)) fun v PQ ⟨f,aH⟩=>?_
 obtain⟨Pv,y⟩:∃ p,p=i*j:=⟨_,rfl⟩
 rw [← y] at aH
 replace g:=gJ y g
 have PB:=xQ i j
 rw [← y] at PB
 obtain⟨PR,PS,rfl,z⟩:=aH
 refine bE rfl (?_)
 have z:=z.from a.le
 have PC:=f.cZ
 have c:=c.aR f
 have d:=d.aR f
 have e:=e.aR f
 have a:=a.trans f
 have b:=b.trans f
 refine⟨f.fV (Nat.le_refl _),?_⟩
 refine cA (fR.bM z.rd rfl) fun v PT ⟨h,aH⟩=>?_
 obtain⟨PU,A⟩:∃ p,p=dM (dE ((!(n == o))) Pv):=⟨_,rfl⟩
 rw [← A] at aH
 replace g:=gJ A g
 have PD:=lI ((!(n == o))) Pv
 rw [← A] at PD
 obtain⟨PV,PW,rfl,B⟩:=aH
 refine e5 rfl (cF (c5 rfl (cF (bE rfl (dR (?_))))))
 have B:=B.from a.le
 have PX:=h.cZ
 have c:=c.aR h
 have d:=d.aR h
 have e:=e.aR h
 have a:=a.trans h
 have b:=b.trans h
 refine⟨h.fV (PC).le,?_⟩
 refine eV e (cB _ _) rfl fun PY e u PE=>?_
 have c:=c.cL T u
 have d:=d.cL V u
 have a:=cD.aR a u Pt
 have b:=cD.aR b u Pu
 refine eV e (cB _ _) rfl fun PZ e w PF=>?_
 have c:=c.cL T w
 have d:=d.cL V w
 have a:=cD.aR a w Pt
 have b:=cD.aR b w Pu
 refine dD e (cB _ _) rfl ?_
 refine c5 rfl ?_
 refine dD e (cB _ _) rfl ?_
 refine bE rfl ?_
 exact g _ _ a ⟨_,_,rfl,(B.cZ (PE.trans PF))⟩
def v(a:Bool)(b:Nat)(c:Bool)(d:Nat):(Bool × Nat):=aL.v a b c d
theorem bW{Z:U}{a:Bool}{b:M}{c d:Nat}{e:Nat}(f:cH b6 Z b c (D.aK e))(g:d=(D.aK e).length)(h:(D.aK e).length≤1000000){i:Bool}{j:M}{k l:Nat}{m:Nat}(n:cH b6 Z j k (D.aK m))(o:l=(D.aK m).length)(p:(D.aK m).length≤1000000):aY id #[.agg #[.bool a,.slice b d c],.agg #[.bool i,.slice j l k]] Z fun b c=>bA Z c∧gU Z c b (v a e i m):=
 ok (aL.bW (bA.refl _) f g h n o p fun v K S aH=>⟨S,aH⟩)
end oW
namespace k4
def aL.v(a:Bool)(b:Nat)(aM:Int):(Bool × Nat):=
 fQ (b*2 ^ (Int.toNat aM)) fun b=>
 fQ (dM (dE a b)) fun a=>
 (a.1,a.2)
theorem aL.bW{Y:aD}{aX Z:U}(a:bA aX Z){i:Bool}{u:M}{w x:Nat}{e:Nat}(F:cH b6 Z u w (D.aK e))(G:x=(D.aK e).length)(Pt:(D.aK e).length≤1000000){aM:Int}(H:In .i64 aM)(Pu:0≤aM)(Pv:aM≤35184372088832∨e=0)(g:hY gU aX Y (aL.v i e aM)):aL.t Y i u x w aM Z:=by
 subst G
 have b:=bA.refl Z
 have Pw:(D.aK 0).length=0:=by simp [D.eP]
 unfold aL.v at g
 unfold aL.t
 refine eZ fun j c l=>?_
 have Px:aX.size≤Z.size:=a.le
 have Py:Z.size≤Z.size:=b.le
 have y:=c.lt
 have I:=l.cZ
 have a:=a.trans l
 have b:=b.trans l
 refine eZ fun J d k=>?_
 have z:Z.size ≠ j.size:=Nat.ne_of_lt c.lt
 have d:eC J (j.size) [.bool false,.slice none (D.aK 0).length 0]:=by rw [D.eP];exact d
 have A:aX.size≤j.size:=a.le
 have B:Z.size≤j.size:=b.le
 have Pz:=d.lt
 have m:=k.cZ
 have c:=c.aR k
 have a:=a.trans k
 have b:=b.trans k
 refine⟨iF (cB _ _) ((m).lt y),?_⟩
 refine dD c (cB _ _) rfl ?_
 refine c5 rfl ?_
 refine⟨iF (cB _ _) ((m).lt y),?_⟩
 refine dD c (cB _ _) rfl ?_
 refine bE rfl ?_
 refine cA (kM.bW (F.cZ (I.trans m)) rfl H (by first | assumption | decide | omega) (by first | assumption | decide | omega) (by first | assumption | decide | omega)) fun v PA ⟨f,aH⟩=>?_
 obtain⟨C,E⟩:∃ p,p=e*2 ^ (Int.toNat aM):=⟨_,rfl⟩
 rw [← E] at aH
 replace g:=gJ E g
 obtain⟨PB,PC,rfl,n⟩:=aH
 refine bE rfl (?_)
 have n:=n.from a.le
 have P:=f.cZ
 have c:=c.aR f
 have d:=d.aR f
 have a:=a.trans f
 have b:=b.trans f
 refine⟨f.fV (Nat.le_refl _),?_⟩
 refine cA (fR.bM n.rd rfl) fun v PD ⟨h,aH⟩=>?_
 obtain⟨PE,o⟩:∃ p,p=dM (dE i C):=⟨_,rfl⟩
 rw [← o] at aH
 replace g:=gJ o g
 have Q:=lI i C
 rw [← o] at Q
 obtain⟨PF,PG,rfl,q⟩:=aH
 refine e5 rfl (cF (c5 rfl (cF (bE rfl (dR (?_))))))
 have q:=q.from a.le
 have PH:=h.cZ
 have c:=c.aR h
 have d:=d.aR h
 have a:=a.trans h
 have b:=b.trans h
 refine⟨h.fV (P).le,?_⟩
 refine eV d (cB _ _) rfl fun PI d r T=>?_
 have c:=c.cL z r
 have a:=cD.aR a r A
 have b:=cD.aR b r B
 refine eV d (cB _ _) rfl fun PJ d s V=>?_
 have c:=c.cL z s
 have a:=cD.aR a s A
 have b:=cD.aR b s B
 refine dD d (cB _ _) rfl ?_
 refine c5 rfl ?_
 refine dD d (cB _ _) rfl ?_
 refine bE rfl ?_
 exact g _ _ a ⟨_,_,rfl,(q.cZ (T.trans V))⟩
def v(a:Bool)(b:Nat)(aM:Int):(Bool × Nat):=aL.v a b aM
theorem bW{Z:U}{a:Bool}{b:M}{c d:Nat}{e:Nat}(f:cH b6 Z b c (D.aK e))(g:d=(D.aK e).length)(h:(D.aK e).length≤1000000){aM:Int}(i:In .i64 aM)(j:0≤aM)(k:aM≤35184372088832∨e=0):aY id #[.agg #[.bool a,.slice b d c],.int .i64 aM] Z fun b c=>bA Z c∧gU Z c b (v a e aM):=
 ok (aL.bW (bA.refl _) f g h i j k fun v K S aH=>⟨S,aH⟩)
end k4
namespace n7
def a0.v(a:Bool)(a:Nat)(b:Bool)(b:Nat)(b:Bool)(b:Nat)(b:Nat)(c:Nat):((Bool × Nat) × (Bool × Nat)):=
 fQ (Int.toNat (1:Int)) fun d=>
 fQ (b+d) fun b=>
 fQ (dM (dE true b)) fun b=>
 fQ (a - c) fun a=>
 fQ (dM (dE false a)) fun a=>
 ((b.1,b.2),(a.1,a.2))
theorem a0.bW{Y:aD}{aX Z:U}(a:bA aX Z){V:Bool}{Pt:M}{Pu:Nat}{m:Nat}(PQ:cH b6 Z Pt Pu (D.aK m))(P2:(D.aK m).length≤10000000){q:Nat}(d:eC Z q [.bool V,.slice Pt (D.aK m).length Pu])(P3:aX.size≤q){Pv:Bool}{Pw:M}{Px:Nat}{s:Nat}(P4:cV b6 aX Z Pw Px (D.aK s))(P5:(D.aK s).length≤10000000){fN:Nat}(b:eC Z fN [.bool Pv,.slice Pw (D.aK s).length Px])(Py:aX.size≤fN){Pz:Bool}{PA:M}{PB:Nat}{u:Nat}(P6:cV b6 aX Z PA PB (D.aK u))(P7:(D.aK u).length≤10000000){hR:Nat}(c:eC Z hR [.bool Pz,.slice PA (D.aK u).length PB])(PC:aX.size≤hR){a7:M}{a9 PD:Nat}{n:Nat}(PR:cV b6 aX Z a7 a9 (D.aK n))(PS:PD=(D.aK n).length)(P8:(D.aK n).length≤10000000){b0:M}{b2 PE:Nat}{o:Nat}(PT:cV b6 aX Z b0 b2 (D.aK o))(PU:PE=(D.aK o).length)(P9:(D.aK o).length≤10000000)(PF:q ≠ fN)(PG:q ≠ hR)(w:fN ≠ hR)(g:hY (s2 gU gU) aX Y (a0.v V m Pv s Pz u n o)):a0.t Y (⟨q,0,none⟩:Addr) (⟨fN,0,none⟩:Addr) (⟨hR,0,none⟩:Addr) a7 PD a9 b0 PE b2 Z:=by
 subst PS PU
 have e:=bA.refl Z
 have PV:=d.lt
 have Qa:=b.lt
 have Qb:=c.lt
 have Qc:(D.aK 0).length=0:=by simp [D.eP]
 unfold a0.v at g
 unfold a0.t
 refine cA (gF.bW (show In .u64 (1:Int) by decide)) fun v Qd ⟨f,aH⟩=>?_
 obtain⟨PH,y⟩:∃ p,p=Int.toNat (1:Int):=⟨_,rfl⟩
 rw [← y] at aH
 replace g:=gJ y g
 have PW:=KK (show In .u64 (1:Int) by decide)
 rw [← y] at PW
 obtain⟨Qe,Qf,rfl,z⟩:=aH
 refine bE rfl (?_)
 have z:=z.from a.le
 have h:=f.cZ
 have d:=d.aR f
 have b:=b.aR f
 have c:=c.aR f
 have a:=a.trans f
 have e:=e.trans f
 refine⟨f.fV (Nat.le_refl _),?_⟩
 refine cA (gS.bW (PR.cZ (h)).rd rfl z.rd rfl (by first | assumption | decide | omega) (by first | assumption | decide | omega)) fun v Qg ⟨i,aH⟩=>?_
 obtain⟨PI,A⟩:∃ p,p=n+PH:=⟨_,rfl⟩
 rw [← A] at aH
 replace g:=gJ A g
 have PX:=xR n PH
 rw [← A] at PX
 obtain⟨Qh,Qi,rfl,B⟩:=aH
 refine bE rfl (?_)
 have B:=B.from a.le
 have r:=i.cZ
 have d:=d.aR i
 have b:=b.aR i
 have c:=c.aR i
 have a:=a.trans i
 have e:=e.trans i
 refine⟨i.fV (h).le,?_⟩
 refine cA (fR.bM B.rd rfl) fun v Qj ⟨j,aH⟩=>?_
 obtain⟨Qk,C⟩:∃ p,p=dM (dE true PI):=⟨_,rfl⟩
 rw [← C] at aH
 replace g:=gJ C g
 have PY:=lI true PI
 rw [← C] at PY
 obtain⟨Ql,Qm,rfl,E⟩:=aH
 refine e5 rfl (cF (c5 rfl (cF (bE rfl (dR (?_))))))
 have E:=E.from a.le
 have x:=j.cZ
 have d:=d.aR j
 have b:=b.aR j
 have c:=c.aR j
 have a:=a.trans j
 have e:=e.trans j
 refine⟨j.fV (h.trans r).le,?_⟩
 refine⟨iF (cB _ _) (PV),?_⟩
 refine dD d (cB _ _) rfl ?_
 refine bE rfl ?_
 refine cA (g1.bW (PQ.cZ (h.trans (r.trans x))) rfl (PT.cZ (h.trans (r.trans x))).rd rfl) fun v Qn ⟨k,aH⟩=>?_
 obtain⟨PJ,F⟩:∃ p,p=m - o:=⟨_,rfl⟩
 rw [← F] at aH
 replace g:=gJ F g
 have PZ:=n6 (Nat.sub_le m o)
 rw [← F] at PZ
 obtain⟨Qo,Qp,rfl,G⟩:=aH
 refine bE rfl (?_)
 have G:=G.from a.le
 have PK:=k.cZ
 have d:=d.aR k
 have b:=b.aR k
 have c:=c.aR k
 have a:=a.trans k
 have e:=e.trans k
 refine⟨k.fV (h.trans (r.trans x)).le,?_⟩
 refine cA (fR.bM G.rd rfl) fun v Qq ⟨l,aH⟩=>?_
 obtain⟨Qr,H⟩:∃ p,p=dM (dE false PJ):=⟨_,rfl⟩
 rw [← H] at aH
 replace g:=gJ H g
 have P0:=lI false PJ
 rw [← H] at P0
 obtain⟨Qs,Qt,rfl,I⟩:=aH
 refine e5 rfl (cF (c5 rfl (cF (bE rfl (dR (?_))))))
 have I:=I.from a.le
 have P1:=l.cZ
 have d:=d.aR l
 have b:=b.aR l
 have c:=c.aR l
 have a:=a.trans l
 have e:=e.trans l
 refine⟨l.fV (h.trans (r.trans (x.trans PK))).le,?_⟩
 refine eV b (cB _ _) rfl fun Qu b J PL=>?_
 have d:=d.cL PF J
 have c:=c.cL (Ne.symm w) J
 have a:=cD.aR a J Py
 refine eV b (cB _ _) rfl fun Qv b P PM=>?_
 have d:=d.cL PF P
 have c:=c.cL (Ne.symm w) P
 have a:=cD.aR a P Py
 refine eV c (cB _ _) rfl fun Qw c Q PN=>?_
 have d:=d.cL PG Q
 have b:=b.cL w Q
 have a:=cD.aR a Q PC
 refine eV c (cB _ _) rfl fun Qx c T PO=>?_
 have d:=d.cL PG T
 have b:=b.cL w T
 have a:=cD.aR a T PC
 refine dD b (cB _ _) rfl ?_
 refine c5 rfl ?_
 refine dD b (cB _ _) rfl ?_
 refine bE rfl ?_
 refine dD c (cB _ _) rfl ?_
 refine c5 rfl ?_
 refine dD c (cB _ _) rfl ?_
 refine bE rfl ?_
 exact g _ _ a ⟨_,_,rfl,⟨_,_,rfl,(E.cZ (PK.trans (P1.trans (PL.trans (PM.trans (PN.trans PO))))))⟩,⟨_,_,rfl,(I.cZ (PL.trans (PM.trans (PN.trans PO))))⟩⟩
def aL.v(a:Bool)(b:Nat)(c:Bool)(d:Nat):((Bool × Nat) × (Bool × Nat)):=
 fQ (kP.v c d) fun e=>
 bif (decide (e≤(0:Int))) then
  ((false,0),(false,0))
 else
  fQ (nE b d) fun b=>
  bif (!a) then
   fQ (dM (dE a b.1)) fun e=>
   fQ (dM (dE false b.2)) fun f=>
   ((e.1,e.2),(f.1,f.2))
  else
   bif (((((D.aK b.2).length:Nat):Int)) == (0:Int)) then
    fQ (dM (dE a b.1)) fun a=>
    fQ (dM (dE false b.2)) fun e=>
    ((a.1,a.2),(e.1,e.2))
   else
    a0.v c d false 0 false 0 b.1 b.2
theorem aL.bW{Y:aD}{aX Z:U}(a:bA aX Z){B:Bool}{PR:M}{PS PT:Nat}{s:Nat}(P2:cH b6 Z PR PS (D.aK s))(P3:PT=(D.aK s).length)(Qk:(D.aK s).length≤1000000){PE:Bool}{PU:M}{PV PW:Nat}{q:Nat}(PF:cH b6 Z PU PV (D.aK q))(P4:PW=(D.aK q).length)(Ql:(D.aK q).length≤1000000)(g:hY (s2 gU gU) aX Y (aL.v B s PE q)):aL.t Y B PR PT PS PE PU PW PV Z:=by
 subst P3 P4
 have d:=bA.refl Z
 have Qm:(D.aK 0).length=0:=by simp [D.eP]
 unfold aL.v at g
 unfold aL.t
 refine eZ fun P c PG=>?_
 have Qn:aX.size≤Z.size:=a.le
 have Qo:Z.size≤Z.size:=d.le
 have Qp:=c.lt
 have Pw:=PG.cZ
 have a:=a.trans PG
 have d:=d.trans PG
 refine eZ fun C f Px=>?_
 have Qq:Z.size ≠ P.size:=Nat.ne_of_lt c.lt
 have P5:aX.size≤P.size:=a.le
 have Qr:Z.size≤P.size:=d.le
 have Qs:=f.lt
 have Py:=Px.cZ
 have c:=c.aR Px
 have a:=a.trans Px
 have d:=d.trans Px
 refine eZ fun u b Q=>?_
 have E:Z.size ≠ C.size:=Nat.ne_of_lt c.lt
 have w:P.size ≠ C.size:=Nat.ne_of_lt f.lt
 have b:eC u (C.size) [.bool false,.slice none (D.aK 0).length 0]:=by rw [D.eP];exact b
 have x:aX.size≤C.size:=a.le
 have F:Z.size≤C.size:=d.le
 have Qt:=b.lt
 have Pz:=Q.cZ
 have c:=c.aR Q
 have f:=f.aR Q
 have a:=a.trans Q
 have d:=d.trans Q
 refine eZ fun P6 e G=>?_
 have H:Z.size ≠ u.size:=Nat.ne_of_lt c.lt
 have y:P.size ≠ u.size:=Nat.ne_of_lt f.lt
 have k:C.size ≠ u.size:=Nat.ne_of_lt b.lt
 have e:eC P6 (u.size) [.bool false,.slice none (D.aK 0).length 0]:=by rw [D.eP];exact e
 have z:aX.size≤u.size:=a.le
 have I:Z.size≤u.size:=d.le
 have Qu:=e.lt
 have PA:=G.cZ
 have c:=c.aR G
 have f:=f.aR G
 have b:=b.aR G
 have a:=a.trans G
 have d:=d.trans G
 refine dD f (cB _ _) rfl ?_
 refine c5 rfl ?_
 refine dD f (cB _ _) rfl ?_
 refine bE rfl ?_
 refine cA (kP.bW (PF.cZ (Pw.trans (Py.trans (Pz.trans PA)))) rfl) fun v Qv ⟨A,aH⟩=>?_
 obtain⟨Qw,PX⟩:∃ p,p=kP.v PE q:=⟨_,rfl⟩
 rw [← PX] at aH
 replace g:=gJ PX g
 obtain⟨rfl,Qx⟩:=aH
 refine bQ rfl (?_)
 have PH:=A.cZ
 have c:=c.aR A
 have f:=f.aR A
 have b:=b.aR A
 have e:=e.aR A
 have a:=a.trans A
 have d:=d.trans A
 refine xA g (fun P7 g=>?_) (fun P7 g=>?_)
 ·refine eV b (cB _ _) rfl fun P8 b l PY=>?_
  have c:=c.cL E l
  have f:=f.cL w l
  have e:=e.cL (Ne.symm k) l
  have a:=cD.aR a l x
  have d:=cD.aR d l F
  refine eV b (cB _ _) rfl fun PZ b h PB=>?_
  have b:=b.FK
  have c:=c.cL E h
  have f:=f.cL w h
  have e:=e.cL (Ne.symm k) h
  have a:=cD.aR a h x
  have d:=cD.aR d h F
  refine eV e (cB _ _) rfl fun P0 e i PC=>?_
  have c:=c.cL H i
  have f:=f.cL y i
  have b:=b.cL k i
  have a:=cD.aR a i z
  have d:=cD.aR d i I
  refine eV e (cB _ _) rfl fun P1 e j J=>?_
  have e:=e.FK
  have c:=c.cL H j
  have f:=f.cL y j
  have b:=b.cL k j
  have a:=cD.aR a j z
  have d:=cD.aR d j I
  refine dD b (cB _ _) rfl ?_
  refine c5 rfl ?_
  refine dD b (cB _ _) rfl ?_
  refine bE rfl ?_
  refine dD e (cB _ _) rfl ?_
  refine c5 rfl ?_
  refine dD e (cB _ _) rfl ?_
  refine bE rfl ?_
  exact g _ _ a ⟨_,_,rfl,⟨_,_,rfl,(tQ _ _)⟩,⟨_,_,rfl,(tQ _ _)⟩⟩
 ·refine dD c (cB _ _) rfl ?_
  refine bE rfl ?_
  refine dD f (cB _ _) rfl ?_
  refine bE rfl ?_
  refine cA (hK.bW (P2.cZ (Pw.trans (Py.trans (Pz.trans (PA.trans PH))))) rfl (PF.cZ (Pw.trans (Py.trans (Pz.trans (PA.trans PH))))) rfl (by first | assumption | decide | omega)) fun v P8 ⟨l,aH⟩=>?_
  obtain⟨r,PD⟩:∃ p,p=nE s q:=⟨_,rfl⟩
  rw [← PD] at aH
  replace g:=gJ PD g
  have P9:=KL s q
  rw [← PD] at P9
  have Qa:=KM s q
  rw [← PD] at Qa
  obtain⟨_,_,rfl,⟨Qy,Qz,rfl,T⟩,⟨QA,QB,rfl,V⟩⟩:=aH
  refine gE rfl (cF (bE rfl (cF (bE rfl (dR (?_))))))
  have T:=T.from a.le
  have V:=V.from a.le
  have PY:=l.cZ
  have c:=c.aR l
  have f:=f.aR l
  have b:=b.aR l
  have e:=e.aR l
  have a:=a.trans l
  have d:=d.trans l
  refine dD c (cB _ _) rfl ?_
  refine c5 rfl ?_
  refine El g (fun Qb g=>?_) (fun Qb g=>?_)
  ·refine dD c (cB _ _) rfl ?_
   refine c5 rfl ?_
   refine cA (fR.bM T.rd rfl) fun v PZ ⟨h,aH⟩=>?_
   obtain⟨QC,PI⟩:∃ p,p=dM (dE B r.1):=⟨_,rfl⟩
   rw [← PI] at aH
   replace g:=gJ PI g
   have Qc:=lI B r.1
   rw [← PI] at Qc
   obtain⟨QD,QE,rfl,PJ⟩:=aH
   refine e5 rfl (cF (c5 rfl (cF (bE rfl (dR (?_))))))
   have PJ:=PJ.from a.le
   have PB:=h.cZ
   have c:=c.aR h
   have f:=f.aR h
   have b:=b.aR h
   have e:=e.aR h
   have a:=a.trans h
   have d:=d.trans h
   refine cA (fR.bM (V.cZ (PB)).rd rfl) fun v P0 ⟨i,aH⟩=>?_
   obtain⟨QF,PK⟩:∃ p,p=dM (dE false r.2):=⟨_,rfl⟩
   rw [← PK] at aH
   replace g:=gJ PK g
   have Qd:=lI false r.2
   rw [← PK] at Qd
   obtain⟨QG,QH,rfl,PL⟩:=aH
   refine e5 rfl (cF (c5 rfl (cF (bE rfl (dR (?_))))))
   have PL:=PL.from a.le
   have PC:=i.cZ
   have c:=c.aR i
   have f:=f.aR i
   have b:=b.aR i
   have e:=e.aR i
   have a:=a.trans i
   have d:=d.trans i
   refine eV b (cB _ _) rfl fun P1 b j J=>?_
   have c:=c.cL E j
   have f:=f.cL w j
   have e:=e.cL (Ne.symm k) j
   have a:=cD.aR a j x
   have d:=cD.aR d j F
   refine eV b (cB _ _) rfl fun Qe b m Pt=>?_
   have c:=c.cL E m
   have f:=f.cL w m
   have e:=e.cL (Ne.symm k) m
   have a:=cD.aR a m x
   have d:=cD.aR d m F
   refine eV e (cB _ _) rfl fun Qf e n Pu=>?_
   have c:=c.cL H n
   have f:=f.cL y n
   have b:=b.cL k n
   have a:=cD.aR a n z
   have d:=cD.aR d n I
   refine eV e (cB _ _) rfl fun Qg e o Pv=>?_
   have c:=c.cL H o
   have f:=f.cL y o
   have b:=b.cL k o
   have a:=cD.aR a o z
   have d:=cD.aR d o I
   refine dD b (cB _ _) rfl ?_
   refine c5 rfl ?_
   refine dD b (cB _ _) rfl ?_
   refine bE rfl ?_
   refine dD e (cB _ _) rfl ?_
   refine c5 rfl ?_
   refine dD e (cB _ _) rfl ?_
   refine bE rfl ?_
   exact g _ _ a ⟨_,_,rfl,⟨_,_,rfl,(PJ.cZ (PC.trans (J.trans (Pt.trans (Pu.trans Pv)))))⟩,⟨_,_,rfl,(PL.cZ (J.trans (Pt.trans (Pu.trans Pv))))⟩⟩
  ·refine Bz g (fun Qh g=>?_) (fun Qh g=>?_)
   ·refine dD c (cB _ _) rfl ?_
    refine c5 rfl ?_
    refine cA (fR.bM T.rd rfl) fun v PZ ⟨h,aH⟩=>?_
    obtain⟨QI,PM⟩:∃ p,p=dM (dE B r.1):=⟨_,rfl⟩
    rw [← PM] at aH
    replace g:=gJ PM g
    have Qi:=lI B r.1
    rw [← PM] at Qi
    obtain⟨QJ,QK,rfl,PN⟩:=aH
    refine e5 rfl (cF (c5 rfl (cF (bE rfl (dR (?_))))))
    have PN:=PN.from a.le
    have PB:=h.cZ
    have c:=c.aR h
    have f:=f.aR h
    have b:=b.aR h
    have e:=e.aR h
    have a:=a.trans h
    have d:=d.trans h
    refine cA (fR.bM (V.cZ (PB)).rd rfl) fun v P0 ⟨i,aH⟩=>?_
    obtain⟨QL,PO⟩:∃ p,p=dM (dE false r.2):=⟨_,rfl⟩
    rw [← PO] at aH
    replace g:=gJ PO g
    have Qj:=lI false r.2
    rw [← PO] at Qj
    obtain⟨QM,QN,rfl,PQ⟩:=aH
    refine e5 rfl (cF (c5 rfl (cF (bE rfl (dR (?_))))))
    have PQ:=PQ.from a.le
    have PC:=i.cZ
    have c:=c.aR i
    have f:=f.aR i
    have b:=b.aR i
    have e:=e.aR i
    have a:=a.trans i
    have d:=d.trans i
    refine eV b (cB _ _) rfl fun P1 b j J=>?_
    have c:=c.cL E j
    have f:=f.cL w j
    have e:=e.cL (Ne.symm k) j
    have a:=cD.aR a j x
    have d:=cD.aR d j F
    refine eV b (cB _ _) rfl fun Qe b m Pt=>?_
    have c:=c.cL E m
    have f:=f.cL w m
    have e:=e.cL (Ne.symm k) m
    have a:=cD.aR a m x
    have d:=cD.aR d m F
    refine eV e (cB _ _) rfl fun Qf e n Pu=>?_
    have c:=c.cL H n
    have f:=f.cL y n
    have b:=b.cL k n
    have a:=cD.aR a n z
    have d:=cD.aR d n I
    refine eV e (cB _ _) rfl fun Qg e o Pv=>?_
    have c:=c.cL H o
    have f:=f.cL y o
    have b:=b.cL k o
    have a:=cD.aR a o z
    have d:=cD.aR d o I
    refine dD b (cB _ _) rfl ?_
    refine c5 rfl ?_
    refine dD b (cB _ _) rfl ?_
    refine bE rfl ?_
    refine dD e (cB _ _) rfl ?_
    refine c5 rfl ?_
    refine dD e (cB _ _) rfl ?_
    refine bE rfl ?_
    exact g _ _ a ⟨_,_,rfl,⟨_,_,rfl,(PN.cZ (PC.trans (J.trans (Pt.trans (Pu.trans Pv)))))⟩,⟨_,_,rfl,(PQ.cZ (J.trans (Pt.trans (Pu.trans Pv))))⟩⟩
   ·exact a0.bW a (PF.cZ (Pw.trans (Py.trans (Pz.trans (PA.trans (PH.trans PY)))))) (by first | assumption | decide | omega) f P5 (tQ _ _) (by first | assumption | decide | omega) b x (tQ _ _) (by first | assumption | decide | omega) e z T rfl (by first | assumption | decide | omega) V rfl (by first | assumption | decide | omega) w y k g
def v(a:Bool)(b:Nat)(c:Bool)(d:Nat):((Bool × Nat) × (Bool × Nat)):=aL.v a b c d
theorem bW{Z:U}{a:Bool}{b:M}{c d:Nat}{e:Nat}(f:cH b6 Z b c (D.aK e))(g:d=(D.aK e).length)(h:(D.aK e).length≤1000000){i:Bool}{j:M}{k l:Nat}{m:Nat}(n:cH b6 Z j k (D.aK m))(o:l=(D.aK m).length)(p:(D.aK m).length≤1000000):aY id #[.agg #[.bool a,.slice b d c],.agg #[.bool i,.slice j l k]] Z fun b c=>bA Z c∧(s2 gU gU) Z c b (v a e i m):=
 ok (aL.bW (bA.refl _) f g h n o p fun v K S aH=>⟨S,aH⟩)
end n7
namespace n8
def aL.v(a:Bool)(a:Nat):Bool:=
 (((tD a (0:Int))) == (0:Int))
theorem aL.bW{Y:aD}{aX Z:U}(a:bA aX Z){h:Bool}{i:M}{j k:Nat}{e:Nat}(l:cH b6 Z i j (D.aK e))(m:k=(D.aK e).length)(g:hY zP aX Y (aL.v h e)):aL.t Y h i k j Z:=by
 subst m
 have b:=bA.refl Z
 unfold aL.v at g
 unfold aL.t
 refine eZ fun o c f=>?_
 have p:aX.size≤Z.size:=a.le
 have q:Z.size≤Z.size:=b.le
 have r:=c.lt
 have n:=f.cZ
 have a:=a.trans f
 have b:=b.trans f
 refine dD c (cB _ _) rfl ?_
 refine bE rfl ?_
 refine cA (oP.bW (l.cZ (n)) rfl (show In .i64 (0:Int) by decide)) fun v s ⟨d,aH⟩=>?_
 obtain⟨rfl,u⟩:=aH
 refine bQ rfl (?_)
 have w:=d.cZ
 have c:=c.aR d
 have a:=a.trans d
 have b:=b.trans d
 exact g _ _ a rfl
def v(a:Bool)(b:Nat):Bool:=aL.v a b
theorem bW{Z:U}{a:Bool}{b:M}{c d:Nat}{e:Nat}(f:cH b6 Z b c (D.aK e))(g:d=(D.aK e).length):aY id #[.agg #[.bool a,.slice b d c]] Z fun b c=>bA Z c∧zP Z c b (v a e):=
 ok (aL.bW (bA.refl _) f g fun v K S aH=>⟨S,aH⟩)
end n8
theorem mO(L:Bool)(a2:Nat):c1 (L,a2)=dE L a2:=rfl
theorem FN(L:Bool)(a2:Nat):kP.v L a2=hL (c1 (L,a2)) 0:=by
 unfold kP.v kP.aL.v
 rw [mO]
 by_cases Z:a2=0
 ·have R:(((D.aK a2).length:Int) == 0)=true:=by have:=(r0 a2).mpr Z;rw [this];rfl
  rw [R,Z,pV];rfl
 ·have R:(((D.aK a2).length:Int) == 0)=false:=by
   have:=mt (r0 a2).mp Z
   simp only [beq_eq_false_iff_ne,ne_eq];omega
  rw [R]
  cases L
  ·have:¬ dE false a2 < 0:=by unfold dE;simp
   have a:dE false a2 ≠ 0:=fun R=>Z (B6.mp R)
   simp [hL,this,a]
  ·have:dE true a2 < 0:=by unfold dE;simp;omega
   simp [hL,this]
theorem KS(L:Bool)(a2:Nat):mN.v L a2=dM (-c1 (L,a2)):=by
 rw [mO,B4];rfl
theorem KT{m n:Nat}:decide (fA m n≥0)=decide (n≤m):=by
 unfold fA
 by_cases Z:m < n
 ·simp [Z]
 ·rw [if_neg Z];split <;> simp <;> omega
theorem KU(L c:Bool)(a2 bK:Nat):lJ.v L a2 c bK=dM (c1 (L,a2)+c1 (c,bK)):=by
 rw [mO,mO]
 unfold lJ.v lJ.aL.v
 by_cases Z:L=c
 ·subst Z
  rw [Kx];simp only [beq_self_eq_true,cond_true];rfl
 ·have R:(L == c)=false:=by simp [Z]
  rw [R,cond_false,KT]
  by_cases a:bK≤a2
  ·rw [FE Z a];simp only [a,decide_true,cond_true];rfl
  ·rw [Int.add_comm,FE (fun R=>Z R.symm) (by omega)];simp only [a,decide_false,cond_false];rfl
theorem KV(L c:Bool)(a2 bK:Nat):oW.v L a2 c bK=dM (c1 (L,a2)*c1 (c,bK)):=by
 rw [mO,mO,B5]
 have:xor L c=(!(L == c)):=by cases L <;> cases c <;> rfl
 rw [this];rfl
theorem KW(L:Bool)(a2:Nat)(n:Int):k4.v L a2 n=dM (c1 (L,a2)*2 ^ n.toNat):=by
 rw [mO,Kz];rfl
theorem FO{a L:Int}(Z:0 < L):nJ a L=(dM (hP a L),dM (qS a L)):=by
 unfold nJ qS
 rw [if_neg (by omega),FM Z,Int.emod_def]
theorem KX(L c:Bool)(a2 bK:Nat):n7.v L a2 c bK=nJ (c1 (L,a2)) (c1 (c,bK)):=by
 unfold n7.v n7.aL.v
 rw [FN,mO,mO]
 simp only [fQ]
 by_cases Z:dE c bK≤0
 ·have:decide (hL (dE c bK) 0≤0)=true:=by
   apply decide_eq_true;unfold hL;split
   ·decide
   ·rw [if_pos (by omega)];decide
  rw [this,cond_true]
  unfold nJ;rw [if_pos Z]
 ·have:decide (hL (dE c bK) 0≤0)=false:=by
   apply decide_eq_false;unfold hL;rw [if_neg (by omega),if_neg (by omega)];decide
  rw [this,cond_false,FO (by omega)]
  have f:c=false:=by
   cases c
   ·rfl
   ·exfalso;apply Z;unfold dE;simp
  subst f
  have d:bK ≠ 0:=fun R=>Z (by subst R;rw [pV];exact Int.le_refl _)
  have g:nE a2 bK=(a2 / bK,a2 % bK):=by unfold nE;rw [if_neg d]
  rw [g]
  by_cases e:a2=0
  ·subst e
   rw [pV,B8,KC,Nat.zero_div,Nat.zero_mod]
   have b:(((D.aK 0).length:Int) == 0)=true:=by rw [(r0 0).mpr rfl];rfl
   cases L
   ·simp only [Bool.not_false,cond_true,pV]
   ·simp only [Bool.not_true,cond_false,b,cond_true,pV]
  ·rw [xP d fun _=>e,FH d fun _=>e,Bool.xor_false]
   cases L
   ·simp only [Bool.not_false,cond_true,Bool.false_eq_true,false_and,if_false]
   ·simp only [Bool.not_true,cond_false,true_and]
    by_cases a:a2 % bK=0
    ·have b:(((D.aK (a2 % bK)).length:Int) == 0)=true:=by rw [(r0 _).mpr a];rfl
     rw [b,cond_true,if_neg (by simp [a]),if_neg (by simp [a])]
    ·have b:(((D.aK (a2 % bK)).length:Int) == 0)=false:=by
      have:=mt (r0 (a2 % bK)).mp a
      simp only [beq_eq_false_iff_ne,ne_eq];omega
     rw [b,cond_false,if_pos a,if_pos a]
     rfl
theorem KY(L:Bool)(a2:Nat):n8.v L a2=decide (a2 % 2=0):=by
 unfold n8.v n8.aL.v tD
 rw [if_neg (by decide)]
 simp only [Int.toNat_zero,Nat.pow_zero,Nat.div_one]
 rcases Nat.mod_two_eq_zero_or_one a2 with Z | Z <;> rw [Z] <;> rfl
section
variable {a L:M} {c aV l m a2 bK:Nat} {aA aU:List Nat} {Z:U} {N aP:Int} {p aE:Bool}
theorem kP.bM(r:cH b6 Z a c (D.aK a2))(R:l=(D.aK a2).length):aY kP.id #[.agg #[.bool p,.slice a l c]] Z fun v K=>bA Z K∧m6 .i64 Z K v (hL (c1 (p,a2)) 0):=by rw [← FN];exact kP.bW r R
theorem mN.bM(r:cH b6 Z a c (D.aK a2))(R:l=(D.aK a2).length):aY mN.id #[.agg #[.bool p,.slice a l c]] Z fun v K=>bA Z K∧gU Z K v (dM (-c1 (p,a2))):=by rw [← KS];exact mN.bW r R
theorem lJ.bM(r:cH b6 Z a c (D.aK a2))(R:l=(D.aK a2).length)(aH:cH b6 Z L aV (D.aK bK))(f:m=(D.aK bK).length)(b:(D.aK a2).length≤1000000)(d:(D.aK bK).length≤1000000):aY lJ.id #[.agg #[.bool p,.slice a l c],.agg #[.bool aE,.slice L m aV]] Z fun v K=>bA Z K∧gU Z K v (dM (c1 (p,a2)+c1 (aE,bK))):=by rw [← KU];exact lJ.bW r R b aH f d
theorem oW.bM(r:cH b6 Z a c (D.aK a2))(R:l=(D.aK a2).length)(aH:cH b6 Z L aV (D.aK bK))(f:m=(D.aK bK).length)(b:(D.aK a2).length≤1000000)(d:(D.aK bK).length≤1000000):aY oW.id #[.agg #[.bool p,.slice a l c],.agg #[.bool aE,.slice L m aV]] Z fun v K=>bA Z K∧gU Z K v (dM (c1 (p,a2)*c1 (aE,bK))):=by rw [← KV];exact oW.bW r R b aH f d
theorem k4.bM(r:cH b6 Z a c (D.aK a2))(R:l=(D.aK a2).length)(O:In .i64 N)(b:(D.aK a2).length≤1000000)(d:0≤N)(e:N≤35184372088832∨hL (c1 (p,a2)) 0=0):aY k4.id #[.agg #[.bool p,.slice a l c],.int .i64 N] Z fun v K=>bA Z K∧gU Z K v (dM (c1 (p,a2)*2 ^ N.toNat)):=by rw [← KW];exact k4.bW r R b O d (e.imp (fun bI=>bI) fun bI=>by
  have:(hL (c1 (p,a2)) 0 == 0)=true:=by rw [bI];rfl
  rw [KJ] at this
  exact B6.mp (of_decide_eq_true this))
theorem n7.bM(r:cH b6 Z a c (D.aK a2))(R:l=(D.aK a2).length)(aH:cH b6 Z L aV (D.aK bK))(f:m=(D.aK bK).length)(b:(D.aK a2).length≤1000000)(d:(D.aK bK).length≤1000000):aY n7.id #[.agg #[.bool p,.slice a l c],.agg #[.bool aE,.slice L m aV]] Z fun v K=>bA Z K∧s2 gU gU Z K v (nJ (c1 (p,a2)) (c1 (aE,bK))):=by rw [← KX];exact n7.bW r R b aH f d
theorem n8.bM(r:cH b6 Z a c (D.aK a2))(R:l=(D.aK a2).length):aY n8.id #[.agg #[.bool p,.slice a l c]] Z fun v K=>bA Z K∧zP Z K v (decide (a2 % 2=0)):=by rw [← KY p];exact n8.bW r R
end
namespace k5
def aL.v(a:Bool)(b:Nat)(c:Bool)(d:Nat):(Bool × Nat):=
 fQ (dM (-c1 (c,d))) fun c=>
 fQ (dM (c1 (a,b)+c1 (c.1,c.2))) fun a=>
 (a.1,a.2)
theorem aL.bW{Y:aD}{aX Z:U}(a:bA aX Z){m:Bool}{E:M}{F G:Nat}{i:Nat}(Pv:cH b6 Z E F (D.aK i))(Pw:G=(D.aK i).length)(PG:(D.aK i).length≤1000000){n:Bool}{H:M}{I J:Nat}{j:Nat}(Px:cH b6 Z H I (D.aK j))(Py:J=(D.aK j).length)(PH:(D.aK j).length≤1000000)(g:hY gU aX Y (aL.v m i n j)):aL.t Y m E G F n H J I Z:=by
 subst Pw Py
 have b:=bA.refl Z
 have PI:(D.aK 0).length=0:=by simp [D.eP]
 unfold aL.v at g
 unfold aL.t
 refine eZ fun o c x=>?_
 have PJ:aX.size≤Z.size:=a.le
 have PK:Z.size≤Z.size:=b.le
 have Pz:=c.lt
 have P:=x.cZ
 have a:=a.trans x
 have b:=b.trans x
 refine eZ fun k d q=>?_
 have PL:Z.size ≠ o.size:=Nat.ne_of_lt c.lt
 have PM:aX.size≤o.size:=a.le
 have PN:Z.size≤o.size:=b.le
 have PA:=d.lt
 have y:=q.cZ
 have c:=c.aR q
 have a:=a.trans q
 have b:=b.trans q
 refine eZ fun PB e l=>?_
 have Q:Z.size ≠ k.size:=Nat.ne_of_lt c.lt
 have T:o.size ≠ k.size:=Nat.ne_of_lt d.lt
 have e:eC PB (k.size) [.bool false,.slice none (D.aK 0).length 0]:=by rw [D.eP];exact e
 have V:aX.size≤k.size:=a.le
 have Pt:Z.size≤k.size:=b.le
 have PO:=e.lt
 have r:=l.cZ
 have c:=c.aR l
 have d:=d.aR l
 have a:=a.trans l
 have b:=b.trans l
 refine⟨iF rfl ((y.trans r).lt Pz),?_⟩
 refine dD c (cB _ _) rfl ?_
 refine c5 rfl ?_
 refine dD c (cB _ _) rfl ?_
 refine bE rfl ?_
 refine⟨iF rfl ((r).lt PA),?_⟩
 refine dD d (cB _ _) rfl ?_
 refine c5 rfl ?_
 refine dD d (cB _ _) rfl ?_
 refine bE rfl ?_
 refine cA (mN.bM (Px.cZ (P.trans (y.trans r))) rfl) fun v PQ ⟨f,aH⟩=>?_
 obtain⟨s,z⟩:∃ p,p=dM (-c1 (n,j)):=⟨_,rfl⟩
 rw [← z] at aH
 replace g:=gJ z g
 have PC:=Cb n j
 rw [← z] at PC
 obtain⟨PR,PS,rfl,A⟩:=aH
 refine e5 rfl (cF (c5 rfl (cF (bE rfl (dR (?_))))))
 have A:=A.from a.le
 have Pu:=f.cZ
 have c:=c.aR f
 have d:=d.aR f
 have e:=e.aR f
 have a:=a.trans f
 have b:=b.trans f
 refine⟨f.fV (Nat.le_refl _),?_⟩
 refine cA (lJ.bM (Pv.cZ (P.trans (y.trans (r.trans Pu)))) rfl A.rd rfl (by first | assumption | decide | omega) (by first | assumption | decide | omega)) fun v PT ⟨h,aH⟩=>?_
 obtain⟨PU,B⟩:∃ p,p=dM (c1 (m,i)+c1 (s.1,s.2)):=⟨_,rfl⟩
 rw [← B] at aH
 replace g:=gJ B g
 have PD:=Cc m i s.1 s.2
 rw [← B] at PD
 obtain⟨PV,PW,rfl,C⟩:=aH
 refine e5 rfl (cF (c5 rfl (cF (bE rfl (dR (?_))))))
 have C:=C.from a.le
 have PX:=h.cZ
 have c:=c.aR h
 have d:=d.aR h
 have e:=e.aR h
 have a:=a.trans h
 have b:=b.trans h
 refine⟨h.fV (Pu).le,?_⟩
 refine eV e (cB _ _) rfl fun PY e u PE=>?_
 have c:=c.cL Q u
 have d:=d.cL T u
 have a:=cD.aR a u V
 have b:=cD.aR b u Pt
 refine eV e (cB _ _) rfl fun PZ e w PF=>?_
 have c:=c.cL Q w
 have d:=d.cL T w
 have a:=cD.aR a w V
 have b:=cD.aR b w Pt
 refine dD e (cB _ _) rfl ?_
 refine c5 rfl ?_
 refine dD e (cB _ _) rfl ?_
 refine bE rfl ?_
 exact g _ _ a ⟨_,_,rfl,(C.cZ (PE.trans PF))⟩
def v(a:Bool)(b:Nat)(c:Bool)(d:Nat):(Bool × Nat):=aL.v a b c d
theorem bW{Z:U}{a:Bool}{b:M}{c d:Nat}{e:Nat}(f:cH b6 Z b c (D.aK e))(g:d=(D.aK e).length)(h:(D.aK e).length≤1000000){i:Bool}{j:M}{k l:Nat}{m:Nat}(n:cH b6 Z j k (D.aK m))(o:l=(D.aK m).length)(p:(D.aK m).length≤1000000):aY id #[.agg #[.bool a,.slice b d c],.agg #[.bool i,.slice j l k]] Z fun b c=>bA Z c∧gU Z c b (v a e i m):=
 ok (aL.bW (bA.refl _) f g h n o p fun v K S aH=>⟨S,aH⟩)
end k5
theorem KZ(L c:Bool)(a2 bK:Nat):k5.v L a2 c bK=dM (c1 (L,a2) - c1 (c,bK)):=by
 unfold k5.v k5.aL.v
 simp only [fQ]
 have R:c1 ((dM (-c1 (c,bK))).1,(dM (-c1 (c,bK))).2)=-c1 (c,bK):=xO _
 rw [R,← Int.sub_eq_add_neg]
theorem K0:dM 0=(false,0):=rfl
section
variable {a L:M} {c aV l m a2 bK:Nat} {aA aU:List Nat} {Z:U} {N aP:Int} {p aE:Bool}
theorem k5.bM(r:cH b6 Z a c (D.aK a2))(R:l=(D.aK a2).length)(aH:cH b6 Z L aV (D.aK bK))(f:m=(D.aK bK).length)(b:(D.aK a2).length≤1000000)(d:(D.aK bK).length≤1000000):aY k5.id #[.agg #[.bool p,.slice a l c],.agg #[.bool aE,.slice L m aV]] Z fun v K=>bA Z K∧gU Z K v (dM (c1 (p,a2) - c1 (aE,bK))):=by rw [← KZ];exact k5.bW r R b aH f d
end
namespace lY
def aL.v(a:Bool)(b:Nat)(c:Bool)(d:Nat):Int:=
 fQ (dM (c1 (a,b) - c1 (c,d))) fun a=>
 (hL (c1 (a.1,a.2)) 0)
theorem aL.bW{Y:aD}{aX Z:U}(a:bA aX Z){j:Bool}{r:M}{s u:Nat}{e:Nat}(B:cH b6 Z r s (D.aK e))(C:u=(D.aK e).length)(I:(D.aK e).length≤700000){k:Bool}{w:M}{x y:Nat}{f:Nat}(E:cH b6 Z w x (D.aK f))(F:y=(D.aK f).length)(J:(D.aK f).length≤700000)(g:hY (m6 .i64) aX Y (aL.v j e k f)):aL.t Y j r u s k w y x Z:=by
 subst C F
 have b:=bA.refl Z
 have P:(D.aK 0).length=0:=by simp [D.eP]
 unfold aL.v at g
 unfold aL.t
 refine eZ fun m c n=>?_
 have Q:aX.size≤Z.size:=a.le
 have T:Z.size≤Z.size:=b.le
 have V:=c.lt
 have z:=n.cZ
 have a:=a.trans n
 have b:=b.trans n
 refine eZ fun Pt d l=>?_
 have Pu:Z.size ≠ m.size:=Nat.ne_of_lt c.lt
 have Pv:aX.size≤m.size:=a.le
 have Pw:Z.size≤m.size:=b.le
 have Px:=d.lt
 have A:=l.cZ
 have c:=c.aR l
 have a:=a.trans l
 have b:=b.trans l
 refine dD c (cB _ _) rfl ?_
 refine c5 rfl ?_
 refine dD c (cB _ _) rfl ?_
 refine bE rfl ?_
 refine dD d (cB _ _) rfl ?_
 refine c5 rfl ?_
 refine dD d (cB _ _) rfl ?_
 refine bE rfl ?_
 refine cA (k5.bM (B.cZ (z.trans A)) rfl (E.cZ (z.trans A)) rfl (by first | assumption | decide | omega) (by first | assumption | decide | omega)) fun v Py ⟨h,aH⟩=>?_
 obtain⟨Pz,o⟩:∃ p,p=dM (c1 (j,e) - c1 (k,f)):=⟨_,rfl⟩
 rw [← o] at aH
 replace g:=gJ o g
 have G:=FL j e k f
 rw [← o] at G
 obtain⟨PA,PB,rfl,q⟩:=aH
 refine e5 rfl (cF (c5 rfl (cF (bE rfl (dR (?_))))))
 have q:=q.from a.le
 have PC:=h.cZ
 have c:=c.aR h
 have d:=d.aR h
 have a:=a.trans h
 have b:=b.trans h
 refine cA (kP.bM q.rd rfl) fun v PD ⟨i,aH⟩=>?_
 obtain⟨rfl,H⟩:=aH
 refine bQ rfl (?_)
 have PE:=i.cZ
 have c:=c.aR i
 have d:=d.aR i
 have a:=a.trans i
 have b:=b.trans i
 exact g _ _ a ⟨rfl,H⟩
def v(a:Bool)(b:Nat)(c:Bool)(d:Nat):Int:=aL.v a b c d
theorem bW{Z:U}{a:Bool}{b:M}{c d:Nat}{e:Nat}(f:cH b6 Z b c (D.aK e))(g:d=(D.aK e).length)(h:(D.aK e).length≤700000){i:Bool}{j:M}{k l:Nat}{m:Nat}(n:cH b6 Z j k (D.aK m))(o:l=(D.aK m).length)(p:(D.aK m).length≤700000):aY id #[.agg #[.bool a,.slice b d c],.agg #[.bool i,.slice j l k]] Z fun b c=>bA Z c∧(m6 .i64) Z c b (v a e i m):=
 ok (aL.bW (bA.refl _) f g h n o p fun v K S aH=>⟨S,aH⟩)
end lY
namespace lZ
def a0.v(aM:Int)(a:Bool)(b:Nat)(c:Bool)(c:Nat)(c:Bool)(d:Nat):(Bool × Nat):=
 bif a then
  fQ (b % 2 ^ (Int.toNat aM)) fun a=>
  bif (decide (((((D.aK a).length:Nat):Int)) > (0:Int))) then
   fQ (dM (1:Int)) fun a=>
   fQ (dM (c1 (c,d) - c1 (a.1,a.2))) fun a=>
   (a.1,a.2)
  else
   (c,d)
 else
  (c,d)
theorem a0.bW{Y:aD}{aX Z:U}(c:bA aX Z){aM:Int}(Pw:In .i64 aM){G:Bool}{H:M}{I:Nat}{i:Nat}(Px:cH b6 Z H I (D.aK i))(PI:(D.aK i).length≤700000){q:Nat}(d:eC Z q [.bool G,.slice H (D.aK i).length I])(PJ:aX.size≤q){J:Bool}{P:M}{Q:Nat}{s:Nat}(PK:cV b6 aX Z P Q (D.aK s))(PL:(D.aK s).length≤700000){fN:Nat}(a:eC Z fN [.bool J,.slice P (D.aK s).length Q])(j:aX.size≤fN){u:Bool}{T:M}{V:Nat}{k:Nat}(x:cV b6 aX Z T V (D.aK k))(PM:(D.aK k).length≤700000){hR:Nat}(b:eC Z hR [.bool u,.slice T (D.aK k).length V])(PN:aX.size≤hR)(l:q ≠ fN)(PO:q ≠ hR)(m:fN ≠ hR)(PQ:0≤aM)(g:hY gU aX Y (a0.v aM G i J s u k)):a0.t Y aM (⟨q,0,none⟩:Addr) (⟨fN,0,none⟩:Addr) (⟨hR,0,none⟩:Addr) Z:=by
 have n:=bA.refl Z
 have PR:=d.lt
 have PS:=a.lt
 have Py:=b.lt
 have PT:(D.aK 0).length=0:=by simp [D.eP]
 unfold a0.v at g
 unfold a0.t
 refine dD d (cB _ _) rfl ?_
 refine c5 rfl ?_
 refine w9 g (fun Pz g=>?_) (fun Pz g=>?_)
 ·refine dD d (cB _ _) rfl ?_
  refine bE rfl ?_
  refine cA (jR.bW Px rfl Pw (by first | assumption | decide | omega) (by first | assumption | decide | omega)) fun v PA ⟨h,aH⟩=>?_
  obtain⟨PU,y⟩:∃ p,p=i % 2 ^ (Int.toNat aM):=⟨_,rfl⟩
  rw [← y] at aH
  replace g:=gJ y g
  have PB:=n6 (Nat.mod_le i (2 ^ (Int.toNat aM)))
  rw [← y] at PB
  obtain⟨PV,PW,rfl,Pt⟩:=aH
  refine bE rfl (?_)
  have Pt:=Pt.from c.le
  have r:=h.cZ
  have d:=d.aR h
  have a:=a.aR h
  have b:=b.aR h
  have c:=c.trans h
  have n:=n.trans h
  refine xA g (fun PC g=>?_) (fun PC g=>?_)
  ·refine⟨iF rfl ((r).lt Py),?_⟩
   refine dD b (cB _ _) rfl ?_
   refine c5 rfl ?_
   refine dD b (cB _ _) rfl ?_
   refine bE rfl ?_
   refine cA (nI.bM (show In .i64 (1:Int) by decide)) fun v Pu ⟨e,aH⟩=>?_
   obtain⟨w,z⟩:∃ p,p=dM (1:Int):=⟨_,rfl⟩
   rw [← z] at aH
   replace g:=gJ z g
   have PD:=Ca (show In .i64 (1:Int) by decide)
   rw [← z] at PD
   obtain⟨PX,PY,rfl,A⟩:=aH
   refine e5 rfl (cF (c5 rfl (cF (bE rfl (dR (?_))))))
   have A:=A.from c.le
   have o:=e.cZ
   have d:=d.aR e
   have a:=a.aR e
   have b:=b.aR e
   have c:=c.trans e
   have n:=n.trans e
   refine⟨e.fV (Nat.le_refl _),?_⟩
   refine cA (k5.bM (x.cZ (r.trans o)).rd rfl A.rd rfl (by first | assumption | decide | omega) (by first | assumption | decide | omega)) fun v PE ⟨f,aH⟩=>?_
   obtain⟨PZ,B⟩:∃ p,p=dM (c1 (u,k) - c1 (w.1,w.2)):=⟨_,rfl⟩
   rw [← B] at aH
   replace g:=gJ B g
   have PF:=FL u k w.1 w.2
   rw [← B] at PF
   obtain⟨P0,P1,rfl,C⟩:=aH
   refine e5 rfl (cF (c5 rfl (cF (bE rfl (dR (?_))))))
   have C:=C.from c.le
   have Pv:=f.cZ
   have d:=d.aR f
   have a:=a.aR f
   have b:=b.aR f
   have c:=c.trans f
   have n:=n.trans f
   refine⟨f.fV (o).le,?_⟩
   refine eV a (cB _ _) rfl fun P2 a E PG=>?_
   have d:=d.cL l E
   have b:=b.cL (Ne.symm m) E
   have c:=cD.aR c E j
   refine eV a (cB _ _) rfl fun P3 a F PH=>?_
   have d:=d.cL l F
   have b:=b.cL (Ne.symm m) F
   have c:=cD.aR c F j
   refine dD a (cB _ _) rfl ?_
   refine c5 rfl ?_
   refine dD a (cB _ _) rfl ?_
   refine bE rfl ?_
   exact g _ _ c ⟨_,_,rfl,(C.cZ (PG.trans PH))⟩
  ·refine dD b (cB _ _) rfl ?_
   refine c5 rfl ?_
   refine dD b (cB _ _) rfl ?_
   refine bE rfl ?_
   refine eV a (cB _ _) rfl fun Pu a e o=>?_
   have d:=d.cL l e
   have b:=b.cL (Ne.symm m) e
   have c:=cD.aR c e j
   refine eV a (cB _ _) rfl fun PE a f Pv=>?_
   have d:=d.cL l f
   have b:=b.cL (Ne.symm m) f
   have c:=cD.aR c f j
   refine dD a (cB _ _) rfl ?_
   refine c5 rfl ?_
   refine dD a (cB _ _) rfl ?_
   refine bE rfl ?_
   exact g _ _ c ⟨_,_,rfl,(x.cZ (r.trans (o.trans Pv)))⟩
 ·refine dD b (cB _ _) rfl ?_
  refine c5 rfl ?_
  refine dD b (cB _ _) rfl ?_
  refine bE rfl ?_
  refine eV a (cB _ _) rfl fun PA a h r=>?_
  have d:=d.cL l h
  have b:=b.cL (Ne.symm m) h
  have c:=cD.aR c h j
  refine eV a (cB _ _) rfl fun Pu a e o=>?_
  have d:=d.cL l e
  have b:=b.cL (Ne.symm m) e
  have c:=cD.aR c e j
  refine dD a (cB _ _) rfl ?_
  refine c5 rfl ?_
  refine dD a (cB _ _) rfl ?_
  refine bE rfl ?_
  exact g _ _ c ⟨_,_,rfl,(x.cZ (r.trans o))⟩
def aL.v(a:Bool)(b:Nat)(aM:Int):(Bool × Nat):=
 bif (decide (aM≤(0:Int))) then
  fQ (dM (dE a b)) fun c=>
  (c.1,c.2)
 else
  fQ (b / 2 ^ (Int.toNat aM)) fun c=>
  fQ (dM (dE a c)) fun c=>
  a0.v aM a b false 0 c.1 c.2
theorem aL.bW{Y:aD}{aX Z:U}(a:bA aX Z){n:Bool}{PN:M}{PO PQ:Nat}{o:Nat}(B:cH b6 Z PN PO (D.aK o))(PZ:PQ=(D.aK o).length)(P7:(D.aK o).length≤150000){aM:Int}(F:In .i64 aM)(g:hY gU aX Y (aL.v n o aM)):aL.t Y n PN PQ PO aM Z:=by
 subst PZ
 have d:=bA.refl Z
 have P8:(D.aK 0).length=0:=by simp [D.eP]
 unfold aL.v at g
 unfold aL.t
 refine eZ fun A b T=>?_
 have V:aX.size≤Z.size:=a.le
 have P9:Z.size≤Z.size:=d.le
 have PR:=b.lt
 have C:=T.cZ
 have a:=a.trans T
 have d:=d.trans T
 refine eZ fun E c I=>?_
 have G:Z.size ≠ A.size:=Nat.ne_of_lt b.lt
 have c:eC E (A.size) [.bool false,.slice none (D.aK 0).length 0]:=by rw [D.eP];exact c
 have H:aX.size≤A.size:=a.le
 have PS:Z.size≤A.size:=d.le
 have Qa:=c.lt
 have s:=I.cZ
 have b:=b.aR I
 have a:=a.trans I
 have d:=d.trans I
 refine xA g (fun P0 g=>?_) (fun P0 g=>?_)
 ·refine dD b (cB _ _) rfl ?_
  refine c5 rfl ?_
  refine dD b (cB _ _) rfl ?_
  refine bE rfl ?_
  refine cA (fR.bM (B.cZ (C.trans s)) rfl) fun v u ⟨h,aH⟩=>?_
  obtain⟨Qb,Pt⟩:∃ p,p=dM (dE n o):=⟨_,rfl⟩
  rw [← Pt] at aH
  replace g:=gJ Pt g
  have P1:=lI n o
  rw [← Pt] at P1
  obtain⟨Qc,Qd,rfl,Pu⟩:=aH
  refine e5 rfl (cF (c5 rfl (cF (bE rfl (dR (?_))))))
  have Pu:=Pu.from a.le
  have k:=h.cZ
  have b:=b.aR h
  have c:=c.aR h
  have a:=a.trans h
  have d:=d.trans h
  refine eV c (cB _ _) rfl fun r c f m=>?_
  have b:=b.cL G f
  have a:=cD.aR a f H
  have d:=cD.aR d f PS
  refine eV c (cB _ _) rfl fun J c e w=>?_
  have b:=b.cL G e
  have a:=cD.aR a e H
  have d:=cD.aR d e PS
  refine dD c (cB _ _) rfl ?_
  refine c5 rfl ?_
  refine dD c (cB _ _) rfl ?_
  refine bE rfl ?_
  exact g _ _ a ⟨_,_,rfl,(Pu.cZ (m.trans w))⟩
 ·refine⟨iF (cB _ _) ((s).lt PR),?_⟩
  refine dD b (cB _ _) rfl ?_
  refine c5 rfl ?_
  refine⟨iF (cB _ _) ((s).lt PR),?_⟩
  refine dD b (cB _ _) rfl ?_
  refine bE rfl ?_
  refine⟨?_,?_⟩
  ·refine cA (kT.bW (B.cZ (C.trans s)) rfl F (by first | assumption | decide | omega)) fun v u ⟨h,aH⟩=>?_
   obtain⟨P,Pv⟩:∃ p,p=o / 2 ^ (Int.toNat aM):=⟨_,rfl⟩
   rw [← Pv] at aH
   replace g:=gJ Pv g
   have P2:=n6 (Nat.div_le_self o (2 ^ (Int.toNat aM)))
   rw [← Pv] at P2
   obtain⟨Qe,Qf,rfl,Q⟩:=aH
   refine bE rfl (?_)
   have Q:=Q.from a.le
   have k:=h.cZ
   have b:=b.aR h
   have c:=c.aR h
   have a:=a.trans h
   have d:=d.trans h
   refine⟨h.fV (Nat.le_refl _),?_⟩
   refine⟨?_,?_⟩
   ·refine cA (fR.bM Q.rd rfl) fun v r ⟨f,aH⟩=>?_
    obtain⟨Qg,Pw⟩:∃ p,p=dM (dE n P):=⟨_,rfl⟩
    rw [← Pw] at aH
    replace g:=gJ Pw g
    have P3:=lI n P
    rw [← Pw] at P3
    obtain⟨Qh,Qi,rfl,Px⟩:=aH
    refine e5 rfl (cF (c5 rfl (cF (bE rfl (dR (?_))))))
    have Px:=Px.from a.le
    have m:=f.cZ
    have b:=b.aR f
    have c:=c.aR f
    have a:=a.trans f
    have d:=d.trans f
    refine⟨f.fV (k).le,?_⟩
    refine eZ fun J x e=>?_
    have Py:Z.size ≠ r.size:=Nat.ne_of_lt b.lt
    have Pz:A.size ≠ r.size:=Nat.ne_of_lt c.lt
    have x:eC J (r.size) [.bool false,.slice none (D.aK 0).length 0]:=by rw [D.eP];exact x
    have PA:aX.size≤r.size:=a.le
    have PT:Z.size≤r.size:=d.le
    have Qj:=x.lt
    have w:=e.cZ
    have b:=b.aR e
    have c:=c.aR e
    have a:=a.trans e
    have d:=d.trans e
    refine⟨e.fV (k.trans m).le,?_⟩
    refine eV x (cB _ _) rfl fun PU x i y=>?_
    have b:=b.cL Py i
    have c:=c.cL Pz i
    have a:=cD.aR a i PA
    have d:=cD.aR d i PT
    refine eV x (cB _ _) rfl fun PV x j z=>?_
    have b:=b.cL Py j
    have c:=c.cL Pz j
    have a:=cD.aR a j PA
    have d:=cD.aR d j PT
    exact a0.bW a F (B.cZ (C.trans (s.trans (k.trans (m.trans (w.trans (y.trans z))))))) (by first | assumption | decide | omega) b V (tQ _ _) (by first | assumption | decide | omega) c H (Px.cZ (w.trans (y.trans z))) (by first | assumption | decide | omega) x PA G Py Pz (by first | assumption | decide | omega) g
   ·refine eZ fun r q f=>?_
    have PB:Z.size ≠ u.size:=Nat.ne_of_lt b.lt
    have PC:A.size ≠ u.size:=Nat.ne_of_lt c.lt
    have q:eC r (u.size) [.bool false,.slice none (D.aK 0).length 0]:=by rw [D.eP];exact q
    have PD:aX.size≤u.size:=a.le
    have PW:Z.size≤u.size:=d.le
    have Qk:=q.lt
    have m:=f.cZ
    have b:=b.aR f
    have c:=c.aR f
    have a:=a.trans f
    have d:=d.trans f
    refine⟨f.fV (k).le,?_⟩
    refine cA (fR.bM (Q.cZ (m)).rd rfl) fun v J ⟨e,aH⟩=>?_
    obtain⟨Ql,PE⟩:∃ p,p=dM (dE n P):=⟨_,rfl⟩
    rw [← PE] at aH
    replace g:=gJ PE g
    have P4:=lI n P
    rw [← PE] at P4
    obtain⟨Qm,Qn,rfl,PF⟩:=aH
    refine e5 rfl (cF (c5 rfl (cF (bE rfl (dR (?_))))))
    have PF:=PF.from a.le
    have w:=e.cZ
    have b:=b.aR e
    have c:=c.aR e
    have q:=q.aR e
    have a:=a.trans e
    have d:=d.trans e
    refine⟨e.fV (k.trans m).le,?_⟩
    refine eV q (cB _ _) rfl fun PU q i y=>?_
    have b:=b.cL PB i
    have c:=c.cL PC i
    have a:=cD.aR a i PD
    have d:=cD.aR d i PW
    refine eV q (cB _ _) rfl fun PV q j z=>?_
    have b:=b.cL PB j
    have c:=c.cL PC j
    have a:=cD.aR a j PD
    have d:=cD.aR d j PW
    exact a0.bW a F (B.cZ (C.trans (s.trans (k.trans (m.trans (w.trans (y.trans z))))))) (by first | assumption | decide | omega) b V (tQ _ _) (by first | assumption | decide | omega) c H (PF.cZ (y.trans z)) (by first | assumption | decide | omega) q PD G PB PC (by first | assumption | decide | omega) g
  ·refine eZ fun u l h=>?_
   have PG:Z.size ≠ E.size:=Nat.ne_of_lt b.lt
   have PH:A.size ≠ E.size:=Nat.ne_of_lt c.lt
   have l:eC u (E.size) [.bool false,.slice none (D.aK 0).length 0]:=by rw [D.eP];exact l
   have PI:aX.size≤E.size:=a.le
   have PX:Z.size≤E.size:=d.le
   have Qo:=l.lt
   have k:=h.cZ
   have b:=b.aR h
   have c:=c.aR h
   have a:=a.trans h
   have d:=d.trans h
   refine⟨h.fV (Nat.le_refl _),?_⟩
   refine cA (kT.bW (B.cZ (C.trans (s.trans k))) rfl F (by first | assumption | decide | omega)) fun v r ⟨f,aH⟩=>?_
   obtain⟨PY,PJ⟩:∃ p,p=o / 2 ^ (Int.toNat aM):=⟨_,rfl⟩
   rw [← PJ] at aH
   replace g:=gJ PJ g
   have P5:=n6 (Nat.div_le_self o (2 ^ (Int.toNat aM)))
   rw [← PJ] at P5
   obtain⟨Qp,Qq,rfl,PK⟩:=aH
   refine bE rfl (?_)
   have PK:=PK.from a.le
   have m:=f.cZ
   have b:=b.aR f
   have c:=c.aR f
   have l:=l.aR f
   have a:=a.trans f
   have d:=d.trans f
   refine⟨f.fV (k).le,?_⟩
   refine cA (fR.bM PK.rd rfl) fun v J ⟨e,aH⟩=>?_
   obtain⟨Qr,PL⟩:∃ p,p=dM (dE n PY):=⟨_,rfl⟩
   rw [← PL] at aH
   replace g:=gJ PL g
   have P6:=lI n PY
   rw [← PL] at P6
   obtain⟨Qs,Qt,rfl,PM⟩:=aH
   refine e5 rfl (cF (c5 rfl (cF (bE rfl (dR (?_))))))
   have PM:=PM.from a.le
   have w:=e.cZ
   have b:=b.aR e
   have c:=c.aR e
   have l:=l.aR e
   have a:=a.trans e
   have d:=d.trans e
   refine⟨e.fV (k.trans m).le,?_⟩
   refine eV l (cB _ _) rfl fun PU l i y=>?_
   have b:=b.cL PG i
   have c:=c.cL PH i
   have a:=cD.aR a i PI
   have d:=cD.aR d i PX
   refine eV l (cB _ _) rfl fun PV l j z=>?_
   have b:=b.cL PG j
   have c:=c.cL PH j
   have a:=cD.aR a j PI
   have d:=cD.aR d j PX
   exact a0.bW a F (B.cZ (C.trans (s.trans (k.trans (m.trans (w.trans (y.trans z))))))) (by first | assumption | decide | omega) b V (tQ _ _) (by first | assumption | decide | omega) c H (PM.cZ (y.trans z)) (by first | assumption | decide | omega) l PI G PG PH (by first | assumption | decide | omega) g
def v(a:Bool)(b:Nat)(aM:Int):(Bool × Nat):=aL.v a b aM
theorem bW{Z:U}{a:Bool}{b:M}{c d:Nat}{e:Nat}(f:cH b6 Z b c (D.aK e))(g:d=(D.aK e).length)(h:(D.aK e).length≤150000){aM:Int}(i:In .i64 aM):aY id #[.agg #[.bool a,.slice b d c],.int .i64 aM] Z fun b c=>bA Z c∧gU Z c b (v a e aM):=
 ok (aL.bW (bA.refl _) f g h i fun v K S aH=>⟨S,aH⟩)
end lZ
theorem K1(O aC:Int):hL (O - aC) 0=hL O aC:=by
 unfold hL
 rcases Int.lt_trichotomy O aC with Z | Z | Z
 ·rw [if_pos (by omega),if_pos Z]
 ·rw [if_neg (by omega),if_pos (by omega),if_neg (by omega),if_pos Z]
 ·rw [if_neg (by omega),if_neg (by omega),if_neg (by omega),if_neg (by omega)]
theorem K2(L c:Bool)(a2 bK:Nat):lY.v L a2 c bK=hL (c1 (L,a2)) (c1 (c,bK)):=by
 unfold lY.v lY.aL.v
 simp only [fQ]
 rw [show c1 ((dM (c1 (L,a2) - c1 (c,bK))).1,(dM (c1 (L,a2) - c1 (c,bK))).2)=c1 (L,a2) - c1 (c,bK) from xO _,K1]
theorem K3(a:Int):hP a 1=a:=by unfold hP;rw [if_neg (by omega),Int.ediv_one]
theorem K4(L:Bool)(a2:Nat)(S:Int):lZ.v L a2 S=dM (hP (c1 (L,a2)) (2 ^ S.toNat)):=by
 unfold lZ.v lZ.aL.v
 simp only [fQ]
 by_cases a:S≤0
 ·simp only [a,decide_true,cond_true]
  rw [show S.toNat=0 by omega,Int.pow_zero,K3];rfl
 ·simp only [a,decide_false,cond_false]
  unfold lZ.a0.v
  generalize S.toNat=n
  rw [show c1 (L,a2)=dE L a2 from rfl,FF]
  have d:decide (((D.aK (a2 % 2 ^ n)).length:Int) > 0)=decide (a2 % 2 ^ n ≠ 0):=by
   rw [decide_eq_decide];have:=r0 (a2 % 2 ^ n);omega
  by_cases b:a2=0
  ·subst b
   simp only [Nat.zero_div,pV,B8,Nat.zero_mod,K0,fQ,(r0 0).mpr rfl]
   cases L <;> rfl
  ·rw [xP (Ky n) fun _=>b,Bool.xor_false]
   cases L
   ·simp only [cond_false,Bool.false_eq_true,false_and,if_false]
   ·simp only [cond_true,fQ,true_and]
    rw [d]
    by_cases c:a2 % 2 ^ n=0
    ·simp only [c,ne_eq,not_true_eq_false,decide_false,cond_false,if_false]
    ·simp only [c,ne_eq,not_false_eq_true,decide_true,cond_true,if_true]
     rw [show c1 ((dM (dE true (a2 / 2 ^ n))).1,(dM (dE true (a2 / 2 ^ n))).2)=dE true (a2 / 2 ^ n) from xO _]
     rw [show c1 ((dM 1).1,(dM 1).2)=1 from rfl]
     have:dE true (a2 / 2 ^ n) - 1=dE true (a2 / 2 ^ n+1):=by unfold dE;simp only [if_true];omega
     rw [this]
section
variable {a L:M} {c aV l m a2 bK:Nat} {aA aU:List Nat} {Z:U} {N aP:Int} {p aE:Bool}
theorem lY.bM(r:cH b6 Z a c (D.aK a2))(R:l=(D.aK a2).length)(aH:cH b6 Z L aV (D.aK bK))(f:m=(D.aK bK).length)(b:(D.aK a2).length≤700000)(d:(D.aK bK).length≤700000):aY lY.id #[.agg #[.bool p,.slice a l c],.agg #[.bool aE,.slice L m aV]] Z fun v K=>bA Z K∧m6 .i64 Z K v (hL (c1 (p,a2)) (c1 (aE,bK))):=by rw [← K2];exact lY.bW r R b aH f d
theorem lZ.bM(r:cH b6 Z a c (D.aK a2))(R:l=(D.aK a2).length)(O:In .i64 N)(b:(D.aK a2).length≤150000):aY lZ.id #[.agg #[.bool p,.slice a l c],.int .i64 N] Z fun v K=>bA Z K∧gU Z K v (dM (hP (c1 (p,a2)) (2 ^ N.toNat))):=by rw [← K4];exact lZ.bW r R b O
end
namespace n9
def aL.v(a:Bool)(b:Nat)(c:Bool)(d:Nat):(Bool × Nat):=
 fQ (nJ (c1 (a,b)) (c1 (c,d))) fun a=>
 fQ (dM (c1 (a.2.1,a.2.2)*2 ^ (Int.toNat (1:Int)))) fun b=>
 bif (decide (((hL (c1 (b.1,b.2)) (c1 (c,d)))) > (0:Int))) then
  fQ (dM (1:Int)) fun e=>
  fQ (dM (c1 (a.1.1,a.1.2)+c1 (e.1,e.2))) fun e=>
  (e.1,e.2)
 else
  bif (((hL (c1 (b.1,b.2)) (c1 (c,d)))) == (0:Int)) then
   bif (!(decide (a.1.2 % 2=0))) then
    fQ (dM (1:Int)) fun b=>
    fQ (dM (c1 (a.1.1,a.1.2)+c1 (b.1,b.2))) fun b=>
    (b.1,b.2)
   else
    (a.1.1,a.1.2)
  else
   (a.1.1,a.1.2)
theorem aL.bW{Y:aD}{aX Z:U}(a:bA aX Z){PD:Bool}{P4:M}{P5 P6:Nat}{I:Nat}(Qn:cH b6 Z P4 P5 (D.aK I))(Qo:P6=(D.aK I).length)(QG:(D.aK I).length≤300000){PE:Bool}{P7:M}{P8 P9:Nat}{J:Nat}(Qa:cH b6 Z P7 P8 (D.aK J))(Qp:P9=(D.aK J).length)(QH:(D.aK J).length≤300000)(g:hY gU aX Y (aL.v PD I PE J)):aL.t Y PD P4 P6 P5 PE P7 P9 P8 Z:=by
 subst Qo Qp
 have c:=bA.refl Z
 have QI:(D.aK 0).length=0:=by simp [D.eP]
 unfold aL.v at g
 unfold aL.t
 refine eZ fun Pv d PN=>?_
 have QJ:aX.size≤Z.size:=a.le
 have QK:Z.size≤Z.size:=c.le
 have QL:=d.lt
 have PO:=PN.cZ
 have a:=a.trans PN
 have c:=c.trans PN
 refine eZ fun P e PG=>?_
 have QM:Z.size ≠ Pv.size:=Nat.ne_of_lt d.lt
 have QN:aX.size≤Pv.size:=a.le
 have QO:Z.size≤Pv.size:=c.le
 have Qq:=e.lt
 have PQ:=PG.cZ
 have d:=d.aR PG
 have a:=a.trans PG
 have c:=c.trans PG
 refine eZ fun Qr b PF=>?_
 have A:Z.size ≠ P.size:=Nat.ne_of_lt d.lt
 have B:Pv.size ≠ P.size:=Nat.ne_of_lt e.lt
 have b:eC Qr (P.size) [.bool false,.slice none (D.aK 0).length 0]:=by rw [D.eP];exact b
 have C:aX.size≤P.size:=a.le
 have E:Z.size≤P.size:=c.le
 have QP:=b.lt
 have PH:=PF.cZ
 have d:=d.aR PF
 have e:=e.aR PF
 have a:=a.trans PF
 have c:=c.trans PF
 refine dD d (cB _ _) rfl ?_
 refine c5 rfl ?_
 refine dD d (cB _ _) rfl ?_
 refine bE rfl ?_
 refine dD e (cB _ _) rfl ?_
 refine c5 rfl ?_
 refine dD e (cB _ _) rfl ?_
 refine bE rfl ?_
 refine cA (n7.bM (Qn.cZ (PO.trans (PQ.trans PH))) rfl (Qa.cZ (PO.trans (PQ.trans PH))) rfl (by first | assumption | decide | omega) (by first | assumption | decide | omega)) fun v Q ⟨Pw,aH⟩=>?_
 obtain⟨m,PI⟩:∃ p,p=nJ (c1 (PD,I)) (c1 (PE,J)):=⟨_,rfl⟩
 rw [← PI] at aH
 replace g:=gJ PI g
 have Qs:=KP PD I PE J
 rw [← PI] at Qs
 have Qt:=KQ PD I PE J
 rw [← PI] at Qt
 obtain⟨_,_,rfl,⟨QQ,QR,rfl,T⟩,⟨QS,QT,rfl,PR⟩⟩:=aH
 refine gE rfl (cF (e5 rfl (cF (c5 rfl (cF (bE rfl (dR (cF (e5 rfl (cF (c5 rfl (cF (bE rfl (dR (dR (?_))))))))))))))))
 have T:=T.from a.le
 have PR:=PR.from a.le
 have Qb:=Pw.cZ
 have d:=d.aR Pw
 have e:=e.aR Pw
 have b:=b.aR Pw
 have a:=a.trans Pw
 have c:=c.trans Pw
 refine eZ fun F f Px=>?_
 have Qc:Z.size ≠ Q.size:=Nat.ne_of_lt d.lt
 have Qd:Pv.size ≠ Q.size:=Nat.ne_of_lt e.lt
 have s:P.size ≠ Q.size:=Nat.ne_of_lt b.lt
 have f:eC F (Q.size) [.bool false,.slice none (D.aK 0).length 0]:=by rw [D.eP];exact f
 have Qe:aX.size≤Q.size:=a.le
 have Qf:Z.size≤Q.size:=c.le
 have Qg:=f.lt
 have G:=Px.cZ
 have d:=d.aR Px
 have e:=e.aR Px
 have b:=b.aR Px
 have a:=a.trans Px
 have c:=c.trans Px
 refine eZ fun Qu h V=>?_
 have Qh:Z.size ≠ F.size:=Nat.ne_of_lt d.lt
 have Qi:Pv.size ≠ F.size:=Nat.ne_of_lt e.lt
 have u:P.size ≠ F.size:=Nat.ne_of_lt b.lt
 have PJ:Q.size ≠ F.size:=Nat.ne_of_lt f.lt
 have h:eC Qu (F.size) [.bool false,.slice none (D.aK 0).length 0]:=by rw [D.eP];exact h
 have Qj:aX.size≤F.size:=a.le
 have Qk:Z.size≤F.size:=c.le
 have Qv:=h.lt
 have w:=V.cZ
 have d:=d.aR V
 have e:=e.aR V
 have b:=b.aR V
 have f:=f.aR V
 have a:=a.trans V
 have c:=c.trans V
 refine eV f (cB _ _) rfl fun QU f Py n=>?_
 have d:=d.cL Qc Py
 have e:=e.cL Qd Py
 have b:=b.cL s Py
 have h:=h.cL (Ne.symm PJ) Py
 have a:=cD.aR a Py Qe
 have c:=cD.aR c Py Qf
 refine eV f (cB _ _) rfl fun QV f Pz o=>?_
 have d:=d.cL Qc Pz
 have e:=e.cL Qd Pz
 have b:=b.cL s Pz
 have h:=h.cL (Ne.symm PJ) Pz
 have a:=cD.aR a Pz Qe
 have c:=cD.aR c Pz Qf
 refine eV h (cB _ _) rfl fun QW h PA q=>?_
 have d:=d.cL Qh PA
 have e:=e.cL Qi PA
 have b:=b.cL u PA
 have f:=f.cL PJ PA
 have a:=cD.aR a PA Qj
 have c:=cD.aR c PA Qk
 refine eV h (cB _ _) rfl fun QX h PB r=>?_
 have d:=d.cL Qh PB
 have e:=e.cL Qi PB
 have b:=b.cL u PB
 have f:=f.cL PJ PB
 have a:=cD.aR a PB Qj
 have c:=cD.aR c PB Qk
 refine⟨iF rfl ((n.trans (o.trans (q.trans r))).lt Qv),?_⟩
 refine dD h (cB _ _) rfl ?_
 refine c5 rfl ?_
 refine dD h (cB _ _) rfl ?_
 refine bE rfl ?_
 refine cA (k4.bM (PR.cZ (G.trans (w.trans (n.trans (o.trans (q.trans r)))))).rd rfl (show In .i64 (1:Int) by decide) (by first | assumption | decide | omega) (by first | assumption | decide | omega) (by first | assumption | decide | omega)) fun v QY ⟨x,aH⟩=>?_
 obtain⟨QZ,PS⟩:∃ p,p=dM (c1 (m.2.1,m.2.2)*2 ^ (Int.toNat (1:Int))):=⟨_,rfl⟩
 rw [← PS] at aH
 replace g:=gJ PS g
 have Qw:=KN m.2.1 m.2.2
 rw [← PS] at Qw
 obtain⟨Q0,Q1,rfl,PT⟩:=aH
 refine e5 rfl (cF (c5 rfl (cF (bE rfl (dR (?_))))))
 have PT:=PT.from a.le
 have y:=x.cZ
 have d:=d.aR x
 have e:=e.aR x
 have b:=b.aR x
 have f:=f.aR x
 have h:=h.aR x
 have a:=a.trans x
 have c:=c.trans x
 refine⟨x.fV (Nat.le_refl _),?_⟩
 refine⟨iF rfl ((PH.trans (Qb.trans (G.trans (w.trans (n.trans (o.trans (q.trans r))))))).lt Qq),?_⟩
 refine dD e (cB _ _) rfl ?_
 refine c5 rfl ?_
 refine dD e (cB _ _) rfl ?_
 refine bE rfl ?_
 refine cA (lY.bM PT.rd rfl (Qa.cZ (PO.trans (PQ.trans (PH.trans (Qb.trans (G.trans (w.trans (n.trans (o.trans (q.trans (r.trans y))))))))))) rfl (by first | assumption | decide | omega) (by first | assumption | decide | omega)) fun v Q2 ⟨z,aH⟩=>?_
 obtain⟨rfl,Q3⟩:=aH
 refine bQ rfl (?_)
 have Pt:=z.cZ
 have d:=d.aR z
 have e:=e.aR z
 have b:=b.aR z
 have f:=f.aR z
 have h:=h.aR z
 have a:=a.trans z
 have c:=c.trans z
 refine⟨z.fV (y).le,?_⟩
 refine xA g (fun Qx g=>?_) (fun Qx g=>?_)
 ·refine⟨iF rfl ((w.trans (n.trans (o.trans (q.trans (r.trans (y.trans Pt)))))).lt Qg),?_⟩
  refine dD f (cB _ _) rfl ?_
  refine c5 rfl ?_
  refine dD f (cB _ _) rfl ?_
  refine bE rfl ?_
  refine cA (nI.bM (show In .i64 (1:Int) by decide)) fun v Ql ⟨j,aH⟩=>?_
  obtain⟨PK,PU⟩:∃ p,p=dM (1:Int):=⟨_,rfl⟩
  rw [← PU] at aH
  replace g:=gJ PU g
  have Qy:=Ca (show In .i64 (1:Int) by decide)
  rw [← PU] at Qy
  obtain⟨Q4,Q5,rfl,PV⟩:=aH
  refine e5 rfl (cF (c5 rfl (cF (bE rfl (dR (?_))))))
  have PV:=PV.from a.le
  have H:=j.cZ
  have d:=d.aR j
  have e:=e.aR j
  have b:=b.aR j
  have f:=f.aR j
  have h:=h.aR j
  have a:=a.trans j
  have c:=c.trans j
  refine⟨j.fV (Nat.le_refl _),?_⟩
  refine cA (lJ.bM (T.cZ (G.trans (w.trans (n.trans (o.trans (q.trans (r.trans (y.trans (Pt.trans H))))))))).rd rfl PV.rd rfl (by first | assumption | decide | omega) (by first | assumption | decide | omega)) fun v PW ⟨i,aH⟩=>?_
  obtain⟨Q6,PX⟩:∃ p,p=dM (c1 (m.1.1,m.1.2)+c1 (PK.1,PK.2)):=⟨_,rfl⟩
  rw [← PX] at aH
  replace g:=gJ PX g
  have Qz:=Cc m.1.1 m.1.2 PK.1 PK.2
  rw [← PX] at Qz
  obtain⟨Q7,Q8,rfl,PY⟩:=aH
  refine e5 rfl (cF (c5 rfl (cF (bE rfl (dR (?_))))))
  have PY:=PY.from a.le
  have Pu:=i.cZ
  have d:=d.aR i
  have e:=e.aR i
  have b:=b.aR i
  have f:=f.aR i
  have h:=h.aR i
  have a:=a.trans i
  have c:=c.trans i
  refine⟨i.fV (H).le,?_⟩
  refine eV b (cB _ _) rfl fun Qm b k PL=>?_
  have d:=d.cL A k
  have e:=e.cL B k
  have f:=f.cL (Ne.symm s) k
  have h:=h.cL (Ne.symm u) k
  have a:=cD.aR a k C
  have c:=cD.aR c k E
  refine eV b (cB _ _) rfl fun QA b l PZ=>?_
  have d:=d.cL A l
  have e:=e.cL B l
  have f:=f.cL (Ne.symm s) l
  have h:=h.cL (Ne.symm u) l
  have a:=cD.aR a l C
  have c:=cD.aR c l E
  refine dD b (cB _ _) rfl ?_
  refine c5 rfl ?_
  refine dD b (cB _ _) rfl ?_
  refine bE rfl ?_
  exact g _ _ a ⟨_,_,rfl,(PY.cZ (PL.trans PZ))⟩
 ·refine Bz g (fun QB g=>?_) (fun QB g=>?_)
  ·refine dD f (cB _ _) rfl ?_
   refine c5 rfl ?_
   refine dD f (cB _ _) rfl ?_
   refine bE rfl ?_
   refine cA (n8.bM (T.cZ (G.trans (w.trans (n.trans (o.trans (q.trans (r.trans (y.trans Pt)))))))).rd rfl) fun v Ql ⟨j,aH⟩=>?_
   obtain rfl:=aH
   refine c5 rfl (?_)
   have H:=j.cZ
   have d:=d.aR j
   have e:=e.aR j
   have b:=b.aR j
   have f:=f.aR j
   have h:=h.aR j
   have a:=a.trans j
   have c:=c.trans j
   refine El g (fun QC g=>?_) (fun QC g=>?_)
   ·refine⟨iF rfl ((w.trans (n.trans (o.trans (q.trans (r.trans (y.trans (Pt.trans H))))))).lt Qg),?_⟩
    refine dD f (cB _ _) rfl ?_
    refine c5 rfl ?_
    refine dD f (cB _ _) rfl ?_
    refine bE rfl ?_
    refine cA (nI.bM (show In .i64 (1:Int) by decide)) fun v PW ⟨i,aH⟩=>?_
    obtain⟨PM,P0⟩:∃ p,p=dM (1:Int):=⟨_,rfl⟩
    rw [← P0] at aH
    replace g:=gJ P0 g
    have QD:=Ca (show In .i64 (1:Int) by decide)
    rw [← P0] at QD
    obtain⟨Q9,Ra,rfl,P1⟩:=aH
    refine e5 rfl (cF (c5 rfl (cF (bE rfl (dR (?_))))))
    have P1:=P1.from a.le
    have Pu:=i.cZ
    have d:=d.aR i
    have e:=e.aR i
    have b:=b.aR i
    have f:=f.aR i
    have h:=h.aR i
    have a:=a.trans i
    have c:=c.trans i
    refine⟨i.fV (Nat.le_refl _),?_⟩
    refine cA (lJ.bM (T.cZ (G.trans (w.trans (n.trans (o.trans (q.trans (r.trans (y.trans (Pt.trans (H.trans Pu)))))))))).rd rfl P1.rd rfl (by first | assumption | decide | omega) (by first | assumption | decide | omega)) fun v Qm ⟨k,aH⟩=>?_
    obtain⟨Rb,P2⟩:∃ p,p=dM (c1 (m.1.1,m.1.2)+c1 (PM.1,PM.2)):=⟨_,rfl⟩
    rw [← P2] at aH
    replace g:=gJ P2 g
    have QE:=Cc m.1.1 m.1.2 PM.1 PM.2
    rw [← P2] at QE
    obtain⟨Rc,Rd,rfl,P3⟩:=aH
    refine e5 rfl (cF (c5 rfl (cF (bE rfl (dR (?_))))))
    have P3:=P3.from a.le
    have PL:=k.cZ
    have d:=d.aR k
    have e:=e.aR k
    have b:=b.aR k
    have f:=f.aR k
    have h:=h.aR k
    have a:=a.trans k
    have c:=c.trans k
    refine⟨k.fV (Pu).le,?_⟩
    refine eV b (cB _ _) rfl fun QA b l PZ=>?_
    have d:=d.cL A l
    have e:=e.cL B l
    have f:=f.cL (Ne.symm s) l
    have h:=h.cL (Ne.symm u) l
    have a:=cD.aR a l C
    have c:=cD.aR c l E
    refine eV b (cB _ _) rfl fun Re b PC QF=>?_
    have d:=d.cL A PC
    have e:=e.cL B PC
    have f:=f.cL (Ne.symm s) PC
    have h:=h.cL (Ne.symm u) PC
    have a:=cD.aR a PC C
    have c:=cD.aR c PC E
    refine dD b (cB _ _) rfl ?_
    refine c5 rfl ?_
    refine dD b (cB _ _) rfl ?_
    refine bE rfl ?_
    exact g _ _ a ⟨_,_,rfl,(P3.cZ (PZ.trans QF))⟩
   ·refine dD f (cB _ _) rfl ?_
    refine c5 rfl ?_
    refine dD f (cB _ _) rfl ?_
    refine bE rfl ?_
    refine eV b (cB _ _) rfl fun PW b i Pu=>?_
    have d:=d.cL A i
    have e:=e.cL B i
    have f:=f.cL (Ne.symm s) i
    have h:=h.cL (Ne.symm u) i
    have a:=cD.aR a i C
    have c:=cD.aR c i E
    refine eV b (cB _ _) rfl fun Qm b k PL=>?_
    have d:=d.cL A k
    have e:=e.cL B k
    have f:=f.cL (Ne.symm s) k
    have h:=h.cL (Ne.symm u) k
    have a:=cD.aR a k C
    have c:=cD.aR c k E
    refine dD b (cB _ _) rfl ?_
    refine c5 rfl ?_
    refine dD b (cB _ _) rfl ?_
    refine bE rfl ?_
    exact g _ _ a ⟨_,_,rfl,(T.cZ (G.trans (w.trans (n.trans (o.trans (q.trans (r.trans (y.trans (Pt.trans (H.trans (Pu.trans PL)))))))))))⟩
  ·refine dD f (cB _ _) rfl ?_
   refine c5 rfl ?_
   refine dD f (cB _ _) rfl ?_
   refine bE rfl ?_
   refine eV b (cB _ _) rfl fun Ql b j H=>?_
   have d:=d.cL A j
   have e:=e.cL B j
   have f:=f.cL (Ne.symm s) j
   have h:=h.cL (Ne.symm u) j
   have a:=cD.aR a j C
   have c:=cD.aR c j E
   refine eV b (cB _ _) rfl fun PW b i Pu=>?_
   have d:=d.cL A i
   have e:=e.cL B i
   have f:=f.cL (Ne.symm s) i
   have h:=h.cL (Ne.symm u) i
   have a:=cD.aR a i C
   have c:=cD.aR c i E
   refine dD b (cB _ _) rfl ?_
   refine c5 rfl ?_
   refine dD b (cB _ _) rfl ?_
   refine bE rfl ?_
   exact g _ _ a ⟨_,_,rfl,(T.cZ (G.trans (w.trans (n.trans (o.trans (q.trans (r.trans (y.trans (Pt.trans (H.trans Pu))))))))))⟩
def v(a:Bool)(b:Nat)(c:Bool)(d:Nat):(Bool × Nat):=aL.v a b c d
theorem bW{Z:U}{a:Bool}{b:M}{c d:Nat}{e:Nat}(f:cH b6 Z b c (D.aK e))(g:d=(D.aK e).length)(h:(D.aK e).length≤300000){i:Bool}{j:M}{k l:Nat}{m:Nat}(n:cH b6 Z j k (D.aK m))(o:l=(D.aK m).length)(p:(D.aK m).length≤300000):aY id #[.agg #[.bool a,.slice b d c],.agg #[.bool i,.slice j l k]] Z fun b c=>bA Z c∧gU Z c b (v a e i m):=
 ok (aL.bW (bA.refl _) f g h n o p fun v K S aH=>⟨S,aH⟩)
end n9
theorem vW(O:Int):c1 ((dM O).1,(dM O).2)=O:=xO O
theorem FP{O aC:Int}:decide (hL O aC > 0)=decide (aC < O):=by rw [KI]
theorem FQ{O aC:Int}:(hL O aC == 0)=decide (O=aC):=by
 unfold hL
 rcases Int.lt_trichotomy O aC with Z | Z | Z
 ·rw [if_pos Z];have:O ≠ aC:=by omega
  simp [this]
 ·subst Z;simp
 ·rw [if_neg (by omega),if_neg (by omega)];have:O ≠ aC:=by omega
  simp [this]
theorem K5{p:Bool}{a bC:Nat}(b:bC ≠ 0)(d:p=true→a ≠ 0):
  lH (dE p a) (dE false bC)=if (bC:Int) < qS (dE p a) (dE false bC)*2∨(qS (dE p a) (dE false bC)*2=(bC:Int)∧(hP (dE p a) (dE false bC)).natAbs % 2=1) then hP (dE p a) (dE false bC)+1 else hP (dE p a) (dE false bC):=by
 rw [KA b d,xP b d,FH b d,Bool.xor_false,qR]
 unfold hQ
 have f:=Nat.mod_lt a (show 0 < bC by omega)
 generalize a % bC=r at *
 generalize a / bC=Q at *
 cases p
 ·simp only [Bool.false_eq_true,false_and,if_false,B7]
  by_cases c:bC < 2*r∨(2*r=bC∧Q % 2=1)
  ·rw [if_pos c,if_pos (by omega)];omega
  ·rw [if_neg c,if_neg (by omega)]
 ·by_cases e:r=0
  ·subst e
   simp only [ne_eq,not_true_eq_false,and_false,if_false,pV]
   rw [if_neg (by omega),if_neg (by omega)]
  ·simp only [ne_eq,e,not_false_eq_true,and_self,if_true,B7]
   have R:dE true (Q+1)+1=dE true Q:=by unfold dE;simp only [if_true];omega
   by_cases c:bC < 2*r∨(2*r=bC∧Q % 2=1)
   ·rw [if_pos c,if_neg (by omega)]
   ·rw [if_neg c,if_pos (by omega),R]
theorem K6(L c:Bool)(a2 bK:Nat):n9.v L a2 c bK=nK (c1 (L,a2)) (c1 (c,bK)):=by
 unfold n9.v n9.aL.v
 by_cases Z:c1 (c,bK)≤0
 ·have R:nJ (c1 (L,a2)) (c1 (c,bK))=((false,0),(false,0)):=by unfold nJ;rw [if_pos Z]
  rw [R]
  simp only [fQ]
  have a:c1 (false,0)*2 ^ Int.toNat 1=0:=by rw [mO,pV,Int.zero_mul]
  rw [a,vW,FP,FQ]
  unfold nK
  by_cases b:c1 (c,bK) < 0
  ·simp only [b,decide_true,cond_true,if_true];rfl
  ·have d:(0:Int)=c1 (c,bK):=by omega
   rw [if_neg b,if_pos d.symm]
   simp only [b,d.symm,decide_false,decide_true,cond_false,cond_true];rfl
 ·have f:c=false:=by
   cases c
   ·rfl
   ·exfalso;apply Z;rw [mO];unfold dE;simp
  subst f
  rw [FO (by omega)]
  simp only [fQ]
  have a:(2:Int) ^ Int.toNat 1=2:=rfl
  rw [vW,a,vW,FP,FQ]
  have g:nK (c1 (L,a2)) (c1 (false,bK))=dM (lH (c1 (L,a2)) (c1 (false,bK))):=by unfold nK;rw [if_neg (by omega),if_neg (by omega)]
  rw [g]
  have h:bK ≠ 0:=fun R=>Z (by subst R;rw [mO,pV];exact Int.le_refl _)
  obtain⟨p,e,i,j,_⟩:=B9 (c1 (L,a2))
  have k:c1 (false,bK)=dE false bK:=rfl
  rw [i,k,K5 h j]
  generalize qS (dE p e) (dE false bK)=cN
  generalize hP (dE p e) (dE false bK)=F
  have l:c1 ((dM F).1,(dM F).2)+c1 ((dM 1).1,(dM 1).2)=F+1:=by rw [vW,vW]
  have m:decide ((dM F).2 % 2=0)=decide (F.natAbs % 2=0):=rfl
  have n:dE false bK=(bK:Int):=rfl
  simp only [l,m,n]
  by_cases aG:(bK:Int) < cN*2
  ·simp only [aG,decide_true,cond_true,true_or,if_true]
  ·simp only [aG,decide_false,cond_false,false_or]
   by_cases bG:cN*2=(bK:Int)
   ·simp only [bG,decide_true,cond_true,true_and]
    rcases Nat.mod_two_eq_zero_or_one F.natAbs with R | R
    ·simp only [R];rfl
    ·simp only [R];rfl
   ·simp only [bG,decide_false,cond_false,false_and,if_false]
section
variable {a L:M} {c aV l m a2 bK:Nat} {aA aU:List Nat} {Z:U} {N aP:Int} {p aE:Bool}
theorem n9.bM(r:cH b6 Z a c (D.aK a2))(R:l=(D.aK a2).length)(aH:cH b6 Z L aV (D.aK bK))(f:m=(D.aK bK).length)(b:(D.aK a2).length≤300000)(d:(D.aK bK).length≤300000):aY n9.id #[.agg #[.bool p,.slice a l c],.agg #[.bool aE,.slice L m aV]] Z fun v K=>bA Z K∧gU Z K v (nK (c1 (p,a2)) (c1 (aE,bK))):=by rw [← K6];exact n9.bW r R b aH f d
end
namespace lK
def a0.v(a:Bool)(b:Nat)(c:Bool)(d:Nat)(e:Bool)(e:Nat):(Bool × Nat):=
 fQ (nK (c1 (a,b)) (c1 (c,d))) fun a=>
 (a.1,a.2)
theorem a0.bW{Y:aD}{aX Z:U}(d:bA aX Z){k:Bool}{s:M}{u:Nat}{e:Nat}(G:cH b6 Z s u (D.aK e))(Q:(D.aK e).length≤300000){i:Nat}(a:eC Z i [.bool k,.slice s (D.aK e).length u])(T:aX.size≤i){l:Bool}{w:M}{x:Nat}{f:Nat}(H:cH b6 Z w x (D.aK f))(V:(D.aK f).length≤300000){j:Nat}(b:eC Z j [.bool l,.slice w (D.aK f).length x])(Pt:aX.size≤j){y:Bool}{z:M}{A:Nat}{m:Nat}(Pu:cH b6 Z z A (D.aK m))(Pv:(D.aK m).length≤300000){fN:Nat}(c:eC Z fN [.bool y,.slice z (D.aK m).length A])(B:aX.size≤fN)(Pw:i ≠ j)(C:i ≠ fN)(E:j ≠ fN)(g:hY gU aX Y (a0.v k e l f y m)):a0.t Y (⟨i,0,none⟩:Addr) (⟨j,0,none⟩:Addr) (⟨fN,0,none⟩:Addr) Z:=by
 have F:=bA.refl Z
 have Px:=a.lt
 have Py:=b.lt
 have Pz:=c.lt
 have PA:(D.aK 0).length=0:=by simp [D.eP]
 unfold a0.v at g
 unfold a0.t
 refine dD a (cB _ _) rfl ?_
 refine c5 rfl ?_
 refine dD a (cB _ _) rfl ?_
 refine bE rfl ?_
 refine dD b (cB _ _) rfl ?_
 refine c5 rfl ?_
 refine dD b (cB _ _) rfl ?_
 refine bE rfl ?_
 refine cA (n9.bM G rfl H rfl (by first | assumption | decide | omega) (by first | assumption | decide | omega)) fun v PB ⟨h,aH⟩=>?_
 obtain⟨PC,n⟩:∃ p,p=nK (c1 (k,e)) (c1 (l,f)):=⟨_,rfl⟩
 rw [← n] at aH
 replace g:=gJ n g
 have I:=KR k e l f
 rw [← n] at I
 obtain⟨PD,PE,rfl,o⟩:=aH
 refine e5 rfl (cF (c5 rfl (cF (bE rfl (dR (?_))))))
 have o:=o.from d.le
 have PF:=h.cZ
 have a:=a.aR h
 have b:=b.aR h
 have c:=c.aR h
 have d:=d.trans h
 have F:=F.trans h
 refine eV c (cB _ _) rfl fun PG c q J=>?_
 have a:=a.cL C q
 have b:=b.cL E q
 have d:=cD.aR d q B
 refine eV c (cB _ _) rfl fun PH c r P=>?_
 have a:=a.cL C r
 have b:=b.cL E r
 have d:=cD.aR d r B
 refine dD c (cB _ _) rfl ?_
 refine c5 rfl ?_
 refine dD c (cB _ _) rfl ?_
 refine bE rfl ?_
 exact g _ _ d ⟨_,_,rfl,(o.cZ (J.trans P))⟩
def aL.v(a:Bool)(b:Nat)(c:Bool)(d:Nat):(Bool × Nat):=
 bif c then
  fQ (dM (-c1 (a,b))) fun e=>
  fQ (dM (-c1 (c,d))) fun f=>
  a0.v e.1 e.2 f.1 f.2 false 0
 else
  a0.v a b c d false 0
theorem aL.bW{Y:aD}{aX Z:U}(a:bA aX Z){q:Bool}{Q:M}{T V:Nat}{i:Nat}(Pt:cH b6 Z Q T (D.aK i))(PG:V=(D.aK i).length)(PQ:(D.aK i).length≤150000){r:Bool}{Pu:M}{Pv Pw:Nat}{j:Nat}(Px:cH b6 Z Pu Pv (D.aK j))(PH:Pw=(D.aK j).length)(PR:(D.aK j).length≤150000)(g:hY gU aX Y (aL.v q i r j)):aL.t Y q Q V T r Pu Pw Pv Z:=by
 subst PG PH
 have c:=bA.refl Z
 have PS:(D.aK 0).length=0:=by simp [D.eP]
 unfold aL.v at g
 unfold aL.t
 refine eZ fun s b G=>?_
 have u:aX.size≤Z.size:=a.le
 have Py:Z.size≤Z.size:=c.le
 have PI:=b.lt
 have w:=G.cZ
 have a:=a.trans G
 have c:=c.trans G
 refine eZ fun m d x=>?_
 have k:Z.size ≠ s.size:=Nat.ne_of_lt b.lt
 have y:aX.size≤s.size:=a.le
 have Pz:Z.size≤s.size:=c.le
 have PJ:=d.lt
 have n:=x.cZ
 have b:=b.aR x
 have a:=a.trans x
 have c:=c.trans x
 refine eZ fun PK e o=>?_
 have z:Z.size ≠ m.size:=Nat.ne_of_lt b.lt
 have A:s.size ≠ m.size:=Nat.ne_of_lt d.lt
 have e:eC PK (m.size) [.bool false,.slice none (D.aK 0).length 0]:=by rw [D.eP];exact e
 have PA:aX.size≤m.size:=a.le
 have PT:Z.size≤m.size:=c.le
 have PU:=e.lt
 have l:=o.cZ
 have b:=b.aR o
 have d:=d.aR o
 have a:=a.trans o
 have c:=c.trans o
 refine dD d (cB _ _) rfl ?_
 refine c5 rfl ?_
 refine w9 g (fun PL g=>?_) (fun PL g=>?_)
 ·refine⟨iF rfl ((n.trans l).lt PI),?_⟩
  refine dD b (cB _ _) rfl ?_
  refine c5 rfl ?_
  refine dD b (cB _ _) rfl ?_
  refine bE rfl ?_
  refine cA (mN.bM (Pt.cZ (w.trans (n.trans l))) rfl) fun v PV ⟨f,aH⟩=>?_
  obtain⟨PW,H⟩:∃ p,p=dM (-c1 (q,i)):=⟨_,rfl⟩
  rw [← H] at aH
  replace g:=gJ H g
  have PM:=Cb q i
  rw [← H] at PM
  obtain⟨PX,PY,rfl,I⟩:=aH
  refine e5 rfl (cF (c5 rfl (cF (bE rfl (dR (?_))))))
  have I:=I.from a.le
  have PB:=f.cZ
  have b:=b.aR f
  have d:=d.aR f
  have e:=e.aR f
  have a:=a.trans f
  have c:=c.trans f
  refine⟨f.fV (Nat.le_refl _),?_⟩
  refine⟨iF rfl ((l).lt PJ),?_⟩
  refine dD d (cB _ _) rfl ?_
  refine c5 rfl ?_
  refine dD d (cB _ _) rfl ?_
  refine bE rfl ?_
  refine cA (mN.bM (Px.cZ (w.trans (n.trans (l.trans PB)))) rfl) fun v PZ ⟨h,aH⟩=>?_
  obtain⟨P0,J⟩:∃ p,p=dM (-c1 (r,j)):=⟨_,rfl⟩
  rw [← J] at aH
  replace g:=gJ J g
  have PN:=Cb r j
  rw [← J] at PN
  obtain⟨P1,P2,rfl,P⟩:=aH
  refine e5 rfl (cF (c5 rfl (cF (bE rfl (dR (?_))))))
  have P:=P.from a.le
  have PO:=h.cZ
  have b:=b.aR h
  have d:=d.aR h
  have e:=e.aR h
  have a:=a.trans h
  have c:=c.trans h
  refine⟨h.fV (PB).le,?_⟩
  refine eV b (cB _ _) rfl fun P3 b B PC=>?_
  have d:=d.cL (Ne.symm k) B
  have e:=e.cL (Ne.symm z) B
  have a:=cD.aR a B u
  have c:=cD.aR c B Py
  refine eV b (cB _ _) rfl fun P4 b C PD=>?_
  have d:=d.cL (Ne.symm k) C
  have e:=e.cL (Ne.symm z) C
  have a:=cD.aR a C u
  have c:=cD.aR c C Py
  refine eV d (cB _ _) rfl fun P5 d E PE=>?_
  have b:=b.cL k E
  have e:=e.cL (Ne.symm A) E
  have a:=cD.aR a E y
  have c:=cD.aR c E Pz
  refine eV d (cB _ _) rfl fun P6 d F PF=>?_
  have b:=b.cL k F
  have e:=e.cL (Ne.symm A) F
  have a:=cD.aR a F y
  have c:=cD.aR c F Pz
  exact a0.bW a (I.cZ (PO.trans (PC.trans (PD.trans (PE.trans PF))))).rd (by first | assumption | decide | omega) b u (P.cZ (PC.trans (PD.trans (PE.trans PF)))).rd (by first | assumption | decide | omega) d y (FJ _ _ _) (by first | assumption | decide | omega) e PA k z A g
 ·exact a0.bW a (Pt.cZ (w.trans (n.trans l))) (by first | assumption | decide | omega) b u (Px.cZ (w.trans (n.trans l))) (by first | assumption | decide | omega) d y (FJ _ _ _) (by first | assumption | decide | omega) e PA k z A g
def v(a:Bool)(b:Nat)(c:Bool)(d:Nat):(Bool × Nat):=aL.v a b c d
theorem bW{Z:U}{a:Bool}{b:M}{c d:Nat}{e:Nat}(f:cH b6 Z b c (D.aK e))(g:d=(D.aK e).length)(h:(D.aK e).length≤150000){i:Bool}{j:M}{k l:Nat}{m:Nat}(n:cH b6 Z j k (D.aK m))(o:l=(D.aK m).length)(p:(D.aK m).length≤150000):aY id #[.agg #[.bool a,.slice b d c],.agg #[.bool i,.slice j l k]] Z fun b c=>bA Z c∧gU Z c b (v a e i m):=
 ok (aL.bW (bA.refl _) f g h n o p fun v K S aH=>⟨S,aH⟩)
end lK
theorem K7{a L:Int}(c:L ≠ 0):lH (-a) (-L)=lH a L:=by
 rw [KH]
 unfold lH
 rw [B4,Int.natAbs_neg]
 have:decide (-L < 0)=!decide (L < 0):=by
  by_cases b:L < 0
  ·simp [b];omega
  ·simp [b];omega
 rw [this];congr 1
 cases decide (a < 0) <;> cases decide (L < 0) <;> rfl
theorem K8(L c:Bool)(a2 bK:Nat):lK.v L a2 c bK=vV (c1 (L,a2)) (c1 (c,bK)):=by
 unfold lK.v lK.aL.v lK.a0.v
 simp only [fQ,vW]
 cases c
 ·rw [cond_false]
  have Z:¬ c1 (false,bK) < 0:=by rw [mO];unfold dE;simp
  show nK (c1 (L,a2)) (c1 (false,bK))=_
  unfold nK vV;rw [if_neg Z]
 ·rw [cond_true]
  have Z:¬ -c1 (true,bK) < 0:=by rw [mO];unfold dE;simp
  show nK (-c1 (L,a2)) (-c1 (true,bK))=_
  unfold nK vV;rw [if_neg Z]
  by_cases aX:c1 (true,bK)=0
  ·rw [if_pos (by omega),if_pos aX]
  ·rw [if_neg (by omega),if_neg aX,K7 aX]
section
variable {a L:M} {c aV l m a2 bK:Nat} {aA aU:List Nat} {Z:U} {N aP:Int} {p aE:Bool}
theorem lK.bM(r:cH b6 Z a c (D.aK a2))(R:l=(D.aK a2).length)(aH:cH b6 Z L aV (D.aK bK))(f:m=(D.aK bK).length)(b:(D.aK a2).length≤150000)(d:(D.aK bK).length≤150000):aY lK.id #[.agg #[.bool p,.slice a l c],.agg #[.bool aE,.slice L m aV]] Z fun v K=>bA Z K∧gU Z K v (vV (c1 (p,a2)) (c1 (aE,bK))):=by rw [← K8];exact lK.bW r R b aH f d
end
end Go.Proofs.YtjijdlkpmngolaaGreat.G
