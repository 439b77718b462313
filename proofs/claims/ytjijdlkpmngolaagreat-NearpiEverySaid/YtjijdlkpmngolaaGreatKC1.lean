import Derived.Test.YtjijdlkpmngolaaGreatKB
import Derived.Test.YtjijdlkpmngolaaGreatKC0
namespace Go.Proofs.YtjijdlkpmngolaaGreat.G
open Go.Gv
set_option maxRecDepth 100000
set_option linter.unusedVariables false
theorem IB{aI N:Nat}(bI:aI≤64):N / 2 ^ (64 - aI)=N*2 ^ aI / 18446744073709551616:=by
 have O:18446744073709551616=2 ^ (64 - aI)*2 ^ aI:=by rw [← Nat.pow_add,show 64 - aI+aI=64 by omega]
 rw [O,Nat.mul_div_mul_right _ _ (Nat.pow_pos (by decide))]
theorem IC{Y:aD}{n aI V aE:Nat}{gQ:List Nat}{aV:U}(h:aV.size≤aE)(x:0 < aI)(bI:aI < 64)(y:gQ.length=n)(z:n < 35184372088820)(i:Words gQ)(j:val gQ*2 ^ aI=V)(A:V < 2 ^ (64*n))
  (post:∀ Z a,a.length=n→Own Z aE a→bC aV Z→val a=V→Y (.slice (some ⟨aE,0,none⟩) n n) Z) :
  ∀ (S R c:Nat) (a:List Nat) (Z:U),R+S=n→a.length=n→Own Z aE a→bC aV Z→a.drop R=gQ.drop R→c < 2 ^ aI→val (a.take R)+c*2 ^ (64*R)=val (gQ.take R)*2 ^ aI→
   lC.bJ.t Y (S+1) (aI:Int) (some ⟨aE,0,none⟩) n n (c:Int) (n:Int) (R:Int) Z:=by
 intro S
 induction S with
 | zero=>
  intro R c a Z a5 b aN cI e d O
  unfold lC.bJ.t lC.b9.t
  refine cC (fun f=>absurd f (by omega)) fun _=>?_
  unfold lC.aZ.t
  have k:R=n:=by omega
  subst k
  rw [List.take_of_length_le (by omega),List.take_of_length_le (by omega),j] at O
  have m:c=0:=by
   rcases Nat.eq_zero_or_pos c with aV | aV
   ·exact aV
   ·have:1*2 ^ (64*R)≤c*2 ^ (64*R):=Nat.mul_le_mul_right _ aV
    omega
  subst m
  exact post Z a b aN cI (by omega)
 | succ S bO=>
  intro R c a Z a5 b aN cI e d O
  have g:a.getD R 0=gQ.getD R 0:=by
   have:=congrArg (fun l=>l.headD 0) e
   simpa [yJ] using this
  have o:=xZ i R
  unfold lC.bJ.t lC.b9.t
  refine cC (fun _=>?_) fun f=>absurd (by omega) f
  have r:cD Z (some ⟨aE,0,none⟩) n a:=aN.rd (by omega)
  have p:c < 18446744073709551616:=Nat.lt_trans d (AP bI)
  refine fP r (aC:=R) rfl b.symm (by omega) ?_
  rw [g]
  refine pD rfl aI (2 ^ aI) (by omega) rfl rfl ?_
  refine yB rfl rfl (Nat.mod_lt _ (by decide)) p ?_
  rw [Nat.or_comm,DE bI d]
  refine fP r (aC:=R) rfl b.symm (by omega) ?_
  rw [g]
  refine cN ((64 - aI:Nat):Int) (by omega) (by omega) (by omega) ?_
  refine lW rfl (64 - aI) (2 ^ (64 - aI)) (by omega) rfl rfl ?_
  rw [IB (by omega)]
  have q:=DG (N:=gQ.getD R 0) bI d
  have s:=DF (S:=aI) o
  refine lX aN (aC:=R) rfl b.symm (by omega) rfl q fun u=>?_
  refine cN ((R+1:Nat):Int) (by omega) (by omega) (by omega) ?_
  refine bO (R+1) _ _ _ (by omega) (by simp [b]) u (b2.aS cI (b2.set _ _ _ _) h) ?_ s ?_
  ·rw [List.drop_set_of_lt (by omega),← List.drop_drop,← List.drop_drop,e]
  ·have v:(a.set R (gQ.getD R 0*2 ^ aI % 18446744073709551616+c)).take (R+1)=a.take R ++ [gQ.getD R 0*2 ^ aI % 18446744073709551616+c]:=oP (by omega)
   rw [v,hI,List.length_take,Nat.min_eq_left (by omega),AS,Nat.add_mul,← O,jQ]
   have w:2 ^ (64*R)*gQ.getD R 0*2 ^ aI=gQ.getD R 0*2 ^ aI*2 ^ (64*R):=by rw [Nat.mul_assoc,Nat.mul_comm]
   rw [w]
   generalize gQ.getD R 0*2 ^ aI=aQ
   generalize 2 ^ (64*R)=P
   simp only [val,Nat.mul_zero,Nat.add_zero]
   have B:aQ*P=aQ % 18446744073709551616*P+aQ / 18446744073709551616*(18446744073709551616*P):=by
    rw [← Nat.mul_assoc,← Nat.add_mul];congr 1;omega
   rw [Nat.mul_add,Nat.mul_comm P,Nat.mul_comm P]
   omega
theorem DY(a3:List Nat)(m:Nat):val (a3 ++ List.replicate m 0)=val a3:=by rw [hI,rV];simp
theorem DZ{a:M}{c l n aI:Nat}{L:List Nat}{Z:U}(r:cD Z a c L)(g:l=L.length)(bI:aI < 64)(h:L.length≤n)(i:n < 35184372088820)(j:val L*2 ^ aI < 2 ^ (64*n)):
  a0 lC.id #[.slice a l c,.int .i64 (aI:Int),.int .i64 (n:Int)] Z fun v aB=>bC Z aB∧∃ aE b,v=.slice (some ⟨aE,0,none⟩) n n∧Z.size≤aE∧Own aB aE b∧b.length=n∧val b=val L*2 ^ aI:=by
 refine lC.ok ?_
 unfold lC.t lC.aM.t
 refine m1 n rfl rfl rfl rfl (by omega) fun aY k b4=>?_
 rw [Int.toNat_natCast]
 refine x8 k (r.aS b4) (by simp) g (Nat.le_refl _) b4 fun m d f=>?_
 have o:List.take (List.replicate n 0).length L ++ List.drop L.length (List.replicate n 0)=L ++ List.replicate (n - L.length) 0:=by
  rw [List.length_replicate,List.take_of_length_le h,List.drop_replicate]
 rw [o] at d
 have e:(L ++ List.replicate (n - L.length) 0).length=n:=by simp;omega
 refine fN (fun p=>?_) fun p=>?_
 ·have:aI=0:=by omega
  subst this
  exact⟨f,Z.size,_,rfl,Nat.le_refl _,d,e,by rw [DY];simp⟩
 ·unfold lC.bF.t
  refine⟨n+1,IC (gQ:=L ++ List.replicate (n - L.length) 0) (Nat.le_refl Z.size) (by omega) bI e i d.words (by rw [DY]) j (fun w b q s u cS=>⟨u,Z.size,b,rfl,Nat.le_refl _,s,q,cS⟩) n 0 0 _ m (by omega) e d f rfl (Nat.pow_pos (by decide)) (by simp [val])⟩
theorem ID{K aE:Nat}(Z:K ≠ aE):fO aE (some ⟨K,0,none⟩):=fun p O=>by cases O;exact Z
def r7(L aP:List Nat):List Nat × List Nat × Int:=if iK L∧iK aP then(if val aP=0 then([],[],4) else(aL (val L / val aP),aL (val L % val aP),0)) else([],[],2)
abbrev tY:iI (List Nat × List Nat × Int):=hY rY rY (mZ .i64)
theorem tY.mk{aV Z:U}{a K:M}{c aT l m:Nat}{L aP:List Nat}{N:Int}(r:cZ dT aV Z a c L)(aI:cZ dT aV Z K aT aP)(b:l=L.length)(d:m=aP.length)(R:In .i64 N):tY aV Z (.tuple #[.slice a l c,.slice K m aT,.int .i64 N]) (L,aP,N):=by
 subst b;subst d
 exact⟨_,_,_,rfl,⟨_,_,rfl,r⟩,⟨_,_,rfl,aI⟩,rfl,R⟩
def k0(aV Z:U)(v:Value)(p:List Nat × List Nat × Int):Prop:=tY aV Z v p∧∀ a l c K m aT N,v=.tuple #[.slice a l c,.slice K m aT,N]→x7 aV.size Z.size Z [(a,l,c),(K,m,aT)] [p.1,p.2.1]
theorem k0.mk{aV Z:U}{a K:M}{c aT l m:Nat}{L aP:List Nat}{N:Int}(S:Nat)(aY:aV.size≤S)(b:S≤Z.size)(aN:(fT aV.size S Z (a,l,c) L∧fT S Z.size Z (K,m,aT) aP)∨(fT S Z.size Z (a,l,c) L∧fT aV.size S Z (K,m,aT) aP))(R:In .i64 N):
  k0 aV Z (.tuple #[.slice a l c,.slice K m aT,.int .i64 N]) (L,aP,N):=by
 refine⟨?_,fun d e c8 f eD g h O=>?_⟩
 ·rcases aN with ⟨p,aE⟩ | ⟨p,aE⟩
  ·exact tY.mk (fT.j0 p (Nat.le_refl _)) (fT.j0 aE aY) p.1 aE.1 R
  ·exact tY.mk (fT.j0 p aY) (fT.j0 aE (Nat.le_refl _)) p.1 aE.1 R
 ·simp only [Value.tuple.injEq,Array.mk.injEq,List.cons.injEq,Value.slice.injEq,and_true] at O
  obtain⟨⟨rfl,rfl,rfl⟩,⟨rfl,rfl,rfl⟩,rfl⟩:=O
  exact x7.pair aY b aN
theorem k0.none{aV Z:U}{N:Int}(S:aV.size≤Z.size)(R:In .i64 N:=by decide):k0 aV Z (.tuple #[.slice Option.none 0 0,.slice Option.none 0 0,.int .i64 N]) ([],[],N):=
 k0.mk aV.size (Nat.le_refl _) S (Or.inl ⟨fT.nil _ _ _,fT.nil _ _ _⟩) R
theorem IE{aP:List Nat}(f:dI aP=aP)(Z:aP ≠ []):aP.getD (aP.length - 1) 0 ≠ 0:=(tS.mp f).resolve_left Z
theorem IF{a K:M}{c aT l m:Nat}{L aP:List Nat}{Z:U}(r:cD Z a c L)(aI:cD Z K aT aP)(NH:l=L.length)(NI:m=aP.length):
  a0 l0.id #[.slice a l c,.slice K m aT] Z fun v aB=>bC Z aB∧k0 Z aB v (r7 L aP):=by
 subst NH;subst NI
 refine l0.ok ?_
 unfold l0.t l0.aM.t
 refine b5 (mL r rfl) fun v aY ⟨e,f⟩=>?_
 subst e;subst f
 refine cY rfl ?_
 refine jP (fun x=>⟨bC.refl _,?_⟩) fun x=>?_
 ·unfold r7;rw [if_neg (fun j=>of_decide_eq_false x j.1)];exact k0.none (Nat.le_refl _)
 refine b5 (mL aI rfl) fun v Om ⟨e,f⟩=>?_
 subst e;subst f
 refine cY rfl ?_
 refine jP (fun y=>⟨bC.refl _,?_⟩) fun y=>?_
 ·unfold r7;rw [if_neg (fun j=>of_decide_eq_false y j.2)];exact k0.none (Nat.le_refl _)
 have k:=of_decide_eq_true x
 have q:=of_decide_eq_true y
 have s:=k.aL r.words
 have NJ:=q.aL aI.words
 have I:=k.1;have NK:=q.1
 unfold l0.aZ.t
 unfold r7
 rw [if_pos ⟨k,q⟩]
 refine fN (fun aV=>⟨bC.refl _,?_⟩) fun aV=>?_
 ·have:aP=[]:=List.length_eq_zero_iff.mp (by omega)
  subst this
  rw [if_pos (show val []=0 from rfl)];exact k0.none (Nat.le_refl _)
 have J:aP ≠ []:=fun O=>aV (by subst O;rfl)
 have z:=IE q.2 J
 have NL:0 < aP.length:=List.length_pos_iff.mpr J
 have u:=yQ aI.words (m:=aP.length - 1) (by omega)
 have P:2 ^ (64*(aP.length - 1))≤val aP:=by
  refine Nat.le_of_not_lt fun j=>?_
  rw [Nat.div_eq_of_lt j] at u
  exact z u.symm
 have Q:val aP ≠ 0:=by
  have:0 < 2 ^ (64*(aP.length - 1)):=Nat.pow_pos (by decide)
  omega
 rw [if_neg Q]
 refine b5 (AN r aI rfl rfl) fun v On ⟨e,f⟩=>?_
 subst e;subst f
 refine bR rfl ?_
 refine cC (fun g=>?_) fun g=>?_
 ·have T:val L < val aP:=by unfold fD at g;split at g <;> (try split at g) <;> omega
  refine b5 (AD r rfl) fun v A ⟨o,d⟩=>?_
  rw [k.fC r.words] at d
  refine d.hZ fun dZ eE B _=>⟨o,?_⟩
  rw [Nat.div_eq_of_lt T,Nat.mod_eq_of_lt T,eK,s]
  exact k0.mk _ (Nat.le_refl _) o.le (Or.inl ⟨fT.nil _ _ _,fT.oM B rfl (Nat.le_refl _) (Nat.le_refl _)⟩) (by decide)
 have NM:val aP≤val L:=by unfold fD at g;split at g <;> (try split at g) <;> omega
 refine fN (fun aY=>?_) fun aY=>?_
 ·have NN:aP.length=1:=by omega
  have NO:aP.getD 0 0=val aP:=by
   rw [NN] at u
   simpa using u.symm
  have V:=aI.word 0
  refine fP aI (aC:=0) rfl rfl (by omega) ?_
  rw [NO] at V ⊢
  refine b5 (DP r rfl V) fun v A ⟨o,d⟩=>?_
  have Oo:=Nat.mod_lt (val L) (show 0 < val aP by omega)
  have NP:r5 L (val aP)=(aL (val L / val aP),((val L % val aP:Nat):Int),0):=by unfold r5;rw [if_pos k,if_neg Q]
  rw [NP] at d
  refine d.elim fun dZ eE B=>?_
  refine b5 (DL (aA:=val L % val aP) (by omega) A) fun v NQ ⟨i,NR⟩=>?_
  refine tN.hZ NR fun bY bW NS=>?_
  exact⟨o.trans i,k0.mk _ o.le i.le (Or.inl ⟨(fT.oM B rfl (Nat.le_refl _) (Nat.le_refl _)).aS i,fT.oM NS rfl (Nat.le_refl _) (Nat.le_refl _)⟩) (by decide)⟩
 refine cN ((aP.length - 1:Nat):Int) (by omega) (by omega) (by omega) ?_
 refine fP aI (aC:=aP.length - 1) rfl rfl (by omega) ?_
 have NT:=aI.word (aP.length - 1)
 refine b5 (DM NT _) fun v A ⟨e,f⟩=>?_
 subst e;subst f
 refine bR rfl ?_
 have Oq:=pA z
 have Ot:=vL aI.words (n:=aP.length - 1) (by omega) z
 obtain⟨b,NU⟩:∃ b,b=64 - dV (aP.getD (aP.length - 1) 0):=⟨_,rfl⟩
 rw [← NU]
 have Nv:b < 64:=by omega
 have Ou:(2:Nat) ^ 64=18446744073709551616:=by decide
 have Ov:dV (aP.getD (aP.length - 1) 0)≤64:=h7.mpr (by omega)
 refine cN ((L.length+1:Nat):Int) (by omega) (by omega) (by omega) ?_
 have NV:2 ^ b≤2 ^ 64:=Nat.pow_le_pow_right (by decide) (by omega)
 have h:0 < 2 ^ b:=Nat.pow_pos (by decide)
 have Nw:=hS r.words
 have NW:val L*2 ^ b < 2 ^ (64*(L.length+1)):=by
  rw [Nat.mul_add,Nat.pow_add,Nat.mul_one]
  calc val L*2 ^ b < 2 ^ (64*L.length)*2 ^ b:=Nat.mul_lt_mul_of_pos_right Nw h
   _≤_:=Nat.mul_le_mul_left _ NV
 have Nx:val aP*2 ^ b < 2 ^ (64*aP.length):=by
  have aY:val aP < 2 ^ (64*(aP.length - 1)+dV (aP.getD (aP.length - 1) 0)):=h7.mp (by omega)
  have e:64*aP.length=64*(aP.length - 1)+dV (aP.getD (aP.length - 1) 0)+b:=by omega
  rw [e,Nat.pow_add]
  exact Nat.mul_lt_mul_of_pos_right aY h
 refine b5 (DZ (n:=L.length+1) r rfl Nv (by omega) (by omega) NW) fun v NQ ⟨i,Ny,NX,cS,NY,C,NZ,pE⟩=>?_
 subst cS
 refine bD rfl ?_
 refine b5 (DZ (n:=aP.length) (aI.aS i) rfl Nv (Nat.le_refl _) (by omega) Nx) fun v N0 ⟨Nz,NA,bV,cS,Ow,NB,N1,D⟩=>?_
 subst cS
 refine bD rfl ?_
 have N2:bV.getD (aP.length - 1) 0 ≠ 0:=by
  rw [← yQ NB.words (m:=aP.length - 1) (by omega),D]
  have aY:2 ^ (64*(aP.length - 1))≤val aP*2 ^ b:=Nat.le_trans P (Nat.le_mul_of_pos_right _ h)
  have:=Nat.div_pos aY (Nat.pow_pos (by decide))
  omega
 have Ox:aP.length≤L.length:=by
  rw [← s,← NJ];exact mY NM
 have N3:val (NX.drop (L.length+1 - aP.length)) < val bV:=by
  rw [kJ C.words,pE,D,Nat.div_lt_iff_lt_mul (Nat.pow_pos (by decide))]
  calc val L*2 ^ b < 2 ^ (64*L.length)*2 ^ b:=Nat.mul_lt_mul_of_pos_right Nw h
   _=2 ^ (64*(aP.length - 1))*2 ^ b*2 ^ (64*(L.length+1 - aP.length)):=by
    rw [← Nat.pow_add,← Nat.pow_add,← Nat.pow_add];congr 1;omega
   _≤_:=Nat.mul_le_mul_right _ (Nat.mul_le_mul_right _ P)
 have Oy:=C.lt
 have N4:cD N0 (some ⟨NA,0,none⟩) aP.length bV:=NB.rd (by omega)
 have N5:NA ≠ Ny:=by omega
 refine b5 (IA N4 N1 rfl (ID N5) NL N2 (by omega) (Nat.le_refl _) (by omega) NZ (C.aS Nz).Ax N3) fun v NC ⟨N6,ND,fE,cS,Oz,N7,NF,N8,N9,OA,p,eq⟩=>?_
 subst cS
 refine bD rfl ?_
 rw [pE,D] at p eq
 rw [Nat.mul_mod_mul_right] at p
 rw [Nat.mul_div_mul_right _ _ h] at eq
 have E:val ND < 2 ^ (64*aP.length):=by
  rw [p]
  exact Nat.lt_trans (Nat.mul_lt_mul_of_pos_right (Nat.mod_lt _ (by omega)) h) Nx
 have Oa:=DX (Nat.le_refl _) E NF.ok
 refine tQ rfl (by omega) ?_
 have Ob:cD NC (some ⟨Ny,0,none⟩) (L.length+1) (ND.take aP.length):=((NF.qC (c:=L.length+1) (by show _≤35184372088828;omega) (by omega)).vM).take _
 refine b5 (AD Ob (by rw [List.length_take];omega)) fun v OB ⟨w,d⟩=>?_
 rw [Oa.2,p] at d
 have OC:val L % val aP < val aP:=Nat.mod_lt _ (by omega)
 have NG:(aL (val L % val aP*2 ^ b)).length≤8192:=Nat.le_trans (gE.mpr (by rw [p] at E;exact E)) NK
 have Oc:fC (val L % val aP*2 ^ b)=(aL (val L % val aP*2 ^ b),0):=by unfold fC;rw [if_pos NG]
 rw [Oc] at d
 refine d.elim fun bS bU Od=>?_
 refine b5 (DJ Od rfl (by omega)) fun v Oe ⟨F,d⟩=>?_
 have Of:(aL (val L % val aP)).length≤8192:=Nat.le_trans (mY (Nat.mod_le _ _)) (by rw [s];exact I)
 have Og:r4 (aL (val L % val aP*2 ^ b)) (b:Int)=(aL (val L % val aP),0):=by
  unfold r4
  rw [if_neg (by omega),if_pos ⟨NG,o9 _⟩,eV,Int.toNat_natCast,Nat.mul_div_cancel _ h]
  unfold fC;rw [if_pos Of]
 rw [Og] at d
 refine d.hZ fun OD OE Oh _=>?_
 have Oi:cD Oe (some ⟨N6,0,none⟩) (L.length+1 - aP.length) fE:=((N8.qC (c:=L.length+1 - aP.length) (by show _≤35184372088828;omega) (by omega)).vM).aS (w.trans F)
 refine b5 (AD Oi N7.symm) fun v fX ⟨G,d⟩=>?_
 have Oj:(aL (val L / val aP)).length≤8192:=Nat.le_trans (mY (Nat.div_le_self _ _)) (by rw [s];exact I)
 have Ok:fC (val fE)=(aL (val L / val aP),0):=by rw [eq];unfold fC;rw [if_pos Oj]
 rw [Ok] at d
 refine d.hZ fun OF OG Ol _=>?_
 have H:bC _ NC:=N9.aS (i.trans Nz) NY
 exact⟨H.trans (w.trans (F.trans G)),k0.mk _ (H.trans (w.trans F)).le G.le (Or.inr ⟨fT.oM Ol rfl (Nat.le_refl _) (Nat.le_refl _),(fT.oM Oh rfl (H.trans w).le (Nat.le_refl _)).aS G⟩) (by decide)⟩
theorem IG{a K:M}{c aT l m:Nat}{L aP:List Nat}{Z:U}(r:cD Z a c L)(aI:cD Z K aT aP)(b:l=L.length)(d:m=aP.length):
  a0 l0.id #[.slice a l c,.slice K m aT] Z fun v aB=>bC Z aB∧tY Z aB v (r7 L aP):=
 b5 (IF r aI b d) fun v aB ⟨S,t⟩=>⟨S,t.1⟩
def e5(n:Nat):Prop:=(aL n).length≤8192
theorem IH{n S m:Nat}(Z:n < 2 ^ S)(a:S≤64*m):(aL n).length≤m:=
 gE.mpr (Nat.lt_of_lt_of_le Z (Nat.pow_le_pow_right (by decide) a))
theorem iY{n S:Nat}(Z:n < 2 ^ S)(a:S≤524288):e5 n:=IH Z (m:=8192) a
theorem jK{n m:Nat}(Z:n≤m)(aI:e5 m):e5 n:=Nat.le_trans (mY Z) aI
theorem nS{n:Nat}(Z:n < 18446744073709551616):e5 n:=iY (S:=64) (by rw [show(2:Nat) ^ 64=18446744073709551616 by decide];exact Z) (by omega)
theorem r8{n:Nat}(aI:e5 n):fC n=(aL n,0):=if_pos aI
theorem mN{n:Nat}(aI:e5 n):iK (aL n):=⟨aI,o9 n⟩
section
variable {a K:M} {c aT l m N aQ:Nat} {Z:U}
theorem m6{aF:M→Nat→Nat→U→Prop}(b:N < 18446744073709551616)
  (g:∀ a c aB,bC Z aB→cZ dT Z aB a c (aL N)→aF a (aL N).length c aB) :
  a0 jT.id #[.int .u64 (N:Int)] Z fun v aB=>aU v fun a l c=>aF a l c aB:=by
 refine b5 (DL b Z) fun v aB ⟨S,aI⟩=>?_
 exact aI.hZ fun a c r=>g a c aB S r
theorem r9{aF:M→Nat→Nat→Int→U→Prop}(r:cD Z a c (aL N))(b:l=(aL N).length)(aI:cD Z K aT (aL aQ))(d:m=(aL aQ).length)(gW:e5 (N+aQ))
  (g:∀ a c aB,bC Z aB→cZ dT Z aB a c (aL (N+aQ))→aF a (aL (N+aQ)).length c 0 aB) :
  a0 iS.id #[.slice a l c,.slice K m aT] Z fun v aB=>c1 v fun aQ=>cW aQ fun e eO=>aU e fun a l c=>cW eO fun f h=>aW .i64 f fun N=>b6 h (aF a l c N aB):=by
 refine b5 (H0 r aI b d) fun v aB ⟨S,t⟩=>?_
 have O:tW (aL N) (aL aQ)=(aL (N+aQ),0):=by
  unfold tW;rw [if_pos ⟨mN (jK (by omega) gW),mN (jK (by omega) gW)⟩,eV,eV,r8 gW]
 rw [O] at t
 exact t.hZ fun a c r R=>g a c aB S r
theorem sA{aF:M→Nat→Nat→Int→U→Prop}(r:cD Z a c (aL N))(b:l=(aL N).length)(aI:cD Z K aT (aL aQ))(d:m=(aL aQ).length)(gF:e5 N)(e:e5 aQ)
  (g:∀ a c aB,bC Z aB→cZ dT Z aB a c (aL (N - aQ))→aF a (aL (N - aQ)).length c (if N < aQ then 3 else 0) aB) :
  a0 jH.id #[.slice a l c,.slice K m aT] Z fun v aB=>c1 v fun aQ=>cW aQ fun f eO=>aU f fun a l c=>cW eO fun h i=>aW .i64 h fun N=>b6 i (aF a l c N aB):=by
 refine b5 (H3 r aI b d) fun v aB ⟨S,t⟩=>?_
 have O:tX (aL N) (aL aQ)=(aL (N - aQ),if N < aQ then 3 else 0):=by
  unfold tX;rw [if_pos ⟨mN gF,mN e⟩,eV,eV]
  split
  ·rw [show N - aQ=0 by omega,eK]
  ·exact r8 (jK (by omega) gF)
 rw [O] at t
 exact t.hZ fun a c r R=>g a c aB S r
theorem sB{aF:M→Nat→Nat→Int→U→Prop}{aA:Nat}(r:cD Z a c (aL N))(b:l=(aL N).length)(d:aA < 18446744073709551616)(gF:e5 N)(gW:e5 (N*aA))
  (g:∀ a c aB,bC Z aB→cZ dT Z aB a c (aL (N*aA))→aF a (aL (N*aA)).length c 0 aB) :
  a0 jI.id #[.slice a l c,.int .u64 (aA:Int)] Z fun v aB=>c1 v fun aQ=>cW aQ fun e eO=>aU e fun a l c=>cW eO fun f h=>aW .i64 f fun N=>b6 h (aF a l c N aB):=by
 refine b5 (Ig r b d) fun v aB ⟨S,t⟩=>?_
 have O:yL (aL N) aA=(aL (N*aA),0):=by unfold yL;rw [if_pos (mN gF),eV,r8 gW]
 rw [O] at t
 exact t.hZ fun a c r R=>g a c aB S r
theorem AT{aF:M→Nat→Nat→Int→Int→U→Prop}{aA:Nat}(r:cD Z a c (aL N))(b:l=(aL N).length)(aV:aA ≠ 0)(d:aA < 18446744073709551616)(gF:e5 N)
  (g:∀ a c aB,bC Z aB→cZ dT Z aB a c (aL (N / aA))→aF a (aL (N / aA)).length c ((N % aA:Nat):Int) 0 aB) :
  a0 jU.id #[.slice a l c,.int .u64 (aA:Int)] Z fun v aB=>c1 v fun aQ=>cW aQ fun e eO=>aU e fun a l c=>cW eO fun f h=>aW .u64 f fun N=>cW h fun i j=>aW .i64 i fun bM=>b6 j (aF a l c N bM aB):=by
 refine b5 (DP r b d) fun v aB ⟨S,t⟩=>?_
 have O:r5 (aL N) aA=(aL (N / aA),((N % aA:Nat):Int),0):=by unfold r5;rw [if_pos (mN gF),if_neg aV,eV]
 rw [O] at t
 exact t.elim fun a c r=>g a c aB S r
theorem vW{aF:M→Nat→Nat→Int→U→Prop}{n:Nat}{R:Int}(a5:R=(n:Int))(r:cD Z a c (aL N))(b:l=(aL N).length)(h:n < 9223372036854775808)(gF:e5 N)(gW:e5 (N*2 ^ n))
  (g:∀ a c aB,bC Z aB→cZ dT Z aB a c (aL (N*2 ^ n))→aF a (aL (N*2 ^ n)).length c 0 aB) :
  a0 j5.id #[.slice a l c,.int .i64 R] Z fun v aB=>c1 v fun aQ=>cW aQ fun d eO=>aU d fun a l c=>cW eO fun e f=>aW .i64 e fun N=>b6 f (aF a l c N aB):=by
 subst a5
 refine b5 (H6 r b (by omega)) fun v aB ⟨S,t⟩=>?_
 have O:vS (aL N) (n:Int)=(aL (N*2 ^ n),0):=by unfold vS;rw [if_neg (by omega),if_pos (mN gF),eV,Int.toNat_natCast,r8 gW]
 rw [O] at t
 exact t.hZ fun a c r R=>g a c aB S r
theorem AU{aF:M→Nat→Nat→Int→U→Prop}{n:Nat}{R:Int}(a5:R=(n:Int))(r:cD Z a c (aL N))(b:l=(aL N).length)(h:n < 9223372036854775808)(gF:e5 N)
  (g:∀ a c aB,bC Z aB→cZ dT Z aB a c (aL (N / 2 ^ n))→aF a (aL (N / 2 ^ n)).length c 0 aB) :
  a0 kD.id #[.slice a l c,.int .i64 R] Z fun v aB=>c1 v fun aQ=>cW aQ fun d eO=>aU d fun a l c=>cW eO fun e f=>aW .i64 e fun N=>b6 f (aF a l c N aB):=by
 subst a5
 refine b5 (DJ r b (by omega)) fun v aB ⟨S,t⟩=>?_
 have O:r4 (aL N) (n:Int)=(aL (N / 2 ^ n),0):=by unfold r4;rw [if_neg (by omega),if_pos (mN gF),eV,Int.toNat_natCast,r8 (jK (Nat.div_le_self _ _) gF)]
 rw [O] at t
 exact t.hZ fun a c r R=>g a c aB S r
theorem D0{aF:M→Nat→Nat→Int→U→Prop}{n:Nat}{R:Int}(a5:R=(n:Int))(r:cD Z a c (aL N))(b:l=(aL N).length)(h:n < 9223372036854775808)(gF:e5 N)
  (g:∀ a c aB,bC Z aB→cZ dT Z aB a c (aL (N % 2 ^ n))→aF a (aL (N % 2 ^ n)).length c 0 aB) :
  a0 nP.id #[.slice a l c,.int .i64 R] Z fun v aB=>c1 v fun aQ=>cW aQ fun d eO=>aU d fun a l c=>cW eO fun e f=>aW .i64 e fun N=>b6 f (aF a l c N aB):=by
 subst a5
 refine b5 (Ib r b (by omega)) fun v aB ⟨S,t⟩=>?_
 have O:vT (aL N) (n:Int)=(aL (N % 2 ^ n),0):=by unfold vT;rw [if_neg (by omega),if_pos (mN gF),eV,Int.toNat_natCast,r8 (jK (Nat.mod_le _ _) gF)]
 rw [O] at t
 exact t.hZ fun a c r R=>g a c aB S r
theorem pH{aF:Int→U→Prop}(r:cD Z a c (aL N))(b:l=(aL N).length)(aI:cD Z K aT (aL aQ))(d:m=(aL aQ).length)(g:aF (fD N aQ) Z):
  a0 iL.id #[.slice a l c,.slice K m aT] Z fun v aB=>aW .i64 v fun N=>aF N aB:=by
 refine b5 (AN r aI b d) fun v aB ⟨e,f⟩=>?_
 subst e;subst f
 rw [eV,eV];exact g
theorem AV{aF:Int→U→Prop}(r:cD Z a c (aL N))(b:l=(aL N).length)(g:aF ((dV N:Nat):Int) Z):
  a0 nK.id #[.slice a l c] Z fun v aB=>aW .i64 v fun N=>aF N aB:=by
 refine b5 (Dh r b) fun v aB ⟨d,e⟩=>?_
 subst d;subst e
 rw [eV];exact g
theorem vX{aF:M→Nat→Nat→M→Nat→Nat→Int→U→Prop}(r:cD Z a c (aL N))(b:l=(aL N).length)(aI:cD Z K aT (aL aQ))(d:m=(aL aQ).length)(aV:aQ ≠ 0)(gF:e5 N)(e:e5 aQ)
  (g:∀ a c K aT aB,bC Z aB→cZ dT Z aB a c (aL (N / aQ))→cZ dT Z aB K aT (aL (N % aQ))→aF a (aL (N / aQ)).length c K (aL (N % aQ)).length aT 0 aB) :
  a0 l0.id #[.slice a l c,.slice K m aT] Z fun v aB=>c1 v fun aQ=>cW aQ fun f eO=>aU f fun a l c=>cW eO fun h i=>aU h fun K m aT=>cW i fun j k=>aW .i64 j fun bM=>b6 k (aF a l c K m aT bM aB):=by
 refine b5 (IG r aI b d) fun v aB ⟨S,t⟩=>?_
 have O:r7 (aL N) (aL aQ)=(aL (N / aQ),aL (N % aQ),0):=by unfold r7;rw [if_pos ⟨mN gF,mN e⟩,eV,eV,if_neg aV]
 rw [O] at t
 obtain⟨_,_,_,n,⟨a,c,o,p⟩,⟨K,aT,q,s⟩,u,_⟩:=t
 subst n;subst o;subst q;subst u
 exact g a c K aT aB S p s
end
def iZ(n:Nat):Prop:=(D.aL n).length≤1000000
theorem vY{n S m:Nat}(Z:n < 2 ^ S)(a:S≤32*m):(D.aL n).length≤m:=Ay.mpr (Nat.lt_of_lt_of_le Z (Nat.pow_le_pow_right (by decide) a))
theorem D1{n S:Nat}(Z:n < 2 ^ S)(a:S≤32000000):iZ n:=vY Z a
theorem D2{n m:Nat}(Z:n≤m)(aI:iZ m):iZ n:=Nat.le_trans (D.mY Z) aI
theorem oQ{n:Nat}(aI:e5 n):iZ n:=Nat.le_trans ((rZ n).mpr aI) (by decide)
theorem yR{n:Nat}(Z:n < 18446744073709551616):iZ n:=oQ (nS Z)
theorem iZ.l{n:Nat}(aI:iZ n):(D.aL n).length≤1099511627770:=Nat.le_trans aI (by decide)
section
variable {a K:M} {c aT l m N aQ:Nat} {Z:U}
theorem tZ{aF:M→Nat→Nat→U→Prop}{R:Int}(a5:R=(N:Int))(b:N < 18446744073709551616)
  (g:∀ a c aB,bC Z aB→cZ b7 Z aB a c (D.aL N)→aF a (D.aL N).length c aB) :
  a0 hM.id #[.int .u64 R] Z fun v aB=>aU v fun a l c=>aF a l c aB:=by
 refine b5 (m4 a5 b Z) fun v aB ⟨S,aI⟩=>?_
 exact aI.elim fun a c r=>g a c aB S r
theorem II{aF:M→Nat→Nat→U→Prop}(r:cL b7 Z a c (D.aL N))(b:l=(D.aL N).length)
  (g:∀ a c aB,bC Z aB→cZ dT Z aB a c (aL N)→aF a (aL N).length c aB) :
  a0 kX.id #[.slice a l c] Z fun v aB=>aU v fun a l c=>aF a l c aB:=by
 refine b5 (Hw r b) fun v aB ⟨S,aI⟩=>?_
 obtain⟨a,c,O,r⟩:=aI
 subst O;exact bD rfl (g a c aB S r)
theorem yS{aF:M→Nat→Nat→U→Prop}(r:cL b7 Z a c (D.aL N))(b:l=(D.aL N).length)(aI:cL b7 Z K aT (D.aL aQ))(d:m=(D.aL aQ).length)(e:iZ N)(f:iZ aQ)
  (g:∀ a c aB,bC Z aB→cZ b7 Z aB a c (D.aL (N+aQ))→aF a (D.aL (N+aQ)).length c aB) :
  a0 g8.id #[.slice a l c,.slice K m aT] Z fun v aB=>aU v fun a l c=>aF a l c aB:=by
 refine b5 (AH r aI b d (Nat.le_trans e.l (by decide)) (Nat.le_trans f.l (by decide))) fun v aB ⟨S,aI⟩=>?_
 exact aI.elim fun a c r=>g a c aB S r
theorem yT{aF:M→Nat→Nat→U→Prop}(r:cL b7 Z a c (D.aL N))(b:l=(D.aL N).length)(aI:cL b7 Z K aT (D.aL aQ))(d:m=(D.aL aQ).length)
  (g:∀ a c aB,bC Z aB→cZ b7 Z aB a c (D.aL (N - aQ))→aF a (D.aL (N - aQ)).length c aB) :
  a0 hN.id #[.slice a l c,.slice K m aT] Z fun v aB=>aU v fun a l c=>aF a l c aB:=by
 refine b5 (Du r aI b d) fun v aB ⟨S,aI⟩=>?_
 exact aI.elim fun a c r=>g a c aB S r
theorem uA{aF:Int→U→Prop}(r:cL b7 Z a c (D.aL N))(b:l=(D.aL N).length)(aI:cL b7 Z K aT (D.aL aQ))(d:m=(D.aL aQ).length)(g:aF (fD N aQ) Z):
  a0 h8.id #[.slice a l c,.slice K m aT] Z fun v aB=>aW .i64 v fun N=>aF N aB:=by
 refine b5 (yC r aI b d) fun v aB ⟨e,f⟩=>?_
 subst e;subst f;exact g
theorem AW{aF:M→Nat→Nat→U→Prop}{n:Nat}{R:Int}(a5:R=(n:Int))(r:cL b7 Z a c (D.aL N))(b:l=(D.aL N).length)(d:n < 9223372036854775808)
  (g:∀ a c aB,bC Z aB→cZ b7 Z aB a c (D.aL (N / 2 ^ n))→aF a (D.aL (N / 2 ^ n)).length c aB) :
  a0 kL.id #[.slice a l c,.int .i64 R] Z fun v aB=>aU v fun a l c=>aF a l c aB:=by
 refine b5 (AM r b a5 d) fun v aB ⟨S,aI⟩=>?_
 exact aI.elim fun a c r=>g a c aB S r
theorem IJ{aF:M→Nat→Nat→U→Prop}{n:Nat}{R:Int}(a5:R=(n:Int))(r:cL b7 Z a c (D.aL N))(b:l=(D.aL N).length)(d:n≤35184372088832)(e:iZ N)
  (g:∀ a c aB,bC Z aB→cZ b7 Z aB a c (D.aL (N*2 ^ n))→aF a (D.aL (N*2 ^ n)).length c aB) :
  a0 kB.id #[.slice a l c,.int .i64 R] Z fun v aB=>aU v fun a l c=>aF a l c aB:=by
 refine b5 (yF r b a5 d (Nat.le_trans e.l (by decide))) fun v aB ⟨S,aI⟩=>?_
 exact aI.elim fun a c r=>g a c aB S r
theorem yU{aF:M→Nat→Nat→U→Prop}{aA:Nat}{R:Int}(r:cL b7 Z a c (D.aL N))(b:l=(D.aL N).length)(a5:R=(aA:Int))(d:aA < 4294967296)(e:iZ N)
  (g:∀ a c aB,bC Z aB→cZ b7 Z aB a c (D.aL (N*aA))→aF a (D.aL (N*aA)).length c aB) :
  a0 j4.id #[.slice a l c,.int .u32 R,.int .u32 0] Z fun v aB=>aU v fun a l c=>aF a l c aB:=by
 refine b5 (Dv r b a5 (bM:=0) rfl d (by decide) (Nat.le_trans e.l (by decide))) fun v aB ⟨S,aI⟩=>?_
 rw [D.eV,Nat.add_zero] at aI
 exact aI.elim fun a c r=>g a c aB S r
theorem uB{aF:M→Nat→Nat→Int→U→Prop}{aA:Nat}{R:Int}(r:cL b7 Z a c (D.aL N))(b:l=(D.aL N).length)(a5:R=(aA:Int))(d:aA < 4294967296)(e:0 < aA)
  (g:∀ a c aB,bC Z aB→cZ b7 Z aB a c (D.aL (N / aA))→aF a (D.aL (N / aA)).length c ((N % aA:Nat):Int) aB) :
  a0 jC.id #[.slice a l c,.int .u32 R] Z fun v aB=>c1 v fun aQ=>cW aQ fun f eO=>aU f fun a l c=>cW eO fun h i=>aW .u32 h fun bM=>b6 i (aF a l c bM aB):=by
 refine b5 (AJ r b a5 d e) fun v aB ⟨S,aJ,aG,O,aI⟩=>?_
 rw [D.eV] at O aI
 subst O
 exact g7 rfl (cK (bD rfl (cK (bR rfl (dY (g aJ aG aB S aI))))))
theorem IK{aF:Int→U→Prop}(r:cL b7 Z a c (D.aL N))(b:l=(D.aL N).length)(g:aF ((dV N:Nat):Int) Z):
  a0 kA.id #[.slice a l c] Z fun v aB=>aW .i64 v fun N=>aF N aB:=by
 refine b5 (HB r b) fun v aB ⟨d,e⟩=>?_
 subst d;subst e;exact bR rfl g
end
theorem D3(L:List Nat):L.take (dI L).length=dI L:=by
 induction L with
 | nil=>rfl
 | cons N L bO=>
  simp only [dI]
  split
  ·rfl
  ·simp [bO]
theorem IL{Y:aD}{a:M}{c l:Nat}{L:List Nat}{Z:U}(r:cD Z a c L)(e:l=L.length)(g:Y (.slice a (dI L).length (dI L).length) Z):
  ∀ n:Nat,n≤L.length→dI (L.take n)=dI L→lD.cJ.t Y (n+1) a l c (n:Int) Z:=by
 have aY:=r.len
 intro n
 have fin:∀ n:Nat,n≤L.length→dI L=L.take n→lD.aZ.t Y a l c (n:Int) Z:=by
  intro n b O
  refine Aj rfl rfl (Nat.le_trans b r.cap) ?_
  have f:(dI L).length=n:=by rw [O,List.length_take];omega
  rw [← f];exact g
 induction n with
 | zero=>
  intro b d
  unfold lD.cJ.t lD.cF.t
  refine cC (fun Z=>absurd Z (by omega)) fun _=>fin 0 b ?_
  rw [← d];rfl
 | succ n bO=>
  intro b d
  refine cC (fun _=>?_) fun Z=>absurd (by omega) Z
  refine cN (n:Int) (by omega) (by omega) (by omega) ?_
  refine fP r (aC:=n) rfl e (by omega) ?_
  have es:=k9 (L:=L) (n:=n) (by omega)
  refine fN (fun h=>?_) fun h=>?_
  ·refine cN (n:Int) (by omega) (by omega) (by omega) ?_
   refine bO (by omega) ?_
   rw [← d,es,show L.getD n 0=0 by omega,tR]
  ·refine fin (n+1) b ?_
   rw [← d,es,vQ _ (by omega)]
theorem yV{Z:U}{a:M}{c:Nat}{L:List Nat}(r:cD Z a c L):cD Z a (dI L).length (dI L):=by
 have:=r.take (dI L).length
 rw [D3] at this;exact this.qR (Nat.le_refl _)
theorem vZ{a:M}{c l:Nat}{L:List Nat}{Z:U}(r:cD Z a c L)(b:l=L.length):
  a0 lD.id #[.slice a l c] Z fun v aB=>aB=Z∧v=.slice a (dI L).length (dI L).length:=by
 refine lD.ok ?_
 refine⟨L.length+1,?_⟩
 subst b
 exact IL r rfl ⟨rfl,rfl⟩ L.length (Nat.le_refl _) (by rw [List.take_length])
theorem IM{Y:aD}{c n T aE:Nat}{aV:U}(f:T < 2 ^ (64*n))(g:∀ aB a3,b2 aE aV aB→e6 aB aE a3→a3.length=n→val a3=T→Y (.tuple #[]) aB)(j:n≤35184372088828):
  ∀ (S R a:Nat) (a3:List Nat) (Z:U),R+S=n→a≤1→a3.length=n→e6 Z aE a3→b2 aE aV Z→val a3+a*2 ^ (64*R)=T→
   jD.cJ.t Y (S+1) (some ⟨aE,0,none⟩) n c (a:Int) (R:Int) Z:=by
 intro S
 induction S with
 | zero=>
  intro R a a3 Z a5 e b aN cI O
  unfold jD.cJ.t jD.cF.t
  refine cC (fun d=>?_) fun d=>?_
  ·have:a=1:=by omega
   subst this
   have:=Ak (a3:=a3) (T:=T) (R:=R) rfl (by omega) (by rw [b];exact f)
   omega
  ·have:a=0:=by omega
   subst this
   exact g _ _ cI aN b (by omega)
 | succ S bO=>
  intro R a a3 Z a5 e b aN cI O
  unfold jD.cJ.t jD.cF.t
  refine cC (fun d=>?_) fun d=>?_
  ·have k:=aN.word R
   refine fP (aN.rd (c:=n) (by omega)) (aC:=R) rfl (by omega) (by omega) ?_
   refine oO (K:=0) rfl rfl rfl e ?_
   refine tM aN (aC:=R) rfl b.symm (by omega) rfl (by omega) fun h i=>?_
   refine cN ((R+1:Nat):Int) (by omega) (by omega) (by omega) ?_
   refine bO (R+1) _ _ _ (by omega) (by omega) (by simp [b]) h (cI.trans i) ?_
   have bI:=k7 (a3:=a3) (aC:=R) (v:=(a3.getD R 0+0+a) % 18446744073709551616) (by omega)
   have:=x0 (bA:=18446744073709551616) (p:=0) (c:=a) (r:=0) (jF:=(a3.getD R 0+0+a) % 18446744073709551616) (c8:=(a3.getD R 0+0+a) / 18446744073709551616) (by omega) bI
   rw [jQ]
   simp only [Nat.zero_add,Nat.mul_zero] at this ⊢
   omega
  ·have:a=0:=by omega
   subst this
   exact g _ _ cI aN b (by omega)
theorem IN{Y:aD}{a:M}{c aG l n at_ T aE:Nat}{b:List Nat}{aV:U}(r:cD aV a aG b)(j:l=b.length)(k:b=[]∨fO aE a)(m:T < 2 ^ (64*n))(x:at_+b.length≤n)(o:n≤35184372088828)
  (g:∀ aB a3,b2 aE aV aB→e6 aB aE a3→a3.length=n→val a3=T→Y (.tuple #[]) aB) :
  ∀ (S R d:Nat) (a3:List Nat) (Z:U),R+S=b.length→d≤1→a3.length=n→e6 Z aE a3→b2 aE aV Z→val a3+(val (b.drop R)+d)*2 ^ (64*(at_+R))=T→
   jD.g0.t Y (S+1) (some ⟨aE,0,none⟩) n c a l aG (at_:Int) (d:Int) (l:Int) (R:Int) Z:=by
 subst j
 intro S
 induction S with
 | zero=>
  intro R d a3 Z a5 h f aN cI O
  unfold jD.g0.t jD.e3.t
  refine cC (fun e=>absurd e (by omega)) fun e=>?_
  unfold jD.aZ.t
  have q:R=b.length:=by omega
  subst q
  refine cN ((at_+b.length:Nat):Int) (by omega) (by omega) (by omega) ?_
  refine⟨n - (at_+b.length)+1,?_⟩
  refine IM m g o _ _ _ a3 Z (by omega) h f aN cI ?_
  rw [List.drop_length] at O
  simpa [val] using O
 | succ S bO=>
  intro R d a3 Z a5 h f aN cI O
  have y:=aN.word (at_+R)
  have z:=r.word R
  have s:fO aE a:=by
   rcases k with i | i
   ·subst i;simp at a5
   ·exact i
  unfold jD.g0.t jD.e3.t
  refine cC (fun e=>?_) fun e=>absurd (by omega) e
  refine cN ((at_+R:Nat):Int) (by omega) (by omega) (by omega) ?_
  refine cN ((at_+R:Nat):Int) (by omega) (by omega) (by omega) ?_
  refine fP (aN.rd (c:=n) (by omega)) (aC:=at_+R) rfl (by omega) (by omega) ?_
  refine fP (r.cG s cI) (aC:=R) rfl rfl (by omega) ?_
  refine oO rfl rfl rfl h ?_
  refine tM aN (aC:=at_+R) rfl f.symm (by omega) rfl (by omega) fun u w=>?_
  refine cN ((R+1:Nat):Int) (by omega) (by omega) (by omega) ?_
  refine bO (R+1) _ _ _ (by omega) (by omega) (by simp [f]) u (cI.trans w) ?_
  have bI:=k7 (a3:=a3) (aC:=at_+R) (v:=(a3.getD (at_+R) 0+b.getD R 0+d) % 18446744073709551616) (by omega)
  have:=x0 (bA:=18446744073709551616) (p:=b.getD R 0) (c:=d) (r:=val (b.drop (R+1))) (jF:=(a3.getD (at_+R) 0+b.getD R 0+d) % 18446744073709551616) (c8:=(a3.getD (at_+R) 0+b.getD R 0+d) / 18446744073709551616) (by omega) bI
  rw [← Nat.add_assoc,jQ,this,← kW];exact O
theorem yW{a:M}{c aG l n m at_ aE:Nat}{a3 b:List Nat}{Z:U}(aN:e6 Z aE a3)(r:cD Z a aG b)(e:l=b.length)(f:n=a3.length)(g:b=[]∨fO aE a)(h:val a3+val b*2 ^ (64*at_) < 2 ^ (64*a3.length))(i:at_+b.length≤a3.length){N:Int}(j:N=(at_:Int))(k:m=n):
  a0 jD.id #[.slice (some ⟨aE,0,none⟩) m c,.slice a l aG,.int .i64 N] Z fun v aB=>v=.tuple #[]∧b2 aE Z aB∧∃ d,e6 aB aE d∧d.length=a3.length∧val d=val a3+val b*2 ^ (64*at_):=by
 subst j;subst f;subst k
 refine jD.ok ?_
 unfold jD.t jD.aM.t jD.dD.t
 have o:=aN.len
 refine⟨b.length+1,?_⟩
 refine IN r e g h i o (fun aB d S fH p O=>⟨rfl,S,d,fH,p,O⟩) b.length 0 0 a3 Z (by omega) (by omega) rfl aN (b2.refl _ _) ?_
 simp
theorem IP{Y:aD}{c n T aE:Nat}{aV:U}(g:∀ aB a3,b2 aE aV aB→e6 aB aE a3→a3.length=n→val a3=T→Y (.tuple #[]) aB)(i:n≤35184372088828):
  ∀ (S R a:Nat) (a3:List Nat) (Z:U),R+S=n→a≤1→a3.length=n→e6 Z aE a3→b2 aE aV Z→val a3=T+a*2 ^ (64*R)→
   jV.cJ.t Y (S+1) (some ⟨aE,0,none⟩) n c (a:Int) (R:Int) Z:=by
 intro S
 induction S with
 | zero=>
  intro R a a3 Z a5 e b aN cI O
  unfold jV.cJ.t jV.cF.t
  refine cC (fun d=>?_) fun d=>?_
  ·have:a=1:=by omega
   subst this
   have:=Ak (a3:=a3) (T:=val a3) (R:=R) rfl (by omega) (hS aN.words)
   omega
  ·have:a=0:=by omega
   subst this
   exact g _ _ cI aN b (by omega)
 | succ S bO=>
  intro R a a3 Z a5 e b aN cI O
  unfold jV.cJ.t jV.cF.t
  refine cC (fun d=>?_) fun d=>?_
  ·have j:=aN.word R
   refine fP (aN.rd (c:=n) (by omega)) (aC:=R) rfl (by omega) (by omega) ?_
   refine tV (K:=0) rfl rfl rfl e (by omega) ?_
   refine tM aN (aC:=R) rfl b.symm (by omega) rfl (by omega) fun f h=>?_
   refine cN ((R+1:Nat):Int) (by omega) (by omega) (by omega) ?_
   refine bO (R+1) _ _ _ (by omega) (by split <;> omega) (by simp [b]) f (cI.trans h) ?_
   have bI:=k7 (a3:=a3) (aC:=R) (v:=(a3.getD R 0+18446744073709551616 - 0 - a) % 18446744073709551616) (by omega)
   have:=CZ (bA:=18446744073709551616) (cU:=0) (aN:=a) (r:=0) (T:=T) (jF:=(a3.getD R 0+18446744073709551616 - 0 - a) % 18446744073709551616) (fH:=if a3.getD R 0 < 0+a then 1 else 0) (by split <;> omega) bI (by simpa using O)
   rw [jQ]
   simpa using this
  ·have:a=0:=by omega
   subst this
   exact g _ _ cI aN b (by omega)
theorem IQ{Y:aD}{a:M}{c aG l n T aE:Nat}{b:List Nat}{aV:U}(r:cD aV a aG b)(j:l=b.length)(k:b=[]∨fO aE a)(w:b.length≤n)(m:n≤35184372088828)
  (g:∀ aB a3,b2 aE aV aB→e6 aB aE a3→a3.length=n→val a3=T→Y (.tuple #[]) aB) :
  ∀ (S R d:Nat) (a3:List Nat) (Z:U),R+S=b.length→d≤1→a3.length=n→e6 Z aE a3→b2 aE aV Z→val a3=T+(val (b.drop R)+d)*2 ^ (64*R)→
   jV.g0.t Y (S+1) (some ⟨aE,0,none⟩) n c a l aG (d:Int) (l:Int) (R:Int) Z:=by
 subst j
 intro S
 induction S with
 | zero=>
  intro R d a3 Z a5 h f aN cI O
  unfold jV.g0.t jV.e3.t
  refine cC (fun e=>absurd e (by omega)) fun e=>?_
  unfold jV.aZ.t
  have o:R=b.length:=by omega
  subst o
  refine⟨n - b.length+1,?_⟩
  refine IP g m _ _ _ a3 Z (by omega) h f aN cI ?_
  rw [List.drop_length] at O
  simpa [val] using O
 | succ S bO=>
  intro R d a3 Z a5 h f aN cI O
  have x:=aN.word R
  have p:=r.word R
  have q:fO aE a:=by
   rcases k with i | i
   ·subst i;simp at a5
   ·exact i
  unfold jV.g0.t jV.e3.t
  refine cC (fun e=>?_) fun e=>absurd (by omega) e
  refine fP (aN.rd (c:=n) (by omega)) (aC:=R) rfl (by omega) (by omega) ?_
  refine fP (r.cG q cI) (aC:=R) rfl rfl (by omega) ?_
  refine tV rfl rfl rfl h p ?_
  refine tM aN (aC:=R) rfl f.symm (by omega) rfl (by omega) fun s u=>?_
  refine cN ((R+1:Nat):Int) (by omega) (by omega) (by omega) ?_
  refine bO (R+1) _ _ _ (by omega) (by split <;> omega) (by simp [f]) s (cI.trans u) ?_
  have bI:=k7 (a3:=a3) (aC:=R) (v:=(a3.getD R 0+18446744073709551616 - b.getD R 0 - d) % 18446744073709551616) (by omega)
  rw [kW] at O
  have:=CZ (bA:=18446744073709551616) (cU:=b.getD R 0) (aN:=d) (r:=val (b.drop (R+1))) (T:=T) (jF:=(a3.getD R 0+18446744073709551616 - b.getD R 0 - d) % 18446744073709551616) (fH:=if a3.getD R 0 < b.getD R 0+d then 1 else 0) (by split <;> omega) bI O
  rw [jQ];exact this
theorem D4{a:M}{c aG l n aE:Nat}{a3 b:List Nat}{Z:U}(aN:e6 Z aE a3)(r:cD Z a aG b)(e:l=b.length)(f:n=a3.length)(g:b=[]∨fO aE a)(k:val b≤val a3)(h:b.length≤a3.length):
  a0 jV.id #[.slice (some ⟨aE,0,none⟩) n c,.slice a l aG] Z fun v aB=>v=.tuple #[]∧b2 aE Z aB∧∃ d,e6 aB aE d∧d.length=a3.length∧val d=val a3 - val b:=by
 subst f
 refine jV.ok ?_
 unfold jV.t jV.aM.t jV.dD.t
 have i:=aN.len
 refine⟨b.length+1,?_⟩
 refine IQ (T:=val a3 - val b) r e g h i (fun aB d S fH j O=>⟨rfl,S,d,fH,j,O⟩) b.length 0 0 a3 Z (by omega) (by omega) rfl aN (b2.refl _ _) ?_
 simp;omega
theorem getD_set_ne{a3:List Nat}{R t v:Nat}(Z:R ≠ t):(a3.set R v).getD t 0=a3.getD t 0:=by
 simp [List.getD,Z]
theorem IS{Y:aD}{cE:M→Nat→Nat→M→Nat→Nat→M→Nat→Nat→Int→Int→U→Prop}{a K:M}{c aG bG f i n aC aE T:Nat}{L aP:List Nat}{aV:U}{a1:Int}
  (r:cD aV a aG L) (aI:cD aV K bG aP) (q:f=L.length) (s:i=aP.length) (u:L=[]∨fO aE a) (w:fO aE K) (G:aC < aP.length) (H:n=L.length+aP.length)
  (g:∀ aB a3,b2 aE aV aB→e6 aB aE a3→a3.length=n→(∀ t,aC+1+L.length≤t→a3.getD t 0=0)→val a3+val (aP.drop (aC+1))*val L*2 ^ (64*(aC+1))=T→cE (some ⟨aE,0,none⟩) n c a f aG K i bG a1 ((aC+1:Nat):Int) aB) :
  ∀ (S R b:Nat) (a3:List Nat) (Z:U),R+S=L.length→b < 18446744073709551616→a3.length=n→e6 Z aE a3→b2 aE aV Z→(∀ t,aC+L.length≤t→a3.getD t 0=0)→
   val a3+(val (L.drop R)*aP.getD aC 0+b)*2 ^ (64*(R+aC))+val (aP.drop (aC+1))*val L*2 ^ (64*(aC+1))=T→
   jL.gZ.t Y cE (S+1) (some ⟨aE,0,none⟩) n c a f aG K i bG (aC:Int) (b:Int) a1 (aC:Int) (f:Int) (R:Int) Z:=by
 subst q;subst s
 intro S
 induction S with
 | zero=>
  intro R b a3 Z a5 m d aN cI h O
  have x:=aN.len
  unfold jL.gZ.t jL.gM.t
  refine cC (fun e=>absurd e (by omega)) fun e=>?_
  have y:R=L.length:=by omega
  subst y
  unfold jL.dD.t
  refine cN ((aC+L.length:Nat):Int) (by omega) (by omega) (by omega) ?_
  refine tM aN (aC:=aC+L.length) rfl d.symm (by omega) rfl m fun j k=>?_
  unfold jL.cF.t
  refine cN ((aC+1:Nat):Int) (by omega) (by omega) (by omega) ?_
  refine g _ _ (cI.trans k) j (by simp [d]) (fun t o=>?_) ?_
  ·rw [getD_set_ne (by omega)];exact h t (by omega)
  ·have bI:=k7 (a3:=a3) (aC:=aC+L.length) (v:=b) (by omega)
   rw [h _ (Nat.le_refl _)] at bI
   rw [List.drop_length,Nat.add_comm L.length aC] at O
   simp only [val,Nat.zero_mul,Nat.zero_add,Nat.add_zero] at bI O
   omega
 | succ S bO=>
  intro R b a3 Z a5 m d aN cI h O
  have x:=aN.len
  have z:=r.word R
  have A:=aI.word aC
  have I:=aN.word (R+aC)
  have B:fO aE a:=by
   rcases u with l | l
   ·subst l;simp at a5
   ·exact l
  have J:L.getD R 0*aP.getD aC 0≤340282366920938463426481119284349108225:=Nat.mul_le_mul (show L.getD R 0≤18446744073709551615 by omega) (show aP.getD aC 0≤18446744073709551615 by omega)
  unfold jL.gZ.t jL.gM.t
  refine cC (fun e=>?_) fun e=>absurd (by omega) e
  refine fP (r.cG B cI) (aC:=R) rfl rfl (by omega) ?_
  refine fP (aI.cG w cI) (aC:=aC) rfl rfl (by omega) ?_
  refine b5 (AQ z A _) fun v aB ⟨C,D⟩=>?_
  subst C
  refine D.elim ?_
  have cS:val (L.drop R)*aP.getD aC 0=L.getD R 0*aP.getD aC 0+18446744073709551616*(val (L.drop (R+1))*aP.getD aC 0):=by
   rw [kW,Nat.add_mul,Nat.mul_assoc]
  rw [cS] at O
  generalize L.getD R 0*aP.getD aC 0=p at *
  refine oO (c:=0) rfl rfl rfl (by omega) ?_
  refine c3 ((p+b) / 18446744073709551616) (by omega) (by omega) ?_
  refine cN ((R+aC:Nat):Int) (by omega) (by omega) (by omega) ?_
  refine cN ((R+aC:Nat):Int) (by omega) (by omega) (by omega) ?_
  refine fP (aN.rd (c:=n) (by omega)) (aC:=R+aC) rfl (by omega) (by omega) ?_
  refine oO (c:=0) rfl rfl rfl (by omega) ?_
  have E:(a3.getD (R+aC) 0+(p % 18446744073709551616+b+0) % 18446744073709551616+0) % 18446744073709551616=(p+b+a3.getD (R+aC) 0) % 18446744073709551616:=by omega
  have F:(p+b) / 18446744073709551616+(a3.getD (R+aC) 0+(p % 18446744073709551616+b+0) % 18446744073709551616+0) / 18446744073709551616=(p+b+a3.getD (R+aC) 0) / 18446744073709551616:=by omega
  rw [E]
  refine tM aN (aC:=R+aC) rfl d.symm (by omega) rfl (by omega) fun j k=>?_
  refine c3 ((p+b+a3.getD (R+aC) 0) / 18446744073709551616) (by rw [← Int.natCast_add,F]) (by omega) ?_
  refine cN ((R+1:Nat):Int) (by omega) (by omega) (by omega) ?_
  refine bO (R+1) _ _ _ (by omega) (by omega) (by simp [d]) j (cI.trans k) (fun t o=>?_) ?_
  ·rw [getD_set_ne (by omega)];exact h t o
  ·have bI:=k7 (a3:=a3) (aC:=R+aC) (v:=(p+b+a3.getD (R+aC) 0) % 18446744073709551616) (by omega)
   have:=x0 (bA:=18446744073709551616) (p:=p) (c:=b) (r:=val (L.drop (R+1))*aP.getD aC 0) (jF:=(p+b+a3.getD (R+aC) 0) % 18446744073709551616) (c8:=(p+b+a3.getD (R+aC) 0) / 18446744073709551616) (by omega) bI
   rw [show R+1+aC=R+aC+1 by omega,jQ (R+aC),this];exact O
theorem IT{Y:aD}{a K:M}{c aG bG h d n aE T:Nat}{L aP:List Nat}{aV:U}
  (r:cD aV a aG L) (aI:cD aV K bG aP) (k:h=L.length) (l:d=aP.length) (m:L=[]∨fO aE a) (o:aP=[]∨fO aE K) (p:n=L.length+aP.length)
  (g:∀ aB a3,b2 aE aV aB→e6 aB aE a3→a3.length=n→val a3=T→Y (.tuple #[]) aB) :
  ∀ (S aC:Nat) (a3:List Nat) (Z:U),aC+S=aP.length→a3.length=n→e6 Z aE a3→b2 aE aV Z→(∀ t,aC+L.length≤t→a3.getD t 0=0)→val a3+val (aP.drop aC)*val L*2 ^ (64*aC)=T→
   jL.dF.t Y (S+1) (some ⟨aE,0,none⟩) n c a h aG K d bG (d:Int) (aC:Int) Z:=by
 subst k;subst l
 intro S
 induction S with
 | zero=>
  intro aC a3 Z i e aN cI j O
  unfold jL.dF.t jL.bF.t
  refine cC (fun b=>absurd b (by omega)) fun b=>?_
  refine g _ _ cI aN e ?_
  rw [List.drop_of_length_le (by omega)] at O
  simpa [val] using O
 | succ S bO=>
  intro aC a3 Z i e aN cI j O
  have q:fO aE K:=by
   rcases o with f | f
   ·subst f;simp at i
   ·exact f
  unfold jL.dF.t jL.bF.t
  refine cC (fun b=>?_) fun b=>absurd (by omega) b
  unfold jL.b9.t jL.eR.t
  refine⟨L.length+1,?_⟩
  refine IS (T:=T) r aI rfl rfl m q (by omega) p (fun aB s cV fH u v w=>?_) L.length 0 0 a3 Z (by omega) (by omega) e aN cI j ?_
  ·exact bO (aC+1) s aB (by omega) u fH cV v w
  ·rw [kW] at O
   rw [← O,jQ,Nat.zero_add,List.drop_zero,Nat.add_zero,Nat.add_mul,Nat.add_mul,Nat.mul_comm (val L)]
   have x:val (aP.drop (aC+1))*val L*(18446744073709551616*2 ^ (64*aC))=18446744073709551616*val (aP.drop (aC+1))*val L*2 ^ (64*aC):=by
    rw [Nat.mul_left_comm,Nat.mul_assoc 18446744073709551616,Nat.mul_assoc 18446744073709551616]
   rw [x];omega
theorem IU{a K:M}{c aG bG b d n aE:Nat}{L aP:List Nat}{Z:U}(aN:e6 Z aE (List.replicate n 0))(r:cD Z a aG L)(aI:cD Z K bG aP)(e:b=L.length)(f:d=aP.length)(g:L=[]∨fO aE a)(h:aP=[]∨fO aE K)(i:n=L.length+aP.length):
  a0 jL.id #[.slice (some ⟨aE,0,none⟩) n c,.slice a b aG,.slice K d bG] Z fun v aB=>v=.tuple #[]∧b2 aE Z aB∧∃ a3,e6 aB aE a3∧a3.length=n∧val a3=val L*val aP:=by
 refine jL.ok ?_
 unfold jL.t jL.aM.t
 refine⟨aP.length+1,?_⟩
 refine IT r aI e f g h i (fun aB j S fH k O=>⟨rfl,S,j,fH,k,O⟩) aP.length 0 _ Z (by omega) (by simp) aN (b2.refl _ _) (fun t _=>?_) ?_
 ·simp only [List.getD,List.getElem?_replicate];split <;> rfl
 ·rw [rV,List.drop_zero];simp [Nat.mul_comm]
def sC(Z aB:U)(v:Value)(L:List Nat):Prop:=∃ aE,Z.size≤aE∧v=.slice (some ⟨aE,0,none⟩) L.length L.length∧e6 aB aE L
theorem sC.elim{Z aB:U}{v:Value}{L:List Nat}{aF:M→Nat→Nat→Prop}(f:sC Z aB v L)(g:∀ aE,Z.size≤aE→e6 aB aE L→aF (some ⟨aE,0,none⟩) L.length L.length):aU v aF:=by
 obtain⟨aE,a,O,aN⟩:=f
 subst O;exact g aE a aN
theorem v3{K aE:Nat}(Z:K ≠ aE):fO aE (some ⟨K,0,none⟩):=fun p O=>by cases O;exact Z
theorem D5{aV Z:U}{aE n c:Nat}{a3:List Nat}{aF:Value→U→Prop}(a:aV.size≤aE)(aN:e6 Z aE a3)(b:n=a3.length)(f:n≤c)(g:∀ v,sC aV Z v (aL (val a3))→aF v Z):
  a0 lD.id #[.slice (some ⟨aE,0,none⟩) n c] Z aF:=by
 refine b5 (vZ (aN.rd (c:=c) (by omega)) b) fun v aB ⟨d,e⟩=>?_
 subst d;subst e
 refine g _ ?_
 rw [k8 aN.words]
 exact⟨aE,a,rfl,by have:=aN.take (dI a3).length;rw [D3] at this;exact this⟩
theorem D6{a:M}{c l S:Nat}{L:List Nat}{Z:U}{N:Int}(r:cD Z a c L)(g:l=L.length)(h:N=(S:Int)):
  a0 qS.id #[.slice a l c,.int .i64 N] Z fun v aB=>aB=Z∧∃ bL,v=.tuple #[.slice a (dI (L.take S)).length (dI (L.take S)).length,.slice bL (L.drop S).length (L.drop S).length]∧
   cD Z a (dI (L.take S)).length (dI (L.take S))∧cD Z bL (L.drop S).length (L.drop S)∧∀ aE,fO aE a→fO aE bL:=by
 subst g;subst h
 have e:=r.cap
 refine qS.ok ?_
 unfold qS.t qS.aM.t
 refine cC (fun i=>?_) fun i=>?_
 ·refine Aj rfl rfl e ?_
  refine b5 (vZ (r.qR (Nat.le_refl _)) rfl) fun v aB ⟨b,d⟩=>?_
  subst b;subst d
  refine bD rfl ?_
  rw [List.take_of_length_le (by omega),List.drop_of_length_le (by omega)]
  exact⟨rfl,none,rfl,yV r,cD.nil _ _ _,fun aE _=>fO.none aE⟩
 ·refine Aj rfl rfl (by omega) ?_
  have f:(L.take S).length=S:=by rw [List.length_take];omega
  have rt:=(r.take S).qR (Nat.le_refl _)
  rw [f] at rt
  refine b5 (vZ rt f.symm) fun v aB ⟨b,d⟩=>?_
  subst b;subst d
  refine bD rfl ?_
  refine CY rfl rfl rfl (by omega) e ?_
  refine⟨rfl,iP a L.length S 1,?_,yV rt,?_,fun aE j=>j.sub _ _ _⟩
  ·rw [List.length_drop]
  ·have rd:=(r.qR (Nat.le_refl _)).drop S (by omega)
   exact rd.qR (Nat.le_refl _)
theorem D7(L:List Nat)(S:Nat):val L=val (dI (L.take S))+2 ^ (64*S)*val (L.drop S):=by
 rw [qA]
 by_cases Z:S≤L.length
 ·conv=>lhs;rw [← List.take_append_drop S L]
  rw [hI,List.length_take,Nat.min_eq_left Z]
 ·rw [List.take_of_length_le (by omega),List.drop_of_length_le (by omega)];simp [val]
theorem AX{cH n S:Nat}(a:S≤n)(Z:cH*2 ^ (64*S) < 2 ^ (64*n)):S+(aL cH).length≤n:=by
 have:(aL cH).length≤n - S:=by
  rw [gE]
  have O:2 ^ (64*n)=2 ^ (64*(n - S))*2 ^ (64*S):=by rw [← Nat.pow_add,show 64*(n - S)+64*S=64*n by omega]
  rw [O] at Z
  exact Nat.lt_of_mul_lt_mul_right Z
 omega
theorem D8{Y:aD}{a K:M}{c aT l m:Nat}{L aP:List Nat}{Z:U}(r:cD Z a c L)(aI:cD Z K aT aP)(e:l=L.length)(h:m=aP.length)(u:aP.length≤L.length)(w:L.length < 35184372088828)
  (g:∀ v aB,bC Z aB→sC Z aB v (aL (val L+val aP))→Y v aB):oR.aZ.t Y a l c K m aT Z:=by
 subst e;subst h
 unfold oR.aZ.t
 refine cN ((L.length+1:Nat):Int) (by omega) (by omega) (by omega) ?_
 refine m1 (L.length+1) rfl rfl rfl rfl (by omega) fun aY aN S=>?_
 refine x8 aN (r.aS S) (by simp) rfl (Nat.le_refl _) S fun x b d=>?_
 have O:List.take (List.replicate (L.length+1) 0).length L ++ List.drop L.length (List.replicate (L.length+1) 0)=L ++ [0]:=by
  rw [List.take_of_length_le (by simp)];simp
 rw [O] at b
 have cS:val (L ++ [0])=val L:=by rw [← qA,tR,qA]
 have y:=hS r.words
 have z:=hS aI.words
 have A:2 ^ (64*aP.length)≤2 ^ (64*L.length):=Nat.pow_le_pow_right (by decide) (by omega)
 refine b5 (yW (at_:=0) b.CX (aI.aS d) rfl (by simp) (aI.off (Nat.le_refl _)) ?_ (by simp;omega) rfl rfl) fun v B ⟨i,j,a3,k,n,o⟩=>?_
 ·rw [cS,List.length_append,List.length_singleton,jQ,Nat.mul_zero,Nat.pow_zero,Nat.mul_one]
  generalize 2 ^ (64*L.length)=P at *;omega
 subst i
 refine g7 rfl (dY ?_)
 refine D5 (Nat.le_refl Z.size) k (by rw [n];simp) (by omega) fun v f=>?_
 rw [o,cS,Nat.mul_zero,Nat.pow_zero,Nat.mul_one] at f
 obtain⟨aE,p,q,s⟩:=f
 subst q
 exact g _ _ (j.aS d (Nat.le_refl _)) ⟨aE,p,rfl,s⟩
theorem D9{a K:M}{c aT l m:Nat}{L aP:List Nat}{Z:U}(r:cD Z a c L)(aI:cD Z K aT aP)(b:l=L.length)(d:m=aP.length)(e:L.length < 35184372088828)(g:aP.length < 35184372088828):
  a0 oR.id #[.slice a l c,.slice K m aT] Z fun v aB=>bC Z aB∧sC Z aB v (aL (val L+val aP)):=by
 refine oR.ok ?_
 unfold oR.t oR.aM.t
 refine cC (fun h=>?_) fun h=>?_
 ·refine D8 aI r d b (by omega) g fun v aB S f=>⟨S,?_⟩
  rw [Nat.add_comm];exact f
 ·exact D8 r aI b d (by omega) e fun v aB S f=>⟨S,f⟩
theorem Ea{aE:Nat}:∀ {bV:List Value} {Z:U} {R:Nat},b2 aE Z (jN Z ⟨aE,0,none⟩ R bV)
 | [],Z,_=>b2.refl _ _
 | v :: bV,Z,R=>by
  have O:jN Z ⟨aE,0,none⟩ R (v :: bV)=jN (gB Z ⟨aE,R,none⟩ v) ⟨aE,0,none⟩ (R+1) bV:=by
   show jN (gB Z ((⟨aE,0,none⟩:Addr).add R) v) _ _ _=_
   rw [bZ]
  rw [O];exact(b2.set aE Z R v).trans Ea
theorem IV{Z:U}{K l bX bG:Nat}{L aP:List Nat}{a:M}(aN:e6 Z K L)(r:cD Z a bG aP)(e:l=L.length)(f:bX=aP.length)(c:aP.length≤L.length){aF:Int→U→Prop}
  (g:∀ aB,e6 aB K (aP ++ L.drop aP.length)→b2 K Z aB→aF (aP.length:Int) aB):mF Z 1 (some ⟨K,0,none⟩) l (.slice a bX bG) aF:=by
 subst e;subst f
 obtain⟨rest,aN⟩:=aN
 have d:Nat.min aP.length L.length=aP.length:=Nat.min_eq_left c
 refine⟨aP.length,aP.map hL,rfl,⟨by rw [List.length_map,d];omega,?_,?_⟩,?_,?_⟩
 ·intro v bP
  obtain⟨N,_,O⟩:=List.mem_map.mp bP
  subst O;rfl
 ·cases a with
  | none=>
   show aP.map hL=[]
   cases aP with
   | nil=>simp
   | cons aQ aP=>obtain⟨p,O,_⟩:=r.at_ 0 (by simp);cases O
  | some p=>
   refine AY fun aC b=>?_
   obtain⟨j,O,h⟩:=r.at_ aC b
   cases O
   rw [Nat.zero_add];exact h
 ·refine AZ fun aC b=>?_
  rw [Nat.zero_add,bZ]
  rw [List.length_map] at b
  exact⟨⟨_,aN.cell (by rw [List.length_append];omega)⟩,aN.frozen aC⟩
 ·have:=A0 (aV:=#[]) (bV:=aP) (R:=0) aN r.words (by rw [List.length_append];omega) (by simp) ⟨by simp,fun K i=>absurd i (by simp)⟩
  rw [d]
  refine g _ ⟨rest,?_⟩ Ea
  have O:List.take 0 (L ++ rest) ++ (aP ++ List.drop (0+aP.length) (L ++ rest))=aP ++ L.drop aP.length ++ rest:=by
   rw [List.take_zero,List.nil_append,Nat.zero_add,List.drop_append_of_le_length c,List.append_assoc]
  rw [← O];exact this.1
def yX(b:Nat):Prop:=∀ {a K:M} {c aG bG d e n aE:Nat} {L aP:List Nat} {Z:U},L.length+aP.length≤b→e6 Z aE (List.replicate n 0)→cD Z a aG L→cD Z K bG aP→d=L.length→e=aP.length→(L=[]∨fO aE a)→(aP=[]∨fO aE K)→n=L.length+aP.length→
 a0 pI.id #[.slice (some ⟨aE,0,none⟩) n c,.slice a d aG,.slice K e bG] Z fun v aB=>v=.tuple #[]∧b2 aE Z aB∧∃ a3,e6 aB aE a3∧a3.length=n∧val a3=val L*val aP
theorem v5{b:Nat}(ok:yX b){a K:M}{c aT l m:Nat}{L aP:List Nat}{Z:U}(d:L.length+aP.length≤b)(r:cD Z a c L)(aI:cD Z K aT aP)(e:l=L.length)(g:m=aP.length)(h:L.length+aP.length≤35184372088828):
  a0 m7.id #[.slice a l c,.slice K m aT] Z fun v aB=>bC Z aB∧sC Z aB v (aL (val L*val aP)):=by
 subst e;subst g
 refine m7.ok ?_
 unfold m7.t m7.aM.t
 refine cN ((L.length+aP.length:Nat):Int) (by omega) (by omega) (by omega) ?_
 refine m1 (L.length+aP.length) rfl rfl rfl rfl h fun aY aN S=>?_
 refine b5 (ok d aN.CX (r.aS S) (aI.aS S) rfl rfl (r.off (Nat.le_refl _)) (aI.off (Nat.le_refl _)) rfl) fun v s ⟨i,j,a3,k,n,cS⟩=>?_
 subst i
 refine g7 rfl (dY ?_)
 refine D5 (Nat.le_refl Z.size) k n.symm (Nat.le_refl _) fun v f=>?_
 rw [cS] at f
 obtain⟨aE,o,p,q⟩:=f
 subst p
 exact⟨j.aS S (Nat.le_refl _),aE,o,rfl,q⟩
theorem Eb{L aP:List Nat}(a:Words L)(b:Words aP):val L*val aP < 2 ^ (64*(L.length+aP.length)):=by
 rw [Nat.mul_add,Nat.pow_add]
 exact Nat.mul_lt_mul'' (hS a) (hS b)
theorem IW{h:Nat}(ok:∀ cH,cH < h→yX cH){Y:aD}{a K:M}{c aG bG i j n aE:Nat}{L aP:List Nat}{aV:U}(Nw:L.length+aP.length≤h)(r:cD aV a aG L)(aI:cD aV K bG aP)(q:i=L.length)(s:j=aP.length)(u:fO aE a)(w:fO aE K)(x:n=L.length+aP.length)
  (Nx:1≤aP.length) (Ny:2*aP.length≤L.length) (Nz:aE < aV.size)
  (g:∀ aB a3,b2 aE aV aB→e6 aB aE a3→a3.length=n→val a3=val L*val aP→Y (.tuple #[]) aB) :
  ∀ (S R:Nat) (a3:List Nat) (Z:U),L.length≤R+S→R≤L.length+aP.length→a3.length=n→e6 Z aE a3→b2 aE aV Z→val a3=val (L.take R)*val aP→
   m8.dF.t Y (S+1) (some ⟨aE,0,none⟩) n c a i aG K j bG (R:Int) Z:=by
 subst q;subst s
 intro S
 induction S with
 | zero=>
  intro R a3 Z a5 v7 b aN cI O
  unfold m8.dF.t m8.bF.t
  refine cC (fun d=>absurd d (by omega)) fun d=>?_
  rw [List.take_of_length_le (by omega)] at O
  exact g _ _ cI aN b O
 | succ S bO=>
  intro R a3 Z a5 v7 b aN cI O
  have NA:=aN.len
  have NB:=r.cap
  unfold m8.dF.t m8.bF.t
  refine cC (fun d=>?_) fun d=>?_
  ·refine cN ((R+aP.length:Nat):Int) (by omega) (by omega) (by omega) ?_
   obtain⟨m,y⟩:∃ m,m=min (R+aP.length) L.length:=⟨_,rfl⟩
   have z:(if (((L.length:Nat):Int)) < ((R+aP.length:Nat):Int) then(((L.length:Nat):Int)) else((R+aP.length:Nat):Int))=(m:Int):=by
    split <;> omega
   rw [z]
   refine CY rfl rfl rfl (by omega) (by omega) ?_
   have e:(L.take m).length=m:=by rw [List.length_take];omega
   have rt:=((r.cG u cI).take m).qR (c8:=m) (by omega)
   have rd:=rt.drop R (by omega)
   have A:((L.take m).drop R).length=m - R:=by rw [List.length_drop,e]
   refine b5 (vZ (rd.qR (c8:=m - R) (by omega)) A.symm) fun v aY ⟨B,C⟩=>?_
   subst B;subst C
   refine bD rfl ?_
   have D:=yV (rd.qR (c8:=m - R) (by omega))
   have NC:=tT ((L.take m).drop R)
   refine b5 (v5 (ok (aP.length+aP.length) (by omega)) (by omega) D (aI.cG w cI) rfl rfl (by omega)) fun v ND ⟨k,f⟩=>?_
   refine f.elim fun eM NF l=>?_
   rw [qA] at l ⊢
   have E:val (L.take m)=val (L.take R)+2 ^ (64*R)*val ((L.take m).drop R):=by
    conv=>lhs;rw [← List.take_append_drop R (L.take m)]
    rw [hI,List.length_take,e,Nat.min_eq_left (by omega),List.take_take,Nat.min_eq_left (by omega)]
   have F:val (L.take m)≤val L:=by
    have:val L=val (L.take m)+2 ^ (64*m)*val (L.drop m):=by
     conv=>lhs;rw [← List.take_append_drop m L]
     rw [hI,e]
    omega
   have o:val a3+val ((L.take m).drop R)*val aP*2 ^ (64*R)=val (L.take m)*val aP:=by
    rw [O,E,Nat.add_mul,Nat.mul_right_comm,Nat.mul_comm (2 ^ (64*R))]
   have G:val (L.take m)*val aP < 2 ^ (64*a3.length):=by
    rw [b,x]
    exact Nat.lt_of_le_of_lt (Nat.mul_le_mul_right _ F) (Eb r.words aI.words)
   have H:=aN.aS k
   have I:aE ≠ eM:=by have:=cI.le;omega
   refine b5 (yW (at_:=R) H (l.rd (Nat.le_refl _)) rfl b.symm (Or.inr (v3 (Ne.symm I))) (by rw [eV,o];exact G) (AX (by omega) (by omega)) rfl rfl) fun v J ⟨P,Q,T,V,NG,p⟩=>?_
   subst P
   refine g7 rfl (dY ?_)
   refine cN ((R+aP.length:Nat):Int) (by omega) (by omega) (by omega) ?_
   rw [eV,o] at p
   refine bO (R+aP.length) T J (by omega) (by omega) (by omega) V ((cI.trans k.Ai).trans Q) ?_
   rw [p]
   congr 2
   by_cases Nv:R+aP.length≤L.length
   ·rw [y,Nat.min_eq_left Nv]
   ·rw [List.take_of_length_le (by omega),List.take_of_length_le (by omega)]
  ·rw [List.take_of_length_le (by omega)] at O
   exact g _ _ cI aN b O
theorem IX{a1 bH aX aK iM eO bK:Nat}(a:a1=aX+bK*aK)(b:bH=iM+bK*eO):(aX+aK)*(iM+eO)=aX*iM+(aX*eO+aK*iM)+aK*eO∧a1*bH=aX*iM+(aX*eO+aK*iM)*bK+aK*eO*(bK*bK):=by
 subst a;subst b
 constructor
 ·rw [Nat.add_mul,Nat.mul_add,Nat.mul_add];omega
 ·have c:aX*(bK*eO)=aX*eO*bK:=by rw [Nat.mul_comm bK,Nat.mul_assoc]
  have d:bK*aK*iM=aK*iM*bK:=by rw [Nat.mul_assoc,Nat.mul_comm]
  have e:bK*aK*(bK*eO)=aK*eO*(bK*bK):=by
   rw [Nat.mul_mul_mul_comm,Nat.mul_comm]
  rw [Nat.add_mul,Nat.mul_add,Nat.mul_add,c,d,e,Nat.add_mul];omega
theorem IY{F:Nat}(ok:∀ cH,cH < F→yX cH){a K:M}{c aG bG G I n aE:Nat}{L aP:List Nat}{Z:U}(Ok:L.length+aP.length≤F)(aN:e6 Z aE (List.replicate n 0))(r:cD Z a aG L)(aI:cD Z K bG aP)(NJ:G=L.length)(NK:I=aP.length)(Ol:fO aE a)(Om:fO aE K)(NL:n=L.length+aP.length)
  (On:40≤aP.length) (Oo:aP.length≤L.length) (Oq:L.length < 2*aP.length) :
  a0 sD.id #[.slice (some ⟨aE,0,none⟩) n c,.slice a G aG,.slice K I bG] Z fun v aB=>v=.tuple #[]∧b2 aE Z aB∧∃ a3,e6 aB aE a3∧a3.length=n∧val a3=val L*val aP:=by
 subst NJ;subst NK
 have NM:=aN.len
 rw [List.length_replicate] at NM
 have Ot:=aN.lt
 refine sD.ok ?_
 unfold sD.t sD.aM.t
 refine cN ((L.length+1:Nat):Int) (by omega) (by omega) (by omega) ?_
 obtain⟨S,NN⟩:∃ S,S=(L.length+1) / 2:=⟨_,rfl⟩
 refine⟨by omega,cN (S:Int) (by rw [NN];exact m2 _ 2) (by omega) (by omega) ?_⟩
 refine b5 (D6 (S:=S) r rfl rfl) fun v aY ⟨h,Ou,i,j,k,Ov⟩=>?_
 subst h;subst i
 refine g7 rfl (cK (bD rfl (cK (bD rfl (dY ?_)))))
 refine b5 (D6 (S:=S) aI rfl rfl) fun v aY ⟨h,Ow,i,l,m,Ox⟩=>?_
 subst h;subst i
 refine g7 rfl (cK (bD rfl (cK (bD rfl (dY ?_)))))
 have ex:=D7 L S
 have NO:=D7 aP S
 have Oy:(dI (L.take S)).length≤S:=Nat.le_trans (tT _) (by rw [List.length_take];omega)
 have Oz:(dI (aP.take S)).length≤S:=Nat.le_trans (tT _) (by rw [List.length_take];omega)
 have OA:(L.drop S).length≤S:=by rw [List.length_drop];omega
 have OB:(aP.drop S).length≤S:=by rw [List.length_drop];omega
 have J:=Eb r.words aI.words
 rw [← NL] at J
 generalize dI (L.take S)=aX at *
 generalize dI (aP.take S)=iM at *
 generalize L.drop S=aK at *
 generalize aP.drop S=eO at *
 refine b5 (v5 (ok (S+S) (by omega)) (by omega) j l rfl rfl (by omega)) fun v NP ⟨e,f⟩=>?_
 refine f.elim fun gS OC o=>?_
 refine b5 (v5 (ok (S+S) (by omega)) (by omega) (k.aS e) (m.aS e) rfl rfl (by omega)) fun v P ⟨p,f⟩=>?_
 refine f.elim fun NQ OD q=>?_
 have s:=e.trans p
 refine b5 (D9 (j.aS s) (k.aS s) rfl rfl (by omega) (by omega)) fun v OE ⟨u,f⟩=>?_
 refine f.elim fun OF OG os=>?_
 have Q:=s.trans u
 refine b5 (D9 (l.aS Q) (m.aS Q) rfl rfl (by omega) (by omega)) fun v OH ⟨w,f⟩=>?_
 refine f.elim fun OI OJ NR=>?_
 have OK:(aL (val aX+val aK)).length≤S+1:=x3 (gE.mpr (Nat.lt_of_lt_of_le (hS j.words) (Nat.pow_le_pow_right (by decide) (by omega)))) (gE.mpr (Nat.lt_of_lt_of_le (hS k.words) (Nat.pow_le_pow_right (by decide) (by omega))))
 have OL:(aL (val iM+val eO)).length≤S+1:=x3 (gE.mpr (Nat.lt_of_lt_of_le (hS l.words) (Nat.pow_le_pow_right (by decide) (by omega)))) (gE.mpr (Nat.lt_of_lt_of_le (hS m.words) (Nat.pow_le_pow_right (by decide) (by omega))))
 refine b5 (v5 (ok (S+1+(S+1)) (by omega)) (by omega) ((os.rd (Nat.le_refl _)).aS w) (NR.rd (Nat.le_refl _)) rfl rfl (by omega)) fun v OM ⟨NS,f⟩=>?_
 refine f.elim fun d ON x=>?_
 rw [eV,eV] at x ⊢
 have mO:=IX ex NO
 obtain⟨b,T⟩:∃ b,b=val aX*val iM:=⟨_,rfl⟩
 obtain⟨H,V⟩:∃ H,H=val aK*val eO:=⟨_,rfl⟩
 obtain⟨cH,NT⟩:∃ cH,cH=val aX*val eO+val aK*val iM:=⟨_,rfl⟩
 rw [← T,← NT,← V] at mO
 rw [← T] at o ⊢
 rw [← V] at q ⊢
 rw [mO.1] at x ⊢
 have y:=u.trans (w.trans NS)
 have Nv:=p.trans y
 have Nw:=e.trans Nv
 have Nx:=o.aS Nv
 have NU:=q.aS y
 have NV:=aN.aS Nw
 have OO:gS < NP.size:=o.lt
 have OP:NQ < P.size:=q.lt
 have OQ:=p.le
 have OR:=y.le
 have OS:P.size≤d:=by have:=u.le;have:=w.le;omega
 refine b5 (D4 x (Nx.rd (Nat.le_refl _)) rfl rfl (Or.inr (v3 (by omega))) (by rw [eV,eV];omega) (mY (by omega))) fun v OT ⟨NW,z,OU,NX,Ny,NY⟩=>?_
 subst NW
 refine g7 rfl (dY ?_)
 rw [eV,eV] at NY
 have Nz:=NU.cG (aE:=d) (by omega) z
 have NZ:=Nx.cG (aE:=d) (by omega) z
 refine b5 (D4 NX (Nz.rd (Nat.le_refl _)) rfl Ny.symm (Or.inr (v3 (by omega))) (by rw [eV];omega) (by rw [Ny];exact mY (by omega))) fun v N0 ⟨N1,A,NA,NB,OV,N2⟩=>?_
 subst N1
 refine g7 rfl (dY ?_)
 rw [eV] at N2
 have N3:val NA=cH:=by omega
 have OW:=e.le
 have NC:=z.trans A
 have N4:bC aY N0:=NC.aS Nw (by omega)
 have N5:=(NV.cG (aE:=d) (by omega) NC)
 have N6:=NZ.cG (aE:=d) (by omega) A
 have N7:=Nz.cG (aE:=d) (by omega) A
 have N8:2 ^ (64*S)*2 ^ (64*S)=2 ^ (64*(2*S)):=by rw [← Nat.pow_add,show 64*S+64*S=64*(2*S) by omega]
 have B:=mO.2
 rw [N8] at B
 rw [B] at J
 have N9:(aL b).length≤n:=gE.mpr (by omega)
 refine IV N5 (N6.rd (Nat.le_refl _)) (by simp) rfl (by simpa using N9) fun OX Oa C=>?_
 have ND:val (aL b ++ (List.replicate n 0).drop (aL b).length)=b:=by
  rw [hI,eV,List.drop_replicate,rV];simp
 have g:(aL b ++ (List.replicate n 0).drop (aL b).length).length=n:=by simp;omega
 have NF:=NB.cG (aE:=aE) (by omega) C
 refine b5 (vZ (NF.rd (by omega)) (by omega)) fun v fX ⟨Ob,D⟩=>?_
 subst Ob;subst D
 refine bD rfl ?_
 have NG:=yV (NF.rd (Nat.le_refl _))
 have Oc:dI NA=aL cH:=by rw [← N3,k8 NB.words]
 rw [Oc] at NG ⊢
 refine b5 (yW (at_:=S) Oa NG rfl g.symm (Or.inr (v3 (by omega))) (by rw [ND,eV,g];omega) (by rw [g];exact AX (by omega) (by omega)) rfl rfl) fun v OY ⟨D,NH,OZ,Od,NI,E⟩=>?_
 subst D
 refine g7 rfl (dY ?_)
 rw [ND,eV] at E
 refine cN ((2*S:Nat):Int) (by omega) (by omega) (by omega) ?_
 have Oe:=(N7.cG (aE:=aE) (by omega) C).cG (aE:=aE) (by omega) NH
 refine b5 (yW (at_:=2*S) Od (Oe.rd (Nat.le_refl _)) rfl (by omega) (Or.inr (v3 (by omega))) (by rw [E,eV,NI,g];omega) (by rw [NI,g];exact AX (by omega) (by omega)) rfl rfl) fun v O0 ⟨Of,Og,Oh,Oi,O1,Oj⟩=>?_
 subst Of
 refine g7 rfl (dY ?_)
 refine⟨rfl,N4.Ai.trans (C.trans (NH.trans Og)),Oh,Oi,by omega,?_⟩
 rw [Oj,E,eV,B]
theorem IZ(l:Nat):yX l:=by
 induction l using Nat.strongRecOn with
 | ind l ok=>
  have main:∀ {a K:M} {c aG bG g h n aE:Nat} {L aP:List Nat} {Z:U},L.length+aP.length≤l→e6 Z aE (List.replicate n 0)→cD Z a aG L→cD Z K bG aP→g=L.length→h=aP.length→(L=[]∨fO aE a)→(aP=[]∨fO aE K)→n=L.length+aP.length→aP.length≤L.length→
    pI.aZ.t (fun v aB=>v=.tuple #[]∧b2 aE Z aB∧∃ a3,e6 aB aE a3∧a3.length=n∧val a3=val L*val aP) (some ⟨aE,0,none⟩) n c a g aG K h bG Z:=by
   intro a K c aG bG g h n aE L aP Z m aN r aI f b i j k p
   have u:=aN.len
   rw [List.length_replicate] at u
   unfold pI.aZ.t
   refine cC (fun bI=>?_) fun bI=>?_
   ·refine b5 (IU aN r aI f b i j k) fun v aB ⟨O,S,d⟩=>?_
    subst O
    exact g7 rfl (dY ⟨rfl,S,d⟩)
   ·have q:fO aE a:=by
     rcases i with e | e
     ·subst e;have:aP.length≤0:=p;omega
     ·exact e
    have s:fO aE K:=by
     rcases j with e | e
     ·subst e;simp at b;omega
     ·exact e
    refine cN ((2*aP.length:Nat):Int) (by omega) (by omega) (by omega) ?_
    refine cC (fun o=>?_) fun o=>?_
    ·have w:a0 m8.id #[.slice (some ⟨aE,0,none⟩) n c,.slice a g aG,.slice K h bG] Z fun v aB=>v=.tuple #[]∧b2 aE Z aB∧∃ a3,e6 aB aE a3∧a3.length=n∧val a3=val L*val aP:=by
      refine m8.ok ?_
      unfold m8.t m8.aM.t
      refine⟨L.length+1,?_⟩
      refine IW ok m r aI f b q s k (by omega) (by omega) aN.lt (fun aB a3 S fH d O=>⟨rfl,S,a3,fH,d,O⟩) L.length 0 _ Z (by omega) (by omega) (by simp) aN (b2.refl _ _) ?_
      rw [rV];simp [val]
     refine b5 w fun v aB ⟨O,S,d⟩=>?_
     subst O
     exact g7 rfl (dY ⟨rfl,S,d⟩)
    ·refine b5 (IY ok m aN r aI f b q s k (by omega) p (by omega)) fun v aB ⟨O,S,d⟩=>?_
     subst O
     exact g7 rfl (dY ⟨rfl,S,d⟩)
  intro a K c aG bG g h n aE L aP Z m aN r aI f b i j k
  refine pI.ok ?_
  unfold pI.t pI.aM.t
  refine cC (fun o=>?_) fun o=>?_
  ·have:=main (c:=c) (by omega) aN aI r b f j i (by omega) (by omega)
   rw [Nat.mul_comm (val aP)] at this;exact this
  ·exact main m aN r aI f b i j k (by omega)
theorem I0{a K:M}{c aT l m:Nat}{L aP:List Nat}{Z:U}(r:cD Z a c L)(aI:cD Z K aT aP)(b:l=L.length)(d:m=aP.length)(e:L.length+aP.length≤35184372088828):
  a0 m7.id #[.slice a l c,.slice K m aT] Z fun v aB=>bC Z aB∧sC Z aB v (aL (val L*val aP)):=
 v5 (IZ _) (Nat.le_refl _) r aI b d e
def uC(L aP:List Nat):List Nat × Int:=if iK L∧iK aP then fC (val L*val aP) else([],2)
theorem I1{a K:M}{c aT l m:Nat}{L aP:List Nat}{Z:U}(r:cD Z a c L)(aI:cD Z K aT aP)(j:l=L.length)(k:m=aP.length):
  a0 pJ.id #[.slice a l c,.slice K m aT] Z fun v aB=>bC Z aB∧eT Z aB v (uC L aP):=by
 refine pJ.ok ?_
 unfold pJ.t pJ.aM.t
 refine b5 (mL r j) fun v aB ⟨b,d⟩=>?_
 subst b;subst d
 refine cY rfl ?_
 refine jP (fun e=>⟨bC.refl _,?_⟩) fun e=>?_
 ·unfold uC;rw [if_neg (fun g=>of_decide_eq_false e g.1)];exact eT.none
 refine b5 (mL aI k) fun v aB ⟨b,d⟩=>?_
 subst b;subst d
 refine cY rfl ?_
 refine jP (fun h=>⟨bC.refl _,?_⟩) fun h=>?_
 ·unfold uC;rw [if_neg (fun g=>of_decide_eq_false h g.2)];exact eT.none
 have f1:=of_decide_eq_true e
 have f2:=of_decide_eq_true h
 have aY:=f1.1
 have A:=f2.1
 unfold uC;rw [if_pos ⟨f1,f2⟩]
 unfold pJ.aZ.t
 refine b5 (I0 r aI j k (by omega)) fun v i ⟨n,f⟩=>?_
 refine f.elim fun gU o p=>?_
 have q:a0 sE.id #[.slice (some ⟨gU,0,none⟩) (aL (val L*val aP)).length (aL (val L*val aP)).length] i fun v s=>s=i∧eT aB i v (fC (val L*val aP)):=by
  refine sE.ok ?_
  unfold sE.t sE.aM.t
  refine cC (fun u=>⟨rfl,?_⟩) fun u=>⟨rfl,?_⟩
  ·unfold fC;rw [if_neg (by omega)];exact eT.none
  ·unfold fC;rw [if_pos (by omega)];exact eT.mk rfl rfl (p.j0 o) (show In .i64 0 by decide)
 refine b5 q fun v B ⟨w,x⟩=>?_
 subst w
 refine x.hZ fun bY bW y z=>?_
 exact⟨n,eT.back y z⟩
abbrev Ec:=Bool × List Nat
abbrev uD:=Bool × Nat
def dG(R:Int):uD:=(decide (R < 0),R.natAbs)
def cT(N:uD):Int:=if N.1 then -((N.2:Nat):Int) else((N.2:Nat):Int)
def Ed(N:Ec):Prop:=iK N.2∧¬ (N.1=true∧N.2=[])
instance (N:Ec):Decidable (Ed N):=by unfold Ed;infer_instance
def Ee(R:Int):Prop:=(aL R.natAbs).length≤8192
instance (R:Int):Decidable (Ee R):=by unfold Ee;infer_instance
theorem v8(R:Int):cT (dG R)=R:=by
 unfold cT dG
 by_cases Z:R < 0
 ·simp only [Z,decide_true,if_true];omega
 ·simp only [Z,decide_false,Bool.false_eq_true,if_false];omega
def c6(K:Bool)(n:Nat):Int:=if K then -(n:Int) else(n:Int)
theorem pK(K:Bool)(n:Nat):(c6 K n).natAbs=n:=by unfold c6;cases K <;> simp
theorem Ef(K:Bool)(n:Nat):decide (c6 K n < 0)=(K && decide (n ≠ 0)):=by
 unfold c6
 cases K
 ·simp
 ·by_cases Z:n=0
  ·subst Z;simp
  ·simp only [if_true,Bool.true_and,Z,ne_eq,not_false_eq_true,decide_true,decide_eq_true_eq];omega
theorem I2(K:Bool)(n:Nat):dG (c6 K n)=((K && decide (n ≠ 0)),n):=by unfold dG;rw [pK,Ef]
theorem I3{a K aE:Int}(b:0 < K)(aY:aE*K≤a)(c:a < (aE+1)*K):a / K=aE:=by
 refine Int.le_antisymm (Int.lt_add_one_iff.mp (Int.ediv_lt_of_lt_mul b c)) (Int.le_ediv_of_mul_le b aY)
def hB(a K:Int):Int:=if K < 0 then(-a) / (-K) else a / K
def pL(a K:Int):Int:=a - K*hB a K
def hC(a bA:Nat):Nat:=if bA < 2*(a % bA)∨(2*(a % bA)=bA∧a / bA % 2=1) then a / bA+1 else a / bA
def k1(a K:Int):Int:=c6 (xor (decide (a < 0)) (decide (K < 0))) (hC a.natAbs K.natAbs)
theorem I4{bA:Nat}(Z:bA ≠ 0):(0:Int) < (bA:Int):=by omega
theorem v9{p aE:Bool}{a bA:Nat}(e:bA ≠ 0)(c:p=true→a ≠ 0):hB (c6 p a) (c6 aE bA)=c6 (xor p aE) (if (xor p aE)=true∧a % bA ≠ 0 then a / bA+1 else a / bA):=by
 have key:∀ (r:Bool),(r=true→a ≠ 0)→c6 r a / (bA:Int)=c6 r (if r=true∧a % bA ≠ 0 then a / bA+1 else a / bA):=by
  intro r i
  have j:=Nat.div_add_mod a bA
  have k:=Nat.mod_lt a (show 0 < bA by omega)
  refine I3 (I4 e) ?_ ?_
  ·cases r
   ·simp only [c6,Bool.false_eq_true,false_and,if_false]
    have:a / bA*bA≤a:=Nat.div_mul_le_self _ _
    exact_mod_cast this
   ·simp only [c6,if_true,true_and]
    split
    ·have:a≤(a / bA+1)*bA:=by rw [Nat.add_mul,Nat.one_mul,Nat.mul_comm];omega
     have b:(a:Int)≤(((a / bA+1:Nat):Int))*(bA:Int):=by exact_mod_cast this
     rw [Int.neg_mul];omega
    ·rename_i Z
     have:a=a / bA*bA:=by rw [Nat.mul_comm];omega
     have b:(a:Int)=(((a / bA:Nat):Int))*(bA:Int):=by exact_mod_cast this
     rw [Int.neg_mul];omega
  ·cases r
   ·simp only [c6,Bool.false_eq_true,false_and,if_false]
    have:a < (a / bA+1)*bA:=by rw [Nat.add_mul,Nat.one_mul,Nat.mul_comm];omega
    exact_mod_cast this
   ·simp only [c6,if_true,true_and]
    split
    ·rename_i Z
     have:a / bA*bA < a:=by rw [Nat.mul_comm];omega
     have b:(((a / bA:Nat):Int))*(bA:Int) < (a:Int):=by exact_mod_cast this
     have f:(-(((a / bA+1:Nat):Int))+1)=-(((a / bA:Nat):Int)):=by omega
     rw [f,Int.neg_mul];omega
    ·rename_i Z
     have aV:a=a / bA*bA:=by rw [Nat.mul_comm];omega
     have b:(a:Int)=(((a / bA:Nat):Int))*(bA:Int):=by exact_mod_cast aV
     rw [Int.add_mul,Int.neg_mul,Int.one_mul];omega
 unfold hB
 cases aE
 ·have O:c6 false bA=(bA:Int):=rfl
  rw [O,if_neg (by omega),key p c]
  simp
 ·have O:c6 true bA=-(bA:Int):=rfl
  rw [O,if_pos (by omega),Int.neg_neg]
  have g:-c6 p a=c6 (!p) a:=by cases p <;> simp [c6]
  rw [g]
  by_cases d:a=0
  ·subst d
   have h:p=false:=by cases p;rfl;exact absurd rfl (c rfl)
   subst h
   simp [c6]
  ·rw [key (!p) fun _=>d]
   cases p <;> simp
def g4(R aC:Int):Int:=if R < aC then -1 else if R=aC then 0 else 1
theorem I5(K:Bool)(a bA:Nat):c6 K a+c6 K bA=c6 K (a+bA):=by unfold c6;cases K <;> simp <;> omega
theorem Eg{p aE:Bool}{a bA:Nat}(Z:p ≠ aE)(b:bA≤a):c6 p a+c6 aE bA=c6 p (a - bA):=by
 unfold c6;cases p <;> cases aE <;> simp at Z ⊢ <;> omega
theorem A1(p:Bool)(a:Nat):-c6 p a=c6 (!p) a:=by unfold c6;cases p <;> simp
theorem A2(p aE:Bool)(a bA:Nat):c6 p a*c6 aE bA=c6 (xor p aE) (a*bA):=by
 unfold c6;cases p <;> cases aE <;> simp [Int.neg_mul,Int.mul_neg]
theorem oS(p:Bool):c6 p 0=0:=by unfold c6;cases p <;> rfl
theorem A3{p:Bool}{a:Nat}:c6 p a=0↔a=0:=by unfold c6;cases p <;> simp
theorem A4(a:Nat):c6 false a=(a:Int):=rfl
theorem Eh(n:Nat):((2:Int) ^ n)=c6 false (2 ^ n):=by rw [A4];exact(Int.natCast_pow 2 n).symm
theorem I6(n:Nat):(2:Nat) ^ n ≠ 0:=Nat.pos_iff_ne_zero.mp (Nat.two_pow_pos n)
theorem I7(p:Bool)(a n:Nat):c6 p a*2 ^ n=c6 p (a*2 ^ n):=by rw [Eh,A2];simp
theorem Ei{p:Bool}{a:Nat}(Z:p=true→a ≠ 0):decide (c6 p a < 0)=p:=by
 rw [Ef];cases p
 ·rfl
 ·simp [Z rfl]
theorem A5(K:Int):hB 0 K=0:=by unfold hB;split <;> simp
theorem I8{p aE:Bool}{a bA:Nat}(b:bA ≠ 0)(c:p=true→a ≠ 0):k1 (c6 p a) (c6 aE bA)=c6 (xor p aE) (hC a bA):=by
 unfold k1
 rw [Ei c,Ei fun _=>b,pK,pK]
theorem I9{a K:Int}(b:0 < K):hB a K*K≤a∧a < (hB a K+1)*K:=by
 unfold hB;rw [if_neg (by omega)]
 exact⟨Int.ediv_mul_le _ (by omega),Int.lt_ediv_add_one_mul_self _ b⟩
theorem Ja(K:Int):pL 0 K=0:=by unfold pL;rw [A5];simp
theorem Ej{p aE:Bool}{a bA:Nat}(e:bA ≠ 0)(f:p=true→a ≠ 0):pL (c6 p a) (c6 aE bA)=c6 aE (if (xor p aE)=true∧a % bA ≠ 0 then bA - a % bA else a % bA):=by
 unfold pL
 rw [v9 e f,A2]
 have b:=Nat.div_add_mod a bA
 have h:=Nat.mod_lt a (show 0 < bA by omega)
 have ex:(xor aE (xor p aE))=p:=by cases p <;> cases aE <;> rfl
 rw [ex]
 generalize a % bA=r at *
 generalize a / bA=Q at *
 have g:bA*(Q+1)=bA*Q+bA:=by rw [Nat.mul_add,Nat.mul_one]
 by_cases c:(xor p aE)=true∧r ≠ 0
 ·rw [if_pos c,if_pos c,g]
  generalize bA*Q=T at *
  subst b
  obtain⟨aG,bG⟩:=c
  cases p <;> cases aE <;> simp at aG <;> simp only [c6,if_true,Bool.false_eq_true,if_false] <;> omega
 ·rw [if_neg c,if_neg c]
  generalize bA*Q=T at *
  subst b
  have dA:p=aE∨r=0:=by
   by_cases d:r=0
   ·exact Or.inr d
   ·refine Or.inl ?_
    cases p <;> cases aE <;> first | rfl | exact absurd ⟨rfl,d⟩ c
  rcases dA with rfl | rfl
  ·cases p <;> simp only [c6,if_true,Bool.false_eq_true,if_false] <;> omega
  ·cases p <;> cases aE <;> simp only [c6,if_true,Bool.false_eq_true,if_false] <;> omega
section
variable {a K:M} {c aT l m:Nat} {L aP:List Nat} {aV Z:U} {N aQ:Int}
end
section
variable {a K:M} {c aT l m:Nat} {L aP:List Nat} {Z:U} {N aQ:Int} {p aE:Bool}
end
section
variable {a K:M} {c aT l m:Nat} {L aP:List Nat} {Z:U} {N aQ:Int} {p aE:Bool}
end
section
variable {a K:M} {c aT l m a1 bH:Nat} {L aP:List Nat} {Z:U} {N aQ:Int}
theorem gV.bP(r:cL b7 Z a c (D.aL a1))(O:l=(D.aL a1).length):a0 gV.id #[.slice a l c] Z fun v aB=>bC Z aB∧gA Z aB v a1:=by
 have:=m3 r O
 rw [D.eV] at this;exact this
end
namespace fJ
def aM.v(a:Bool)(b:Nat):(Bool × Nat):=
 fI (b) fun b=>
 bif a then
  ((decide (((((D.aL b).length:Nat):Int)) > (0:Int))),b)
 else
  (false,b)
theorem aM.bP{Y:aD}{aV Z:U}(b:bC aV Z){o:Bool}{aJ:M}{aG aH:Nat}{f:Nat}(r:cL b7 Z aJ aG (D.aL f))(s:aH=(D.aL f).length)(g:hJ gD aV Y (aM.v o f)):aM.t Y o aJ aH aG Z:=by
 subst s
 have c:=bC.refl Z
 unfold aM.v at g
 unfold aM.t
 refine eX fun u a l=>?_
 have a:dU u (Z.size) [.bool false,.slice none (D.aL 0).length 0]:=by rw [D.eK];exact a
 have h:aV.size≤Z.size:=b.le
 have i:Z.size≤Z.size:=c.le
 have A:=a.lt
 have w:=l.cP
 have b:=b.trans l
 have c:=c.trans l
 refine b5 (gV.bP (r.cP (w)) rfl) fun v B ⟨j,aI⟩=>?_
 obtain⟨C,q⟩:∃ p,p=f:=⟨_,rfl⟩
 rw [← q] at aI
 replace g:=fW q g
 obtain⟨E,F,rfl,k⟩:=aI
 refine bD rfl (?_)
 have k:=k.from b.le
 have G:=j.cP
 have a:=a.aS j
 have b:=b.trans j
 have c:=c.trans j
 refine vO g (fun x g=>?_) (fun x g=>?_)
 ·refine eQ a (bZ _ _) rfl fun y a d m=>?_
  have b:=b2.aS b d h
  have c:=b2.aS c d i
  refine eQ a (bZ _ _) rfl fun z a e n=>?_
  have b:=b2.aS b e h
  have c:=b2.aS c e i
  refine c5 a (bZ _ _) rfl ?_
  refine cY rfl ?_
  refine c5 a (bZ _ _) rfl ?_
  refine bD rfl ?_
  exact g _ _ b ⟨_,_,rfl,(k.cP (m.trans n))⟩
 ·refine eQ a (bZ _ _) rfl fun y a d m=>?_
  have b:=b2.aS b d h
  have c:=b2.aS c d i
  refine eQ a (bZ _ _) rfl fun z a e n=>?_
  have b:=b2.aS b e h
  have c:=b2.aS c e i
  refine c5 a (bZ _ _) rfl ?_
  refine cY rfl ?_
  refine c5 a (bZ _ _) rfl ?_
  refine bD rfl ?_
  exact g _ _ b ⟨_,_,rfl,(k.cP (m.trans n))⟩
def v(a:Bool)(b:Nat):(Bool × Nat):=aM.v a b
theorem bP{Z:U}{a:Bool}{aJ:M}{aG aH:Nat}{b:Nat}(c:cL b7 Z aJ aG (D.aL b))(d:aH=(D.aL b).length):a0 id #[.bool a,.slice aJ aH aG] Z fun e f=>bC Z f∧gD Z f e (v a b):=
 ok (aM.bP (bC.refl _) c d fun v aB S aI=>⟨S,aI⟩)
end fJ
theorem qT(a1:Nat):(D.aL a1).length=0↔a1=0:=by
 constructor
 ·intro Z
  have a:D.aL a1=[]:=List.length_eq_zero_iff.mp Z
  rw [← D.eV a1,a];rfl
 ·intro Z;subst Z;simp [D.eK]
theorem Jb(K:Bool)(a1:Nat):fJ.v K a1=dG (c6 K a1):=by
 unfold fJ.v fJ.aM.v
 rw [I2]
 have O:decide ((((D.aL a1).length:Nat):Int) > 0)=decide (a1 ≠ 0):=by
  rw [decide_eq_decide];have:=qT a1;omega
 simp only [fI,O]
 cases K <;> rfl
section
variable {a K:M} {c aT l m a1:Nat} {L aP:List Nat} {Z:U} {N aQ:Int} {p aE:Bool}
theorem fJ.bI(r:cL b7 Z a c (D.aL a1))(O:l=(D.aL a1).length):a0 fJ.id #[.bool p,.slice a l c] Z fun v aB=>bC Z aB∧gD Z aB v (dG (c6 p a1)):=by rw [← Jb];exact fJ.bP r O
theorem mP.bI(R:In .i64 N):a0 mP.id #[.int .i64 N] Z fun v aB=>bC Z aB∧gD Z aB v (dG N):=by
 rw [qD] at R
 refine mP.ok ?_
 unfold mP.t mP.aM.t
 refine eX fun m a n=>?_
 refine cC (fun b=>?_) fun b=>?_
 ·have b:N < 0:=b
  refine jS (aQ:=N+1) (wrap_i64 (by omega) (by omega)) ?_
  refine jS (aQ:=-(N+1)) (by rw [show 0 - (N+1)=-(N+1) by omega];exact wrap_i64 (by omega) (by omega)) ?_
  refine jS (aQ:=(((N+1).natAbs:Nat):Int)) (by rw [wrap_u64];omega) ?_
  refine b5 (m4 (aA:=(N+1).natAbs) rfl (by omega) m) fun v o ⟨c,aI⟩=>?_
  refine aI.elim fun aJ aG e=>?_
  refine b5 (m4 (aA:=1) rfl (by omega) o) fun v fX ⟨f,aI⟩=>?_
  refine aI.elim fun bL bG q=>?_
  have aH:(D.aL (N+1).natAbs).length≤2:=Ay.mpr (by omega)
  have bX:(D.aL 1).length≤2:=Ay.mpr (by omega)
  refine b5 (AH (e.rd.aS f) q.rd rfl rfl (by omega) (by omega)) fun v x ⟨p,aI⟩=>?_
  refine aI.elim fun dR dA r=>?_
  refine b5 (fJ.bI r.rd rfl) fun v s ⟨d,aI⟩=>?_
  have g:c6 true ((N+1).natAbs+1)=N:=by unfold c6;simp only [if_true];omega
  rw [g] at aI
  have eI:=n.trans (c.trans (f.trans p))
  obtain⟨dZ,eE,O,h⟩:=aI
  subst O
  refine eW rfl ?_
  refine cK ?_
  refine cY rfl ?_
  refine cK ?_
  refine bD rfl ?_
  refine dY ?_
  have a:=a.aS (c.trans (f.trans (p.trans d)))
  refine eQ a (bZ _ _) rfl fun u a i j=>?_
  refine eQ a (bZ _ _) rfl fun w a k l=>?_
  refine c5 a (bZ _ _) rfl ?_
  refine cY rfl ?_
  refine c5 a (bZ _ _) rfl ?_
  refine bD rfl ?_
  exact⟨b2.aS (b2.aS (eI.trans d) i (Nat.le_refl _)) k (Nat.le_refl _),_,_,rfl,(h.from eI.le).cP (j.trans l)⟩
 ·have b:¬ N < 0:=b
  refine jS (aQ:=((N.natAbs:Nat):Int)) (by rw [wrap_u64];omega) ?_
  refine b5 (m4 (aA:=N.natAbs) rfl (by omega) m) fun v o ⟨c,aI⟩=>?_
  refine aI.elim fun aJ aG e=>?_
  refine b5 (fJ.bI e.rd rfl) fun v s ⟨d,aI⟩=>?_
  have g:c6 false N.natAbs=N:=by unfold c6;simp only [Bool.false_eq_true,if_false];omega
  rw [g] at aI
  have eI:=n.trans c
  obtain⟨dZ,eE,O,h⟩:=aI
  subst O
  refine eW rfl ?_
  refine cK ?_
  refine cY rfl ?_
  refine cK ?_
  refine bD rfl ?_
  refine dY ?_
  have a:=a.aS (c.trans d)
  refine eQ a (bZ _ _) rfl fun u a i j=>?_
  refine eQ a (bZ _ _) rfl fun w a k l=>?_
  refine c5 a (bZ _ _) rfl ?_
  refine cY rfl ?_
  refine c5 a (bZ _ _) rfl ?_
  refine bD rfl ?_
  exact⟨b2.aS (b2.aS (eI.trans d) i (Nat.le_refl _)) k (Nat.le_refl _),_,_,rfl,(h.from eI.le).cP (j.trans l)⟩
end
section
variable {a K:M} {c aT l m a1:Nat} {L aP:List Nat} {Z:U} {N aQ:Int} {p aE:Bool}
end
theorem A6(a:Int):∃ p b,a=c6 p b∧(p=true→b ≠ 0)∧b=a.natAbs:=by
 by_cases Z:a < 0
 ·exact⟨true,a.natAbs,by unfold c6;simp;omega,fun _=>by omega,rfl⟩
 ·exact⟨false,a.natAbs,by unfold c6;simp;omega,fun Z=>(by cases Z),rfl⟩
theorem Ek{a bA:Nat}(Z:a % bA ≠ 0):a / bA+1≤a:=by
 have c:=Nat.div_add_mod a bA
 rcases Nat.eq_zero_or_pos bA with aV | aV
 ·subst aV;simp at Z ⊢;omega
 have d:=Nat.mod_lt a aV
 generalize a % bA=r at *
 have b:2≤bA:=by omega
 have e:=Nat.mul_le_mul_right (a / bA) b
 omega
theorem Jc{a K:Int}(b:K ≠ 0):(hB a K).natAbs≤a.natAbs:=by
 obtain⟨p,e,rfl,c,_⟩:=A6 a
 obtain⟨aE,bA,rfl,f,_⟩:=A6 K
 have d:bA ≠ 0:=fun Z=>b (A3.mpr Z)
 rw [v9 d c,pK,pK]
 split
 ·rename_i Z;exact Ek Z.2
 ·exact Nat.div_le_self _ _
theorem Jd{a bA:Nat}(b:bA ≠ 0):hC a bA≤a:=by
 unfold hC
 split
 ·rename_i Z;exact Ek (by omega)
 ·exact Nat.div_le_self _ _
theorem Je{a K:Int}(b:K ≠ 0):(k1 a K).natAbs≤a.natAbs:=by
 unfold k1;rw [pK];exact Jd (by omega)
theorem Jf{a K:Int}:k1 (-a) K=-k1 a K:=by
 by_cases Z:a=0
 ·subst Z
  unfold k1
  have:hC (0:Int).natAbs K.natAbs=0:=by
   unfold hC;simp
  simp only [Int.neg_zero,this,oS]
 ·unfold k1
  rw [Int.natAbs_neg,A1]
  congr 1
  have:decide (-a < 0)=!decide (a < 0):=by
   by_cases b:a < 0
   ·simp [b];omega
   ·simp [b];omega
  rw [this];cases decide (a < 0) <;> cases decide (K < 0) <;> rfl
theorem Jg(R aC:Int):decide (g4 R aC > 0)=decide (R > aC):=by
 unfold g4
 rcases Int.lt_trichotomy R aC with Z | Z | Z
 ·rw [if_pos Z];simp;omega
 ·subst Z;simp
 ·rw [if_neg (by omega),if_neg (by omega)];simp;omega
theorem Jh(R:Int):(g4 R 0 == 0)=decide (R=0):=by
 unfold g4
 rcases Int.lt_trichotomy R 0 with Z | Z | Z
 ·rw [if_pos Z];have:R ≠ 0:=by omega
  simp [this]
 ·subst Z;simp
 ·rw [if_neg (by omega),if_neg (by omega)];have:R ≠ 0:=by omega
  simp [this]
section
variable {a:M} {c l:Nat} {L:List Nat} {Z:U} {N:Int} {p:Bool}
end
theorem El(Z:U)(a:M)(c:Nat):cL b7 Z a c (D.aL 0):=by rw [D.eK];exact cL.nil _ _ _
theorem sF(aV Z:U):cZ b7 aV Z none 0 (D.aL 0):=by rw [D.eK];exact cZ.nil _ _
theorem _root_.Go.Gv.dU.Em{Z:U}{K S:Nat}{bV:List Value}(aN:dU Z K (bV.set S (.slice none 0 0))):dU Z K (bV.set S (.slice none (D.aL 0).length 0)):=by rw [D.eK];exact aN
theorem m9{a1 bH:Nat}(Z:a1≤bH):(D.aL a1).length≤(D.aL bH).length:=D.mY Z
theorem wA(a1 bH:Nat):(D.aL (a1*bH)).length≤(D.aL a1).length+(D.aL bH).length:=by
 have a:=(D.gE (n:=a1)).mp (Nat.le_refl _)
 have b:=(D.gE (n:=bH)).mp (Nat.le_refl _)
 rw [D.gE,Nat.mul_add,Nat.pow_add]
 exact Nat.mul_lt_mul'' a b
theorem wB(a1 bH:Nat):(D.aL (a1+bH)).length≤(D.aL a1).length+(D.aL bH).length+1:=by
 have a:=(D.gE (n:=a1)).mp (Nat.le_refl _)
 have b:=(D.gE (n:=bH)).mp (Nat.le_refl _)
 rw [D.gE]
 generalize (D.aL a1).length=aC at *
 generalize (D.aL bH).length=S at *
 have aY:2 ^ (32*aC)≤2 ^ (32*(aC+S)):=Nat.pow_le_pow_right (by decide) (by omega)
 have c:2 ^ (32*S)≤2 ^ (32*(aC+S)):=Nat.pow_le_pow_right (by decide) (by omega)
 have d:2*2 ^ (32*(aC+S))≤2 ^ (32*(aC+S+1)):=by
  have:(2:Nat)*2 ^ (32*(aC+S))=2 ^ (32*(aC+S)+1):=by rw [Nat.pow_succ];omega
  rw [this];exact Nat.pow_le_pow_right (by decide) (by omega)
 omega
theorem Ji{N:Int}(R:In .u64 N):(D.aL N.toNat).length≤2:=by
 rw [Aw] at R
 exact D.gE.mpr (by show N.toNat < 2 ^ 64;omega)
theorem Jj(a1 bH:Nat):(D.aL (m5 a1 bH).1).length≤(D.aL a1).length:=by
 unfold m5;split
 ·exact m9 (Nat.zero_le _)
 ·exact m9 (Nat.div_le_self _ _)
theorem Jk(a1 bH:Nat):(D.aL (m5 a1 bH).2).length≤(D.aL a1).length:=by
 unfold m5;split
 ·exact m9 (Nat.zero_le _)
 ·exact m9 (Nat.mod_le _ _)
theorem pM(K:Bool)(a1:Nat):(cT (K,a1)).natAbs=a1:=pK K a1
theorem qU{R:Int}{n:Nat}(Z:R.natAbs≤n):(D.aL (dG R).2).length≤(D.aL n).length:=D.mY Z
theorem k2(K:Bool)(a1:Nat):(D.aL (dG (c6 K a1)).2).length≤(D.aL a1).length:=qU (by rw [pK];exact Nat.le_refl _)
theorem A7{N:Int}(R:In .i64 N):(D.aL (dG N).2).length≤2:=by
 rw [qD] at R
 exact D.gE.mpr (by show N.natAbs < 2 ^ 64;omega)
theorem A8(K:Bool)(a1:Nat):(D.aL (dG (-cT (K,a1))).2).length≤(D.aL a1).length:=qU (by rw [Int.natAbs_neg,pM];exact Nat.le_refl _)
theorem A9(K:Bool)(a1:Nat)(c:Bool)(bH:Nat):(D.aL (dG (cT (K,a1)+cT (c,bH))).2).length≤(D.aL a1).length+(D.aL bH).length+1:=
 Nat.le_trans (qU (n:=a1+bH) (by have:=Int.natAbs_add_le (cT (K,a1)) (cT (c,bH));rw [pM,pM] at this;exact this)) (wB a1 bH)
theorem En(K:Bool)(a1:Nat)(c:Bool)(bH:Nat):(D.aL (dG (cT (K,a1) - cT (c,bH))).2).length≤(D.aL a1).length+(D.aL bH).length+1:=
 Nat.le_trans (qU (n:=a1+bH) (by have:=Int.natAbs_sub_le (cT (K,a1)) (cT (c,bH));rw [pM,pM] at this;exact this)) (wB a1 bH)
theorem Jl(K:Bool)(a1:Nat):(D.aL (dG (cT (K,a1)*2 ^ (Int.toNat (1:Int)))).2).length≤(D.aL a1).length+1:=by
 refine Nat.le_trans (qU (n:=a1*2) (by rw [Int.natAbs_mul,pM];exact Nat.le_refl _)) (Nat.le_trans (wA a1 2) ?_)
 have:(D.aL 2).length≤1:=D.gE.mpr (by decide)
 omega
def mQ(a K:Int):uD × uD:=if K≤0 then((false,0),(false,0)) else(dG (a / K),dG (a % K))
theorem Eo{a K:Int}(Z:0 < K):hB a K=a / K:=by unfold hB;rw [if_neg (by omega)]
theorem Jm(a K:Int):(hB a K).natAbs≤a.natAbs:=by
 by_cases Z:K=0
 ·subst Z;unfold hB;simp
 ·exact Jc Z
theorem Ba(n:Nat):(D.aL 0).length≤n:=by simp [D.eK]
theorem Jn(K:Bool)(a1:Nat)(c:Bool)(bH:Nat):(D.aL (mQ (cT (K,a1)) (cT (c,bH))).1.2).length≤(D.aL a1).length:=by
 unfold mQ;split
 ·exact Ba _
 ·rename_i Z
  have:=Jm (cT (K,a1)) (cT (c,bH))
  rw [Eo (by omega),pM] at this
  exact qU this
theorem Jo(K:Bool)(a1:Nat)(c:Bool)(bH:Nat):(D.aL (mQ (cT (K,a1)) (cT (c,bH))).2.2).length≤(D.aL bH).length:=by
 unfold mQ;split
 ·exact Ba _
 ·rename_i Z
  refine qU ?_
  have aY:=Int.emod_lt_of_pos (cT (K,a1)) (show 0 < cT (c,bH) by omega)
  have a:=Int.emod_nonneg (cT (K,a1)) (show cT (c,bH) ≠ 0 by omega)
  have b:=pM c bH
  omega
def mR(a K:Int):uD:=if K < 0 then dG 1 else if K=0 then(false,0) else dG (k1 a K)
def uE(a K:Int):uD:=if K=0 then(false,0) else dG (k1 a K)
theorem Jp(K:Bool)(a1:Nat)(c:Bool)(bH:Nat):(D.aL (mR (cT (K,a1)) (cT (c,bH))).2).length≤(D.aL a1).length+1:=by
 unfold mR;split
 ·have:(D.aL (dG 1).2).length≤1:=D.gE.mpr (by decide)
  omega
 ·split
  ·exact Ba _
  ·exact Nat.le_succ_of_le (qU (by have:=Je (a:=cT (K,a1)) (K:=cT (c,bH)) (by omega);rw [pM] at this;exact this))
section
variable {a K:M} {c aT l m a1 bH:Nat} {L aP:List Nat} {Z:U} {N aQ:Int}
theorem hM.bP(R:In .u64 N):a0 hM.id #[.int .u64 N] Z fun v aB=>bC Z aB∧gA Z aB v N.toNat:=m4 (DR R).1 (DR R).2 Z
theorem g8.bP(r:cL b7 Z a c (D.aL a1))(O:l=(D.aL a1).length)(aI:cL b7 Z K aT (D.aL bH))(f:m=(D.aL bH).length)(b:(D.aL a1).length≤100000000)(b:(D.aL bH).length≤100000000):a0 g8.id #[.slice a l c,.slice K m aT] Z fun v aB=>bC Z aB∧gA Z aB v (a1+bH):=AH r aI O f (by omega) (by omega)
theorem hN.bP(r:cL b7 Z a c (D.aL a1))(O:l=(D.aL a1).length)(aI:cL b7 Z K aT (D.aL bH))(f:m=(D.aL bH).length):a0 hN.id #[.slice a l c,.slice K m aT] Z fun v aB=>bC Z aB∧gA Z aB v (a1 - bH):=Du r aI O f
theorem h9.bP(r:cL b7 Z a c (D.aL a1))(O:l=(D.aL a1).length)(aI:cL b7 Z K aT (D.aL bH))(f:m=(D.aL bH).length)(b:(D.aL a1).length≤100000000)(b:(D.aL bH).length≤100000000):a0 h9.id #[.slice a l c,.slice K m aT] Z fun v aB=>bC Z aB∧gA Z aB v (a1*bH):=HF r aI O f (by omega) (by omega)
theorem h8.bP(r:cL b7 Z a c (D.aL a1))(O:l=(D.aL a1).length)(aI:cL b7 Z K aT (D.aL bH))(f:m=(D.aL bH).length):a0 h8.id #[.slice a l c,.slice K m aT] Z fun v aB=>bC Z aB∧mZ .i64 Z aB v (fD a1 bH):=DQ (yC r aI O f) fun v aI=>⟨aI,Ip _ _⟩
theorem iR.bP(r:cL b7 Z a c (D.aL a1))(O:l=(D.aL a1).length)(aI:cL b7 Z K aT (D.aL bH))(f:m=(D.aL bH).length)(b:(D.aL a1).length≤100000000):a0 iR.id #[.slice a l c,.slice K m aT] Z fun v aB=>bC Z aB∧s2 gA gA Z aB v (m5 a1 bH):=HW r aI O f (by omega)
theorem nM.bP(r:cL b7 Z a c (D.aL a1))(O:l=(D.aL a1).length)(R:In .i64 N):a0 nM.id #[.slice a l c,.int .i64 N] Z fun v aB=>bC Z aB∧mZ .i64 Z aB v (r3 a1 N):=DQ (HO r O R) fun v aI=>⟨aI,by unfold r3;split <;> rw [qD] <;> omega⟩
theorem kL.bP(r:cL b7 Z a c (D.aL a1))(O:l=(D.aL a1).length)(R:In .i64 N)(aA:0≤N):a0 kL.id #[.slice a l c,.int .i64 N] Z fun v aB=>bC Z aB∧gA Z aB v (a1 / 2 ^ N.toNat):=by
 rw [qD] at R;exact AM r O (n:=N.toNat) (by omega) (by omega)
theorem kZ.bP(r:cL b7 Z a c (D.aL a1))(O:l=(D.aL a1).length)(R:In .i64 N)(aA:0≤N)(b:(D.aL a1).length≤100000000):a0 kZ.id #[.slice a l c,.int .i64 N] Z fun v aB=>bC Z aB∧gA Z aB v (a1 % 2 ^ N.toNat):=by
 rw [qD] at R;exact HH r O (n:=N.toNat) (by omega) (by omega) (by omega)
theorem kB.bP(r:cL b7 Z a c (D.aL a1))(O:l=(D.aL a1).length)(R:In .i64 N)(aA:0≤N)(b:N≤35184372088832∨a1=0)(i:(D.aL a1).length≤100000000):a0 kB.id #[.slice a l c,.int .i64 N] Z fun v aB=>bC Z aB∧gA Z aB v (a1*2 ^ N.toNat):=by
 by_cases aV:N≤35184372088832
 ·exact yF r O (n:=N.toNat) (by omega) (by omega) (by omega)
 ·have d:a1=0:=by rcases b with b | b;exact absurd b aV;exact b
  subst d;subst O
  rw [Nat.zero_mul]
  refine kB.ok ?_
  unfold kB.t kB.aM.t
  have f:(D.aL 0).length=0:=by simp [D.eK]
  refine cC (fun aY=>absurd aY (by omega)) fun aY=>?_
  refine fN (fun e=>?_) fun e=>absurd (by rw [f];rfl) e
  have d:D.val (D.aL 0)=0:=D.eV 0
  refine b5 (m3 r rfl) fun v aB ⟨g,aI⟩=>?_
  rw [d] at aI
  exact aI.elim fun bL bG h=>⟨g,bL,bG,rfl,h⟩
end
namespace j6
def aM.v(a:Bool)(b:Nat):Int:=
 bif (((((D.aL b).length:Nat):Int)) == (0:Int)) then
  (0:Int)
 else
  bif a then
   (-1:Int)
  else
   (1:Int)
theorem aM.bP{Y:aD}{aV Z:U}(a:bC aV Z){f:Bool}{h:M}{i j:Nat}{b:Nat}(n:cL b7 Z h i (D.aL b))(k:j=(D.aL b).length)(g:hJ (mZ .i64) aV Y (aM.v f b)):aM.t Y f h j i Z:=by
 subst k
 have c:=bC.refl Z
 unfold aM.v at g
 unfold aM.t
 refine eX fun o d e=>?_
 have p:aV.size≤Z.size:=a.le
 have q:Z.size≤Z.size:=c.le
 have r:=d.lt
 have s:=e.cP
 have a:=a.trans e
 have c:=c.trans e
 refine c5 d (bZ _ _) rfl ?_
 refine bD rfl ?_
 refine Av g (fun l g=>?_) (fun l g=>?_)
 ·exact g _ _ a ⟨rfl,(show In .i64 (0:Int) by decide)⟩
 ·refine c5 d (bZ _ _) rfl ?_
  refine cY rfl ?_
  refine vO g (fun m g=>?_) (fun m g=>?_)
  ·exact g _ _ a ⟨rfl,(show In .i64 (-1:Int) by decide)⟩
  ·exact g _ _ a ⟨rfl,(show In .i64 (1:Int) by decide)⟩
def v(a:Bool)(b:Nat):Int:=aM.v a b
theorem bP{Z:U}{a:Bool}{b:M}{c d:Nat}{e:Nat}(f:cL b7 Z b c (D.aL e))(g:d=(D.aL e).length):a0 id #[.agg #[.bool a,.slice b d c]] Z fun b c=>bC Z c∧(mZ .i64) Z c b (v a e):=
 ok (aM.bP (bC.refl _) f g fun v aB S aI=>⟨S,aI⟩)
end j6
namespace l1
def aM.v(a:Bool)(b:Nat):(Bool × Nat):=
 fI (dG (c6 (!a) b)) fun a=>
 (a.1,a.2)
theorem aM.bP{Y:aD}{aV Z:U}(a:bC aV Z){h:Bool}{q:M}{r s:Nat}{e:Nat}(y:cL b7 Z q r (D.aL e))(z:s=(D.aL e).length)(g:hJ gD aV Y (aM.v h e)):aM.t Y h q s r Z:=by
 subst z
 have b:=bC.refl Z
 unfold aM.v at g
 unfold aM.t
 refine eX fun i c k=>?_
 have H:aV.size≤Z.size:=a.le
 have I:Z.size≤Z.size:=b.le
 have J:=c.lt
 have A:=k.cP
 have a:=a.trans k
 have b:=b.trans k
 refine eX fun B d j=>?_
 have u:Z.size ≠ i.size:=Nat.ne_of_lt c.lt
 have d:dU B (i.size) [.bool false,.slice none (D.aL 0).length 0]:=by rw [D.eK];exact d
 have w:aV.size≤i.size:=a.le
 have x:Z.size≤i.size:=b.le
 have P:=d.lt
 have C:=j.cP
 have c:=c.aS j
 have a:=a.trans j
 have b:=b.trans j
 refine c5 c (bZ _ _) rfl ?_
 refine cY rfl ?_
 refine c5 c (bZ _ _) rfl ?_
 refine bD rfl ?_
 refine b5 (fJ.bI (y.cP (A.trans C)) rfl) fun v Q ⟨f,aI⟩=>?_
 obtain⟨T,l⟩:∃ p,p=dG (c6 (!h) e):=⟨_,rfl⟩
 rw [← l] at aI
 replace g:=fW l g
 have E:=k2 (!h) e
 rw [← l] at E
 obtain⟨V,Nv,rfl,m⟩:=aI
 refine eW rfl (cK (cY rfl (cK (bD rfl (dY (?_))))))
 have m:=m.from a.le
 have Nw:=f.cP
 have c:=c.aS f
 have d:=d.aS f
 have a:=a.trans f
 have b:=b.trans f
 refine eQ d (bZ _ _) rfl fun Nx d n F=>?_
 have c:=c.cG u n
 have a:=b2.aS a n w
 have b:=b2.aS b n x
 refine eQ d (bZ _ _) rfl fun Ny d o G=>?_
 have c:=c.cG u o
 have a:=b2.aS a o w
 have b:=b2.aS b o x
 refine c5 d (bZ _ _) rfl ?_
 refine cY rfl ?_
 refine c5 d (bZ _ _) rfl ?_
 refine bD rfl ?_
 exact g _ _ a ⟨_,_,rfl,(m.cP (F.trans G))⟩
def v(a:Bool)(b:Nat):(Bool × Nat):=aM.v a b
theorem bP{Z:U}{a:Bool}{b:M}{c d:Nat}{e:Nat}(f:cL b7 Z b c (D.aL e))(g:d=(D.aL e).length):a0 id #[.agg #[.bool a,.slice b d c]] Z fun b c=>bC Z c∧gD Z c b (v a e):=
 ok (aM.bP (bC.refl _) f g fun v aB S aI=>⟨S,aI⟩)
end l1
namespace k3
def aM.v(a:Bool)(b:Nat)(c:Bool)(d:Nat):(Bool × Nat):=
 bif (a == c) then
  fI (b+d) fun e=>
  fI (dG (c6 a e)) fun e=>
  (e.1,e.2)
 else
  bif (decide ((fD b d)≥(0:Int))) then
   fI (b - d) fun e=>
   fI (dG (c6 a e)) fun a=>
   (a.1,a.2)
  else
   fI (d - b) fun a=>
   fI (dG (c6 c a)) fun a=>
   (a.1,a.2)
theorem aM.bP{Y:aD}{aV Z:U}(a:bC aV Z){s:Bool}{NI:M}{NJ NK:Nat}{n:Nat}(E:cL b7 Z NI NJ (D.aL n))(NU:NK=(D.aL n).length)(N7:(D.aL n).length≤1000000){F:Bool}{NL:M}{NM NN:Nat}{o:Nat}(G:cL b7 Z NL NM (D.aL o))(NV:NN=(D.aL o).length)(N8:(D.aL o).length≤1000000)(g:hJ gD aV Y (aM.v s n F o)):aM.t Y s NI NK NJ F NL NN NM Z:=by
 subst NU NV
 have d:=bC.refl Z
 have N9:(D.aL 0).length=0:=by simp [D.eK]
 unfold aM.v at g
 unfold aM.t
 refine eX fun H b Q=>?_
 have Oa:aV.size≤Z.size:=a.le
 have Ob:Z.size≤Z.size:=d.le
 have z:=b.lt
 have r:=Q.cP
 have a:=a.trans Q
 have d:=d.trans Q
 refine eX fun A c I=>?_
 have Oc:Z.size ≠ H.size:=Nat.ne_of_lt b.lt
 have Od:aV.size≤H.size:=a.le
 have Oe:Z.size≤H.size:=d.le
 have J:=c.lt
 have l:=I.cP
 have b:=b.aS I
 have a:=a.trans I
 have d:=d.trans I
 refine eX fun NW e B=>?_
 have u:Z.size ≠ A.size:=Nat.ne_of_lt b.lt
 have w:H.size ≠ A.size:=Nat.ne_of_lt c.lt
 have e:dU NW (A.size) [.bool false,.slice none (D.aL 0).length 0]:=by rw [D.eK];exact e
 have x:aV.size≤A.size:=a.le
 have y:Z.size≤A.size:=d.le
 have Of:=e.lt
 have i:=B.cP
 have b:=b.aS B
 have c:=c.aS B
 have a:=a.trans B
 have d:=d.trans B
 refine c5 b (bZ _ _) rfl ?_
 refine cY rfl ?_
 refine c5 c (bZ _ _) rfl ?_
 refine cY rfl ?_
 refine vO g (fun NX g=>?_) (fun NX g=>?_)
 ·refine⟨h0 (bZ _ _) ((l.trans i).lt z),?_⟩
  refine c5 b (bZ _ _) rfl ?_
  refine cY rfl ?_
  refine⟨h0 (bZ _ _) ((l.trans i).lt z),?_⟩
  refine c5 b (bZ _ _) rfl ?_
  refine bD rfl ?_
  refine⟨h0 (bZ _ _) ((i).lt J),?_⟩
  refine c5 c (bZ _ _) rfl ?_
  refine bD rfl ?_
  refine b5 (g8.bP (E.cP (r.trans (l.trans i))) rfl (G.cP (r.trans (l.trans i))) rfl (by first | assumption | decide | omega) (by first | assumption | decide | omega)) fun v NY ⟨j,aI⟩=>?_
  obtain⟨NO,T⟩:∃ p,p=n+o:=⟨_,rfl⟩
  rw [← T] at aI
  replace g:=fW T g
  have NZ:=wB n o
  rw [← T] at NZ
  obtain⟨Og,Oh,rfl,V⟩:=aI
  refine bD rfl (?_)
  have V:=V.from a.le
  have m:=j.cP
  have b:=b.aS j
  have c:=c.aS j
  have e:=e.aS j
  have a:=a.trans j
  have d:=d.trans j
  refine⟨j.fL (Nat.le_refl _),?_⟩
  refine b5 (fJ.bI V.rd rfl) fun v NP ⟨f,aI⟩=>?_
  obtain⟨Oi,Nv⟩:∃ p,p=dG (c6 s NO):=⟨_,rfl⟩
  rw [← Nv] at aI
  replace g:=fW Nv g
  have N0:=k2 s NO
  rw [← Nv] at N0
  obtain⟨Oj,Ok,rfl,Nw⟩:=aI
  refine eW rfl (cK (cY rfl (cK (bD rfl (dY (?_))))))
  have Nw:=Nw.from a.le
  have P:=f.cP
  have b:=b.aS f
  have c:=c.aS f
  have e:=e.aS f
  have a:=a.trans f
  have d:=d.trans f
  refine⟨f.fL (m).le,?_⟩
  refine eQ e (bZ _ _) rfl fun NQ e h Nx=>?_
  have b:=b.cG u h
  have c:=c.cG w h
  have a:=b2.aS a h x
  have d:=b2.aS d h y
  refine eQ e (bZ _ _) rfl fun NR e k C=>?_
  have b:=b.cG u k
  have c:=c.cG w k
  have a:=b2.aS a k x
  have d:=b2.aS d k y
  refine c5 e (bZ _ _) rfl ?_
  refine cY rfl ?_
  refine c5 e (bZ _ _) rfl ?_
  refine bD rfl ?_
  exact g _ _ a ⟨_,_,rfl,(Nw.cP (Nx.trans C))⟩
 ·refine c5 b (bZ _ _) rfl ?_
  refine bD rfl ?_
  refine c5 c (bZ _ _) rfl ?_
  refine bD rfl ?_
  refine b5 (h8.bP (E.cP (r.trans (l.trans i))) rfl (G.cP (r.trans (l.trans i))) rfl) fun v NY ⟨j,aI⟩=>?_
  obtain⟨rfl,Ol⟩:=aI
  refine bR rfl (?_)
  have m:=j.cP
  have b:=b.aS j
  have c:=c.aS j
  have e:=e.aS j
  have a:=a.trans j
  have d:=d.trans j
  refine vP g (fun N1 g=>?_) (fun N1 g=>?_)
  ·refine⟨h0 (bZ _ _) ((l.trans (i.trans m)).lt z),?_⟩
   refine c5 b (bZ _ _) rfl ?_
   refine cY rfl ?_
   refine⟨h0 (bZ _ _) ((l.trans (i.trans m)).lt z),?_⟩
   refine c5 b (bZ _ _) rfl ?_
   refine bD rfl ?_
   refine⟨h0 (bZ _ _) ((i.trans m).lt J),?_⟩
   refine c5 c (bZ _ _) rfl ?_
   refine bD rfl ?_
   refine b5 (hN.bP (E.cP (r.trans (l.trans (i.trans m)))) rfl (G.cP (r.trans (l.trans (i.trans m)))) rfl) fun v NP ⟨f,aI⟩=>?_
   obtain⟨NS,Ny⟩:∃ p,p=n - o:=⟨_,rfl⟩
   rw [← Ny] at aI
   replace g:=fW Ny g
   have N2:=m9 (Nat.sub_le n o)
   rw [← Ny] at N2
   obtain⟨Om,On,rfl,Nz⟩:=aI
   refine bD rfl (?_)
   have Nz:=Nz.from a.le
   have P:=f.cP
   have b:=b.aS f
   have c:=c.aS f
   have e:=e.aS f
   have a:=a.trans f
   have d:=d.trans f
   refine⟨f.fL (Nat.le_refl _),?_⟩
   refine b5 (fJ.bI Nz.rd rfl) fun v NQ ⟨h,aI⟩=>?_
   obtain⟨Oo,NA⟩:∃ p,p=dG (c6 s NS):=⟨_,rfl⟩
   rw [← NA] at aI
   replace g:=fW NA g
   have N3:=k2 s NS
   rw [← NA] at N3
   obtain⟨Oq,Ot,rfl,NB⟩:=aI
   refine eW rfl (cK (cY rfl (cK (bD rfl (dY (?_))))))
   have NB:=NB.from a.le
   have Nx:=h.cP
   have b:=b.aS h
   have c:=c.aS h
   have e:=e.aS h
   have a:=a.trans h
   have d:=d.trans h
   refine⟨h.fL (P).le,?_⟩
   refine eQ e (bZ _ _) rfl fun NR e k C=>?_
   have b:=b.cG u k
   have c:=c.cG w k
   have a:=b2.aS a k x
   have d:=b2.aS d k y
   refine eQ e (bZ _ _) rfl fun N4 e q NC=>?_
   have b:=b.cG u q
   have c:=c.cG w q
   have a:=b2.aS a q x
   have d:=b2.aS d q y
   refine c5 e (bZ _ _) rfl ?_
   refine cY rfl ?_
   refine c5 e (bZ _ _) rfl ?_
   refine bD rfl ?_
   exact g _ _ a ⟨_,_,rfl,(NB.cP (C.trans NC))⟩
  ·refine⟨h0 (bZ _ _) ((i.trans m).lt J),?_⟩
   refine c5 c (bZ _ _) rfl ?_
   refine cY rfl ?_
   refine⟨h0 (bZ _ _) ((i.trans m).lt J),?_⟩
   refine c5 c (bZ _ _) rfl ?_
   refine bD rfl ?_
   refine⟨h0 (bZ _ _) ((l.trans (i.trans m)).lt z),?_⟩
   refine c5 b (bZ _ _) rfl ?_
   refine bD rfl ?_
   refine b5 (hN.bP (G.cP (r.trans (l.trans (i.trans m)))) rfl (E.cP (r.trans (l.trans (i.trans m)))) rfl) fun v NP ⟨f,aI⟩=>?_
   obtain⟨NT,ND⟩:∃ p,p=o - n:=⟨_,rfl⟩
   rw [← ND] at aI
   replace g:=fW ND g
   have N5:=m9 (Nat.sub_le o n)
   rw [← ND] at N5
   obtain⟨Ou,Ov,rfl,NF⟩:=aI
   refine bD rfl (?_)
   have NF:=NF.from a.le
   have P:=f.cP
   have b:=b.aS f
   have c:=c.aS f
   have e:=e.aS f
   have a:=a.trans f
   have d:=d.trans f
   refine⟨f.fL (Nat.le_refl _),?_⟩
   refine b5 (fJ.bI NF.rd rfl) fun v NQ ⟨h,aI⟩=>?_
   obtain⟨Ow,NG⟩:∃ p,p=dG (c6 F NT):=⟨_,rfl⟩
   rw [← NG] at aI
   replace g:=fW NG g
   have N6:=k2 F NT
   rw [← NG] at N6
   obtain⟨Ox,Oy,rfl,NH⟩:=aI
   refine eW rfl (cK (cY rfl (cK (bD rfl (dY (?_))))))
   have NH:=NH.from a.le
   have Nx:=h.cP
   have b:=b.aS h
   have c:=c.aS h
   have e:=e.aS h
   have a:=a.trans h
   have d:=d.trans h
   refine⟨h.fL (P).le,?_⟩
   refine eQ e (bZ _ _) rfl fun NR e k C=>?_
   have b:=b.cG u k
   have c:=c.cG w k
   have a:=b2.aS a k x
   have d:=b2.aS d k y
   refine eQ e (bZ _ _) rfl fun N4 e q NC=>?_
   have b:=b.cG u q
   have c:=c.cG w q
   have a:=b2.aS a q x
   have d:=b2.aS d q y
   refine c5 e (bZ _ _) rfl ?_
   refine cY rfl ?_
   refine c5 e (bZ _ _) rfl ?_
   refine bD rfl ?_
   exact g _ _ a ⟨_,_,rfl,(NH.cP (C.trans NC))⟩
def v(a:Bool)(b:Nat)(c:Bool)(d:Nat):(Bool × Nat):=aM.v a b c d
theorem bP{Z:U}{a:Bool}{b:M}{c d:Nat}{e:Nat}(f:cL b7 Z b c (D.aL e))(g:d=(D.aL e).length)(h:(D.aL e).length≤1000000){i:Bool}{j:M}{k l:Nat}{m:Nat}(n:cL b7 Z j k (D.aL m))(o:l=(D.aL m).length)(p:(D.aL m).length≤1000000):a0 id #[.agg #[.bool a,.slice b d c],.agg #[.bool i,.slice j l k]] Z fun b c=>bC Z c∧gD Z c b (v a e i m):=
 ok (aM.bP (bC.refl _) f g h n o p fun v aB S aI=>⟨S,aI⟩)
end k3
namespace nT
def aM.v(a:Bool)(b:Nat)(c:Bool)(d:Nat):(Bool × Nat):=
 fI (b*d) fun b=>
 fI (dG (c6 ((!(a == c))) b)) fun a=>
 (a.1,a.2)
theorem aM.bP{Y:aD}{aV Z:U}(a:bC aV Z){n:Bool}{C:M}{E F:Nat}{i:Nat}(Ny:cL b7 Z C E (D.aL i))(Nz:F=(D.aL i).length)(NJ:(D.aL i).length≤1000000){o:Bool}{G:M}{H I:Nat}{j:Nat}(NA:cL b7 Z G H (D.aL j))(NB:I=(D.aL j).length)(NK:(D.aL j).length≤1000000)(g:hJ gD aV Y (aM.v n i o j)):aM.t Y n C F E o G I H Z:=by
 subst Nz NB
 have b:=bC.refl Z
 have NL:(D.aL 0).length=0:=by simp [D.eK]
 unfold aM.v at g
 unfold aM.t
 refine eX fun q c x=>?_
 have NM:aV.size≤Z.size:=a.le
 have NN:Z.size≤Z.size:=b.le
 have J:=c.lt
 have P:=x.cP
 have a:=a.trans x
 have b:=b.trans x
 refine eX fun l d r=>?_
 have NO:Z.size ≠ q.size:=Nat.ne_of_lt c.lt
 have NP:aV.size≤q.size:=a.le
 have NQ:Z.size≤q.size:=b.le
 have Q:=d.lt
 have s:=r.cP
 have c:=c.aS r
 have a:=a.trans r
 have b:=b.trans r
 refine eX fun NC e m=>?_
 have T:Z.size ≠ l.size:=Nat.ne_of_lt c.lt
 have V:q.size ≠ l.size:=Nat.ne_of_lt d.lt
 have e:dU NC (l.size) [.bool false,.slice none (D.aL 0).length 0]:=by rw [D.eK];exact e
 have Nv:aV.size≤l.size:=a.le
 have Nw:Z.size≤l.size:=b.le
 have NR:=e.lt
 have k:=m.cP
 have c:=c.aS m
 have d:=d.aS m
 have a:=a.trans m
 have b:=b.trans m
 refine⟨h0 (bZ _ _) ((s.trans k).lt J),?_⟩
 refine c5 c (bZ _ _) rfl ?_
 refine cY rfl ?_
 refine⟨h0 (bZ _ _) ((k).lt Q),?_⟩
 refine c5 d (bZ _ _) rfl ?_
 refine cY rfl ?_
 refine⟨h0 (bZ _ _) ((s.trans k).lt J),?_⟩
 refine c5 c (bZ _ _) rfl ?_
 refine bD rfl ?_
 refine⟨h0 (bZ _ _) ((k).lt Q),?_⟩
 refine c5 d (bZ _ _) rfl ?_
 refine bD rfl ?_
 refine b5 (h9.bP (Ny.cP (P.trans (s.trans k))) rfl (NA.cP (P.trans (s.trans k))) rfl (by first | assumption | decide | omega) (by first | assumption | decide | omega)) fun v NS ⟨f,aI⟩=>?_
 obtain⟨Nx,y⟩:∃ p,p=i*j:=⟨_,rfl⟩
 rw [← y] at aI
 replace g:=fW y g
 have ND:=wA i j
 rw [← y] at ND
 obtain⟨NT,NU,rfl,z⟩:=aI
 refine bD rfl (?_)
 have z:=z.from a.le
 have NF:=f.cP
 have c:=c.aS f
 have d:=d.aS f
 have e:=e.aS f
 have a:=a.trans f
 have b:=b.trans f
 refine⟨f.fL (Nat.le_refl _),?_⟩
 refine b5 (fJ.bI z.rd rfl) fun v NV ⟨h,aI⟩=>?_
 obtain⟨NW,A⟩:∃ p,p=dG (c6 ((!(n == o))) Nx):=⟨_,rfl⟩
 rw [← A] at aI
 replace g:=fW A g
 have NG:=k2 ((!(n == o))) Nx
 rw [← A] at NG
 obtain⟨NX,NY,rfl,B⟩:=aI
 refine eW rfl (cK (cY rfl (cK (bD rfl (dY (?_))))))
 have B:=B.from a.le
 have NZ:=h.cP
 have c:=c.aS h
 have d:=d.aS h
 have e:=e.aS h
 have a:=a.trans h
 have b:=b.trans h
 refine⟨h.fL (NF).le,?_⟩
 refine eQ e (bZ _ _) rfl fun N0 e u NH=>?_
 have c:=c.cG T u
 have d:=d.cG V u
 have a:=b2.aS a u Nv
 have b:=b2.aS b u Nw
 refine eQ e (bZ _ _) rfl fun N1 e w NI=>?_
 have c:=c.cG T w
 have d:=d.cG V w
 have a:=b2.aS a w Nv
 have b:=b2.aS b w Nw
 refine c5 e (bZ _ _) rfl ?_
 refine cY rfl ?_
 refine c5 e (bZ _ _) rfl ?_
 refine bD rfl ?_
 exact g _ _ a ⟨_,_,rfl,(B.cP (NH.trans NI))⟩
def v(a:Bool)(b:Nat)(c:Bool)(d:Nat):(Bool × Nat):=aM.v a b c d
theorem bP{Z:U}{a:Bool}{b:M}{c d:Nat}{e:Nat}(f:cL b7 Z b c (D.aL e))(g:d=(D.aL e).length)(h:(D.aL e).length≤1000000){i:Bool}{j:M}{k l:Nat}{m:Nat}(n:cL b7 Z j k (D.aL m))(o:l=(D.aL m).length)(p:(D.aL m).length≤1000000):a0 id #[.agg #[.bool a,.slice b d c],.agg #[.bool i,.slice j l k]] Z fun b c=>bC Z c∧gD Z c b (v a e i m):=
 ok (aM.bP (bC.refl _) f g h n o p fun v aB S aI=>⟨S,aI⟩)
end nT
namespace kM
def aM.v(a:Bool)(b:Nat)(aK:Int):(Bool × Nat):=
 fI (b*2 ^ (Int.toNat aK)) fun b=>
 fI (dG (c6 a b)) fun a=>
 (a.1,a.2)
theorem aM.bP{Y:aD}{aV Z:U}(a:bC aV Z){i:Bool}{u:M}{w x:Nat}{e:Nat}(F:cL b7 Z u w (D.aL e))(G:x=(D.aL e).length)(Nv:(D.aL e).length≤1000000){aK:Int}(H:In .i64 aK)(Nw:0≤aK)(Nx:aK≤35184372088832∨e=0)(g:hJ gD aV Y (aM.v i e aK)):aM.t Y i u x w aK Z:=by
 subst G
 have b:=bC.refl Z
 have Ny:(D.aL 0).length=0:=by simp [D.eK]
 unfold aM.v at g
 unfold aM.t
 refine eX fun j c l=>?_
 have Nz:aV.size≤Z.size:=a.le
 have NA:Z.size≤Z.size:=b.le
 have y:=c.lt
 have I:=l.cP
 have a:=a.trans l
 have b:=b.trans l
 refine eX fun J d k=>?_
 have z:Z.size ≠ j.size:=Nat.ne_of_lt c.lt
 have d:dU J (j.size) [.bool false,.slice none (D.aL 0).length 0]:=by rw [D.eK];exact d
 have A:aV.size≤j.size:=a.le
 have B:Z.size≤j.size:=b.le
 have NB:=d.lt
 have m:=k.cP
 have c:=c.aS k
 have a:=a.trans k
 have b:=b.trans k
 refine⟨h0 (bZ _ _) ((m).lt y),?_⟩
 refine c5 c (bZ _ _) rfl ?_
 refine cY rfl ?_
 refine⟨h0 (bZ _ _) ((m).lt y),?_⟩
 refine c5 c (bZ _ _) rfl ?_
 refine bD rfl ?_
 refine b5 (kB.bP (F.cP (I.trans m)) rfl H (by first | assumption | decide | omega) (by first | assumption | decide | omega) (by first | assumption | decide | omega)) fun v NC ⟨f,aI⟩=>?_
 obtain⟨C,E⟩:∃ p,p=e*2 ^ (Int.toNat aK):=⟨_,rfl⟩
 rw [← E] at aI
 replace g:=fW E g
 obtain⟨ND,NF,rfl,n⟩:=aI
 refine bD rfl (?_)
 have n:=n.from a.le
 have P:=f.cP
 have c:=c.aS f
 have d:=d.aS f
 have a:=a.trans f
 have b:=b.trans f
 refine⟨f.fL (Nat.le_refl _),?_⟩
 refine b5 (fJ.bI n.rd rfl) fun v NG ⟨h,aI⟩=>?_
 obtain⟨NH,o⟩:∃ p,p=dG (c6 i C):=⟨_,rfl⟩
 rw [← o] at aI
 replace g:=fW o g
 have Q:=k2 i C
 rw [← o] at Q
 obtain⟨NI,NJ,rfl,q⟩:=aI
 refine eW rfl (cK (cY rfl (cK (bD rfl (dY (?_))))))
 have q:=q.from a.le
 have NK:=h.cP
 have c:=c.aS h
 have d:=d.aS h
 have a:=a.trans h
 have b:=b.trans h
 refine⟨h.fL (P).le,?_⟩
 refine eQ d (bZ _ _) rfl fun NL d r T=>?_
 have c:=c.cG z r
 have a:=b2.aS a r A
 have b:=b2.aS b r B
 refine eQ d (bZ _ _) rfl fun NM d s V=>?_
 have c:=c.cG z s
 have a:=b2.aS a s A
 have b:=b2.aS b s B
 refine c5 d (bZ _ _) rfl ?_
 refine cY rfl ?_
 refine c5 d (bZ _ _) rfl ?_
 refine bD rfl ?_
 exact g _ _ a ⟨_,_,rfl,(q.cP (T.trans V))⟩
def v(a:Bool)(b:Nat)(aK:Int):(Bool × Nat):=aM.v a b aK
theorem bP{Z:U}{a:Bool}{b:M}{c d:Nat}{e:Nat}(f:cL b7 Z b c (D.aL e))(g:d=(D.aL e).length)(h:(D.aL e).length≤1000000){aK:Int}(i:In .i64 aK)(j:0≤aK)(k:aK≤35184372088832∨e=0):a0 id #[.agg #[.bool a,.slice b d c],.int .i64 aK] Z fun b c=>bC Z c∧gD Z c b (v a e aK):=
 ok (aM.bP (bC.refl _) f g h i j k fun v aB S aI=>⟨S,aI⟩)
end kM
namespace nA
def aZ.v(a:Bool)(a:Nat)(b:Bool)(b:Nat)(b:Bool)(b:Nat)(b:Nat)(c:Nat):((Bool × Nat) × (Bool × Nat)):=
 fI (Int.toNat (1:Int)) fun d=>
 fI (b+d) fun b=>
 fI (dG (c6 true b)) fun b=>
 fI (a - c) fun a=>
 fI (dG (c6 false a)) fun a=>
 ((b.1,b.2),(a.1,a.2))
theorem aZ.bP{Y:aD}{aV Z:U}(a:bC aV Z){V:Bool}{Nv:M}{Nw:Nat}{m:Nat}(NS:cL b7 Z Nv Nw (D.aL m))(N4:(D.aL m).length≤10000000){q:Nat}(d:dU Z q [.bool V,.slice Nv (D.aL m).length Nw])(N5:aV.size≤q){Nx:Bool}{Ny:M}{Nz:Nat}{s:Nat}(N6:cZ b7 aV Z Ny Nz (D.aL s))(N7:(D.aL s).length≤10000000){fF:Nat}(b:dU Z fF [.bool Nx,.slice Ny (D.aL s).length Nz])(NA:aV.size≤fF){NB:Bool}{NC:M}{ND:Nat}{u:Nat}(N8:cZ b7 aV Z NC ND (D.aL u))(N9:(D.aL u).length≤10000000){hD:Nat}(c:dU Z hD [.bool NB,.slice NC (D.aL u).length ND])(NF:aV.size≤hD){a9:M}{bB NG:Nat}{n:Nat}(NT:cZ b7 aV Z a9 bB (D.aL n))(NU:NG=(D.aL n).length)(Oa:(D.aL n).length≤10000000){cM:M}{cO NH:Nat}{o:Nat}(NV:cZ b7 aV Z cM cO (D.aL o))(NW:NH=(D.aL o).length)(Ob:(D.aL o).length≤10000000)(NI:q ≠ fF)(NJ:q ≠ hD)(w:fF ≠ hD)(g:hJ (s2 gD gD) aV Y (aZ.v V m Nx s NB u n o)):aZ.t Y (⟨q,0,none⟩:Addr) (⟨fF,0,none⟩:Addr) (⟨hD,0,none⟩:Addr) a9 NG bB cM NH cO Z:=by
 subst NU NW
 have e:=bC.refl Z
 have NX:=d.lt
 have Oc:=b.lt
 have Od:=c.lt
 have Oe:(D.aL 0).length=0:=by simp [D.eK]
 unfold aZ.v at g
 unfold aZ.t
 refine b5 (hM.bP (show In .u64 (1:Int) by decide)) fun v Of ⟨f,aI⟩=>?_
 obtain⟨NK,y⟩:∃ p,p=Int.toNat (1:Int):=⟨_,rfl⟩
 rw [← y] at aI
 replace g:=fW y g
 have NY:=Ji (show In .u64 (1:Int) by decide)
 rw [← y] at NY
 obtain⟨Og,Oh,rfl,z⟩:=aI
 refine bD rfl (?_)
 have z:=z.from a.le
 have h:=f.cP
 have d:=d.aS f
 have b:=b.aS f
 have c:=c.aS f
 have a:=a.trans f
 have e:=e.trans f
 refine⟨f.fL (Nat.le_refl _),?_⟩
 refine b5 (g8.bP (NT.cP (h)).rd rfl z.rd rfl (by first | assumption | decide | omega) (by first | assumption | decide | omega)) fun v Oi ⟨i,aI⟩=>?_
 obtain⟨NL,A⟩:∃ p,p=n+NK:=⟨_,rfl⟩
 rw [← A] at aI
 replace g:=fW A g
 have NZ:=wB n NK
 rw [← A] at NZ
 obtain⟨Oj,Ok,rfl,B⟩:=aI
 refine bD rfl (?_)
 have B:=B.from a.le
 have r:=i.cP
 have d:=d.aS i
 have b:=b.aS i
 have c:=c.aS i
 have a:=a.trans i
 have e:=e.trans i
 refine⟨i.fL (h).le,?_⟩
 refine b5 (fJ.bI B.rd rfl) fun v Ol ⟨j,aI⟩=>?_
 obtain⟨Om,C⟩:∃ p,p=dG (c6 true NL):=⟨_,rfl⟩
 rw [← C] at aI
 replace g:=fW C g
 have N0:=k2 true NL
 rw [← C] at N0
 obtain⟨On,Oo,rfl,E⟩:=aI
 refine eW rfl (cK (cY rfl (cK (bD rfl (dY (?_))))))
 have E:=E.from a.le
 have x:=j.cP
 have d:=d.aS j
 have b:=b.aS j
 have c:=c.aS j
 have a:=a.trans j
 have e:=e.trans j
 refine⟨j.fL (h.trans r).le,?_⟩
 refine⟨h0 (bZ _ _) (NX),?_⟩
 refine c5 d (bZ _ _) rfl ?_
 refine bD rfl ?_
 refine b5 (hN.bP (NS.cP (h.trans (r.trans x))) rfl (NV.cP (h.trans (r.trans x))).rd rfl) fun v Oq ⟨k,aI⟩=>?_
 obtain⟨NM,F⟩:∃ p,p=m - o:=⟨_,rfl⟩
 rw [← F] at aI
 replace g:=fW F g
 have N1:=m9 (Nat.sub_le m o)
 rw [← F] at N1
 obtain⟨Ot,Ou,rfl,G⟩:=aI
 refine bD rfl (?_)
 have G:=G.from a.le
 have NN:=k.cP
 have d:=d.aS k
 have b:=b.aS k
 have c:=c.aS k
 have a:=a.trans k
 have e:=e.trans k
 refine⟨k.fL (h.trans (r.trans x)).le,?_⟩
 refine b5 (fJ.bI G.rd rfl) fun v Ov ⟨l,aI⟩=>?_
 obtain⟨Ow,H⟩:∃ p,p=dG (c6 false NM):=⟨_,rfl⟩
 rw [← H] at aI
 replace g:=fW H g
 have N2:=k2 false NM
 rw [← H] at N2
 obtain⟨Ox,Oy,rfl,I⟩:=aI
 refine eW rfl (cK (cY rfl (cK (bD rfl (dY (?_))))))
 have I:=I.from a.le
 have N3:=l.cP
 have d:=d.aS l
 have b:=b.aS l
 have c:=c.aS l
 have a:=a.trans l
 have e:=e.trans l
 refine⟨l.fL (h.trans (r.trans (x.trans NN))).le,?_⟩
 refine eQ b (bZ _ _) rfl fun Oz b J NO=>?_
 have d:=d.cG NI J
 have c:=c.cG (Ne.symm w) J
 have a:=b2.aS a J NA
 refine eQ b (bZ _ _) rfl fun OA b P NP=>?_
 have d:=d.cG NI P
 have c:=c.cG (Ne.symm w) P
 have a:=b2.aS a P NA
 refine eQ c (bZ _ _) rfl fun OB c Q NQ=>?_
 have d:=d.cG NJ Q
 have b:=b.cG w Q
 have a:=b2.aS a Q NF
 refine eQ c (bZ _ _) rfl fun OC c T NR=>?_
 have d:=d.cG NJ T
 have b:=b.cG w T
 have a:=b2.aS a T NF
 refine c5 b (bZ _ _) rfl ?_
 refine cY rfl ?_
 refine c5 b (bZ _ _) rfl ?_
 refine bD rfl ?_
 refine c5 c (bZ _ _) rfl ?_
 refine cY rfl ?_
 refine c5 c (bZ _ _) rfl ?_
 refine bD rfl ?_
 exact g _ _ a ⟨_,_,rfl,⟨_,_,rfl,(E.cP (NN.trans (N3.trans (NO.trans (NP.trans (NQ.trans NR))))))⟩,⟨_,_,rfl,(I.cP (NO.trans (NP.trans (NQ.trans NR))))⟩⟩
def aM.v(a:Bool)(b:Nat)(c:Bool)(d:Nat):((Bool × Nat) × (Bool × Nat)):=
 fI (j6.v c d) fun e=>
 bif (decide (e≤(0:Int))) then
  ((false,0),(false,0))
 else
  fI (m5 b d) fun b=>
  bif (!a) then
   fI (dG (c6 a b.1)) fun e=>
   fI (dG (c6 false b.2)) fun f=>
   ((e.1,e.2),(f.1,f.2))
  else
   bif (((((D.aL b.2).length:Nat):Int)) == (0:Int)) then
    fI (dG (c6 a b.1)) fun a=>
    fI (dG (c6 false b.2)) fun e=>
    ((a.1,a.2),(e.1,e.2))
   else
    aZ.v c d false 0 false 0 b.1 b.2
theorem aM.bP{Y:aD}{aV Z:U}(a:bC aV Z){B:Bool}{NT:M}{NU NV:Nat}{s:Nat}(N4:cL b7 Z NT NU (D.aL s))(N5:NV=(D.aL s).length)(Om:(D.aL s).length≤1000000){NH:Bool}{NW:M}{NX NY:Nat}{q:Nat}(NI:cL b7 Z NW NX (D.aL q))(N6:NY=(D.aL q).length)(On:(D.aL q).length≤1000000)(g:hJ (s2 gD gD) aV Y (aM.v B s NH q)):aM.t Y B NT NV NU NH NW NY NX Z:=by
 subst N5 N6
 have d:=bC.refl Z
 have Oo:(D.aL 0).length=0:=by simp [D.eK]
 unfold aM.v at g
 unfold aM.t
 refine eX fun P c NJ=>?_
 have Oq:aV.size≤Z.size:=a.le
 have Ot:Z.size≤Z.size:=d.le
 have Ou:=c.lt
 have Ny:=NJ.cP
 have a:=a.trans NJ
 have d:=d.trans NJ
 refine eX fun C f Nz=>?_
 have Ov:Z.size ≠ P.size:=Nat.ne_of_lt c.lt
 have N7:aV.size≤P.size:=a.le
 have Ow:Z.size≤P.size:=d.le
 have Ox:=f.lt
 have NA:=Nz.cP
 have c:=c.aS Nz
 have a:=a.trans Nz
 have d:=d.trans Nz
 refine eX fun u b Q=>?_
 have E:Z.size ≠ C.size:=Nat.ne_of_lt c.lt
 have w:P.size ≠ C.size:=Nat.ne_of_lt f.lt
 have b:dU u (C.size) [.bool false,.slice none (D.aL 0).length 0]:=by rw [D.eK];exact b
 have x:aV.size≤C.size:=a.le
 have F:Z.size≤C.size:=d.le
 have Oy:=b.lt
 have NB:=Q.cP
 have c:=c.aS Q
 have f:=f.aS Q
 have a:=a.trans Q
 have d:=d.trans Q
 refine eX fun N8 e G=>?_
 have H:Z.size ≠ u.size:=Nat.ne_of_lt c.lt
 have y:P.size ≠ u.size:=Nat.ne_of_lt f.lt
 have k:C.size ≠ u.size:=Nat.ne_of_lt b.lt
 have e:dU N8 (u.size) [.bool false,.slice none (D.aL 0).length 0]:=by rw [D.eK];exact e
 have z:aV.size≤u.size:=a.le
 have I:Z.size≤u.size:=d.le
 have Oz:=e.lt
 have NC:=G.cP
 have c:=c.aS G
 have f:=f.aS G
 have b:=b.aS G
 have a:=a.trans G
 have d:=d.trans G
 refine c5 f (bZ _ _) rfl ?_
 refine cY rfl ?_
 refine c5 f (bZ _ _) rfl ?_
 refine bD rfl ?_
 refine b5 (j6.bP (NI.cP (Ny.trans (NA.trans (NB.trans NC)))) rfl) fun v OA ⟨A,aI⟩=>?_
 obtain⟨OB,NZ⟩:∃ p,p=j6.v NH q:=⟨_,rfl⟩
 rw [← NZ] at aI
 replace g:=fW NZ g
 obtain⟨rfl,OC⟩:=aI
 refine bR rfl (?_)
 have NK:=A.cP
 have c:=c.aS A
 have f:=f.aS A
 have b:=b.aS A
 have e:=e.aS A
 have a:=a.trans A
 have d:=d.trans A
 refine vP g (fun N9 g=>?_) (fun N9 g=>?_)
 ·refine eQ b (bZ _ _) rfl fun Oa b l N0=>?_
  have c:=c.cG E l
  have f:=f.cG w l
  have e:=e.cG (Ne.symm k) l
  have a:=b2.aS a l x
  have d:=b2.aS d l F
  refine eQ b (bZ _ _) rfl fun N1 b h ND=>?_
  have b:=b.Em
  have c:=c.cG E h
  have f:=f.cG w h
  have e:=e.cG (Ne.symm k) h
  have a:=b2.aS a h x
  have d:=b2.aS d h F
  refine eQ e (bZ _ _) rfl fun N2 e i NF=>?_
  have c:=c.cG H i
  have f:=f.cG y i
  have b:=b.cG k i
  have a:=b2.aS a i z
  have d:=b2.aS d i I
  refine eQ e (bZ _ _) rfl fun N3 e j J=>?_
  have e:=e.Em
  have c:=c.cG H j
  have f:=f.cG y j
  have b:=b.cG k j
  have a:=b2.aS a j z
  have d:=b2.aS d j I
  refine c5 b (bZ _ _) rfl ?_
  refine cY rfl ?_
  refine c5 b (bZ _ _) rfl ?_
  refine bD rfl ?_
  refine c5 e (bZ _ _) rfl ?_
  refine cY rfl ?_
  refine c5 e (bZ _ _) rfl ?_
  refine bD rfl ?_
  exact g _ _ a ⟨_,_,rfl,⟨_,_,rfl,(sF _ _)⟩,⟨_,_,rfl,(sF _ _)⟩⟩
 ·refine c5 c (bZ _ _) rfl ?_
  refine bD rfl ?_
  refine c5 f (bZ _ _) rfl ?_
  refine bD rfl ?_
  refine b5 (iR.bP (N4.cP (Ny.trans (NA.trans (NB.trans (NC.trans NK))))) rfl (NI.cP (Ny.trans (NA.trans (NB.trans (NC.trans NK))))) rfl (by first | assumption | decide | omega)) fun v Oa ⟨l,aI⟩=>?_
  obtain⟨r,NG⟩:∃ p,p=m5 s q:=⟨_,rfl⟩
  rw [← NG] at aI
  replace g:=fW NG g
  have Ob:=Jj s q
  rw [← NG] at Ob
  have Oc:=Jk s q
  rw [← NG] at Oc
  obtain⟨_,_,rfl,⟨OD,OE,rfl,T⟩,⟨OF,OG,rfl,V⟩⟩:=aI
  refine g7 rfl (cK (bD rfl (cK (bD rfl (dY (?_))))))
  have T:=T.from a.le
  have V:=V.from a.le
  have N0:=l.cP
  have c:=c.aS l
  have f:=f.aS l
  have b:=b.aS l
  have e:=e.aS l
  have a:=a.trans l
  have d:=d.trans l
  refine c5 c (bZ _ _) rfl ?_
  refine cY rfl ?_
  refine C7 g (fun Od g=>?_) (fun Od g=>?_)
  ·refine c5 c (bZ _ _) rfl ?_
   refine cY rfl ?_
   refine b5 (fJ.bI T.rd rfl) fun v N1 ⟨h,aI⟩=>?_
   obtain⟨OH,NL⟩:∃ p,p=dG (c6 B r.1):=⟨_,rfl⟩
   rw [← NL] at aI
   replace g:=fW NL g
   have Oe:=k2 B r.1
   rw [← NL] at Oe
   obtain⟨OI,OJ,rfl,NM⟩:=aI
   refine eW rfl (cK (cY rfl (cK (bD rfl (dY (?_))))))
   have NM:=NM.from a.le
   have ND:=h.cP
   have c:=c.aS h
   have f:=f.aS h
   have b:=b.aS h
   have e:=e.aS h
   have a:=a.trans h
   have d:=d.trans h
   refine b5 (fJ.bI (V.cP (ND)).rd rfl) fun v N2 ⟨i,aI⟩=>?_
   obtain⟨OK,NN⟩:∃ p,p=dG (c6 false r.2):=⟨_,rfl⟩
   rw [← NN] at aI
   replace g:=fW NN g
   have Of:=k2 false r.2
   rw [← NN] at Of
   obtain⟨OL,OM,rfl,NO⟩:=aI
   refine eW rfl (cK (cY rfl (cK (bD rfl (dY (?_))))))
   have NO:=NO.from a.le
   have NF:=i.cP
   have c:=c.aS i
   have f:=f.aS i
   have b:=b.aS i
   have e:=e.aS i
   have a:=a.trans i
   have d:=d.trans i
   refine eQ b (bZ _ _) rfl fun N3 b j J=>?_
   have c:=c.cG E j
   have f:=f.cG w j
   have e:=e.cG (Ne.symm k) j
   have a:=b2.aS a j x
   have d:=b2.aS d j F
   refine eQ b (bZ _ _) rfl fun Og b m Nv=>?_
   have c:=c.cG E m
   have f:=f.cG w m
   have e:=e.cG (Ne.symm k) m
   have a:=b2.aS a m x
   have d:=b2.aS d m F
   refine eQ e (bZ _ _) rfl fun Oh e n Nw=>?_
   have c:=c.cG H n
   have f:=f.cG y n
   have b:=b.cG k n
   have a:=b2.aS a n z
   have d:=b2.aS d n I
   refine eQ e (bZ _ _) rfl fun Oi e o Nx=>?_
   have c:=c.cG H o
   have f:=f.cG y o
   have b:=b.cG k o
   have a:=b2.aS a o z
   have d:=b2.aS d o I
   refine c5 b (bZ _ _) rfl ?_
   refine cY rfl ?_
   refine c5 b (bZ _ _) rfl ?_
   refine bD rfl ?_
   refine c5 e (bZ _ _) rfl ?_
   refine cY rfl ?_
   refine c5 e (bZ _ _) rfl ?_
   refine bD rfl ?_
   exact g _ _ a ⟨_,_,rfl,⟨_,_,rfl,(NM.cP (NF.trans (J.trans (Nv.trans (Nw.trans Nx)))))⟩,⟨_,_,rfl,(NO.cP (J.trans (Nv.trans (Nw.trans Nx))))⟩⟩
  ·refine Av g (fun Oj g=>?_) (fun Oj g=>?_)
   ·refine c5 c (bZ _ _) rfl ?_
    refine cY rfl ?_
    refine b5 (fJ.bI T.rd rfl) fun v N1 ⟨h,aI⟩=>?_
    obtain⟨ON,NP⟩:∃ p,p=dG (c6 B r.1):=⟨_,rfl⟩
    rw [← NP] at aI
    replace g:=fW NP g
    have Ok:=k2 B r.1
    rw [← NP] at Ok
    obtain⟨OO,OP,rfl,NQ⟩:=aI
    refine eW rfl (cK (cY rfl (cK (bD rfl (dY (?_))))))
    have NQ:=NQ.from a.le
    have ND:=h.cP
    have c:=c.aS h
    have f:=f.aS h
    have b:=b.aS h
    have e:=e.aS h
    have a:=a.trans h
    have d:=d.trans h
    refine b5 (fJ.bI (V.cP (ND)).rd rfl) fun v N2 ⟨i,aI⟩=>?_
    obtain⟨OQ,NR⟩:∃ p,p=dG (c6 false r.2):=⟨_,rfl⟩
    rw [← NR] at aI
    replace g:=fW NR g
    have Ol:=k2 false r.2
    rw [← NR] at Ol
    obtain⟨OR,OS,rfl,NS⟩:=aI
    refine eW rfl (cK (cY rfl (cK (bD rfl (dY (?_))))))
    have NS:=NS.from a.le
    have NF:=i.cP
    have c:=c.aS i
    have f:=f.aS i
    have b:=b.aS i
    have e:=e.aS i
    have a:=a.trans i
    have d:=d.trans i
    refine eQ b (bZ _ _) rfl fun N3 b j J=>?_
    have c:=c.cG E j
    have f:=f.cG w j
    have e:=e.cG (Ne.symm k) j
    have a:=b2.aS a j x
    have d:=b2.aS d j F
    refine eQ b (bZ _ _) rfl fun Og b m Nv=>?_
    have c:=c.cG E m
    have f:=f.cG w m
    have e:=e.cG (Ne.symm k) m
    have a:=b2.aS a m x
    have d:=b2.aS d m F
    refine eQ e (bZ _ _) rfl fun Oh e n Nw=>?_
    have c:=c.cG H n
    have f:=f.cG y n
    have b:=b.cG k n
    have a:=b2.aS a n z
    have d:=b2.aS d n I
    refine eQ e (bZ _ _) rfl fun Oi e o Nx=>?_
    have c:=c.cG H o
    have f:=f.cG y o
    have b:=b.cG k o
    have a:=b2.aS a o z
    have d:=b2.aS d o I
    refine c5 b (bZ _ _) rfl ?_
    refine cY rfl ?_
    refine c5 b (bZ _ _) rfl ?_
    refine bD rfl ?_
    refine c5 e (bZ _ _) rfl ?_
    refine cY rfl ?_
    refine c5 e (bZ _ _) rfl ?_
    refine bD rfl ?_
    exact g _ _ a ⟨_,_,rfl,⟨_,_,rfl,(NQ.cP (NF.trans (J.trans (Nv.trans (Nw.trans Nx)))))⟩,⟨_,_,rfl,(NS.cP (J.trans (Nv.trans (Nw.trans Nx))))⟩⟩
   ·exact aZ.bP a (NI.cP (Ny.trans (NA.trans (NB.trans (NC.trans (NK.trans N0)))))) (by first | assumption | decide | omega) f N7 (sF _ _) (by first | assumption | decide | omega) b x (sF _ _) (by first | assumption | decide | omega) e z T rfl (by first | assumption | decide | omega) V rfl (by first | assumption | decide | omega) w y k g
def v(a:Bool)(b:Nat)(c:Bool)(d:Nat):((Bool × Nat) × (Bool × Nat)):=aM.v a b c d
theorem bP{Z:U}{a:Bool}{b:M}{c d:Nat}{e:Nat}(f:cL b7 Z b c (D.aL e))(g:d=(D.aL e).length)(h:(D.aL e).length≤1000000){i:Bool}{j:M}{k l:Nat}{m:Nat}(n:cL b7 Z j k (D.aL m))(o:l=(D.aL m).length)(p:(D.aL m).length≤1000000):a0 id #[.agg #[.bool a,.slice b d c],.agg #[.bool i,.slice j l k]] Z fun b c=>bC Z c∧(s2 gD gD) Z c b (v a e i m):=
 ok (aM.bP (bC.refl _) f g h n o p fun v aB S aI=>⟨S,aI⟩)
end nA
namespace nB
def aM.v(a:Bool)(a:Nat):Bool:=
 (((r3 a (0:Int))) == (0:Int))
theorem aM.bP{Y:aD}{aV Z:U}(a:bC aV Z){h:Bool}{i:M}{j k:Nat}{e:Nat}(l:cL b7 Z i j (D.aL e))(m:k=(D.aL e).length)(g:hJ At aV Y (aM.v h e)):aM.t Y h i k j Z:=by
 subst m
 have b:=bC.refl Z
 unfold aM.v at g
 unfold aM.t
 refine eX fun o c f=>?_
 have p:aV.size≤Z.size:=a.le
 have q:Z.size≤Z.size:=b.le
 have r:=c.lt
 have n:=f.cP
 have a:=a.trans f
 have b:=b.trans f
 refine c5 c (bZ _ _) rfl ?_
 refine bD rfl ?_
 refine b5 (nM.bP (l.cP (n)) rfl (show In .i64 (0:Int) by decide)) fun v s ⟨d,aI⟩=>?_
 obtain⟨rfl,u⟩:=aI
 refine bR rfl (?_)
 have w:=d.cP
 have c:=c.aS d
 have a:=a.trans d
 have b:=b.trans d
 exact g _ _ a rfl
def v(a:Bool)(b:Nat):Bool:=aM.v a b
theorem bP{Z:U}{a:Bool}{b:M}{c d:Nat}{e:Nat}(f:cL b7 Z b c (D.aL e))(g:d=(D.aL e).length):a0 id #[.agg #[.bool a,.slice b d c]] Z fun b c=>bC Z c∧At Z c b (v a e):=
 ok (aM.bP (bC.refl _) f g fun v aB S aI=>⟨S,aI⟩)
end nB
theorem l2(K:Bool)(a1:Nat):cT (K,a1)=c6 K a1:=rfl
theorem Ep(K:Bool)(a1:Nat):j6.v K a1=g4 (cT (K,a1)) 0:=by
 unfold j6.v j6.aM.v
 rw [l2]
 by_cases Z:a1=0
 ·have O:(((D.aL a1).length:Int) == 0)=true:=by have:=(qT a1).mpr Z;rw [this];rfl
  rw [O,Z,oS];rfl
 ·have O:(((D.aL a1).length:Int) == 0)=false:=by
   have:=mt (qT a1).mp Z
   simp only [beq_eq_false_iff_ne,ne_eq];omega
  rw [O]
  cases K
  ·have:¬ c6 false a1 < 0:=by unfold c6;simp
   have a:c6 false a1 ≠ 0:=fun O=>Z (A3.mp O)
   simp [g4,this,a]
  ·have:c6 true a1 < 0:=by unfold c6;simp;omega
   simp [g4,this]
theorem Jq(K:Bool)(a1:Nat):l1.v K a1=dG (-cT (K,a1)):=by
 rw [l2,A1];rfl
theorem Jr{m n:Nat}:decide (fD m n≥0)=decide (n≤m):=by
 unfold fD
 by_cases Z:m < n
 ·simp [Z]
 ·rw [if_neg Z];split <;> simp <;> omega
theorem Js(K c:Bool)(a1 bH:Nat):k3.v K a1 c bH=dG (cT (K,a1)+cT (c,bH)):=by
 rw [l2,l2]
 unfold k3.v k3.aM.v
 by_cases Z:K=c
 ·subst Z
  rw [I5];simp only [beq_self_eq_true,cond_true];rfl
 ·have O:(K == c)=false:=by simp [Z]
  rw [O,cond_false,Jr]
  by_cases a:bH≤a1
  ·rw [Eg Z a];simp only [a,decide_true,cond_true];rfl
  ·rw [Int.add_comm,Eg (fun O=>Z O.symm) (by omega)];simp only [a,decide_false,cond_false];rfl
theorem Jt(K c:Bool)(a1 bH:Nat):nT.v K a1 c bH=dG (cT (K,a1)*cT (c,bH)):=by
 rw [l2,l2,A2]
 have:xor K c=(!(K == c)):=by cases K <;> cases c <;> rfl
 rw [this];rfl
theorem Ju(K:Bool)(a1:Nat)(n:Int):kM.v K a1 n=dG (cT (K,a1)*2 ^ n.toNat):=by
 rw [l2,I7];rfl
theorem Er{a K:Int}(Z:0 < K):mQ a K=(dG (hB a K),dG (pL a K)):=by
 unfold mQ pL
 rw [if_neg (by omega),Eo Z,Int.emod_def]
theorem Jv(K c:Bool)(a1 bH:Nat):nA.v K a1 c bH=mQ (cT (K,a1)) (cT (c,bH)):=by
 unfold nA.v nA.aM.v
 rw [Ep,l2,l2]
 simp only [fI]
 by_cases Z:c6 c bH≤0
 ·have:decide (g4 (c6 c bH) 0≤0)=true:=by
   apply decide_eq_true;unfold g4;split
   ·decide
   ·rw [if_pos (by omega)];decide
  rw [this,cond_true]
  unfold mQ;rw [if_pos Z]
 ·have:decide (g4 (c6 c bH) 0≤0)=false:=by
   apply decide_eq_false;unfold g4;rw [if_neg (by omega),if_neg (by omega)];decide
  rw [this,cond_false,Er (by omega)]
  have f:c=false:=by
   cases c
   ·rfl
   ·exfalso;apply Z;unfold c6;simp
  subst f
  have d:bH ≠ 0:=fun O=>Z (by subst O;rw [oS];exact Int.le_refl _)
  have g:m5 a1 bH=(a1 / bH,a1 % bH):=by unfold m5;rw [if_neg d]
  rw [g]
  by_cases e:a1=0
  ·subst e
   rw [oS,A5,Ja,Nat.zero_div,Nat.zero_mod]
   have b:(((D.aL 0).length:Int) == 0)=true:=by rw [(qT 0).mpr rfl];rfl
   cases K
   ·simp only [Bool.not_false,cond_true,oS]
   ·simp only [Bool.not_true,cond_false,b,cond_true,oS]
  ·rw [v9 d fun _=>e,Ej d fun _=>e,Bool.xor_false]
   cases K
   ·simp only [Bool.not_false,cond_true,Bool.false_eq_true,false_and,if_false]
   ·simp only [Bool.not_true,cond_false,true_and]
    by_cases a:a1 % bH=0
    ·have b:(((D.aL (a1 % bH)).length:Int) == 0)=true:=by rw [(qT _).mpr a];rfl
     rw [b,cond_true,if_neg (by simp [a]),if_neg (by simp [a])]
    ·have b:(((D.aL (a1 % bH)).length:Int) == 0)=false:=by
      have:=mt (qT (a1 % bH)).mp a
      simp only [beq_eq_false_iff_ne,ne_eq];omega
     rw [b,cond_false,if_pos a,if_pos a]
     rfl
theorem Jw(K:Bool)(a1:Nat):nB.v K a1=decide (a1 % 2=0):=by
 unfold nB.v nB.aM.v r3
 rw [if_neg (by decide)]
 simp only [Int.toNat_zero,Nat.pow_zero,Nat.div_one]
 rcases Nat.mod_two_eq_zero_or_one a1 with Z | Z <;> rw [Z] <;> rfl
section
variable {a K:M} {c aT l m a1 bH:Nat} {L aP:List Nat} {Z:U} {N aQ:Int} {p aE:Bool}
theorem j6.bI(r:cL b7 Z a c (D.aL a1))(O:l=(D.aL a1).length):a0 j6.id #[.agg #[.bool p,.slice a l c]] Z fun v aB=>bC Z aB∧mZ .i64 Z aB v (g4 (cT (p,a1)) 0):=by rw [← Ep];exact j6.bP r O
theorem l1.bI(r:cL b7 Z a c (D.aL a1))(O:l=(D.aL a1).length):a0 l1.id #[.agg #[.bool p,.slice a l c]] Z fun v aB=>bC Z aB∧gD Z aB v (dG (-cT (p,a1))):=by rw [← Jq];exact l1.bP r O
theorem k3.bI(r:cL b7 Z a c (D.aL a1))(O:l=(D.aL a1).length)(aI:cL b7 Z K aT (D.aL bH))(f:m=(D.aL bH).length)(b:(D.aL a1).length≤1000000)(d:(D.aL bH).length≤1000000):a0 k3.id #[.agg #[.bool p,.slice a l c],.agg #[.bool aE,.slice K m aT]] Z fun v aB=>bC Z aB∧gD Z aB v (dG (cT (p,a1)+cT (aE,bH))):=by rw [← Js];exact k3.bP r O b aI f d
theorem nT.bI(r:cL b7 Z a c (D.aL a1))(O:l=(D.aL a1).length)(aI:cL b7 Z K aT (D.aL bH))(f:m=(D.aL bH).length)(b:(D.aL a1).length≤1000000)(d:(D.aL bH).length≤1000000):a0 nT.id #[.agg #[.bool p,.slice a l c],.agg #[.bool aE,.slice K m aT]] Z fun v aB=>bC Z aB∧gD Z aB v (dG (cT (p,a1)*cT (aE,bH))):=by rw [← Jt];exact nT.bP r O b aI f d
theorem kM.bI(r:cL b7 Z a c (D.aL a1))(O:l=(D.aL a1).length)(R:In .i64 N)(b:(D.aL a1).length≤1000000)(d:0≤N)(e:N≤35184372088832∨g4 (cT (p,a1)) 0=0):a0 kM.id #[.agg #[.bool p,.slice a l c],.int .i64 N] Z fun v aB=>bC Z aB∧gD Z aB v (dG (cT (p,a1)*2 ^ N.toNat)):=by rw [← Ju];exact kM.bP r O b R d (e.imp (fun bM=>bM) fun bM=>by
  have:(g4 (cT (p,a1)) 0 == 0)=true:=by rw [bM];rfl
  rw [Jh] at this
  exact A3.mp (of_decide_eq_true this))
theorem nA.bI(r:cL b7 Z a c (D.aL a1))(O:l=(D.aL a1).length)(aI:cL b7 Z K aT (D.aL bH))(f:m=(D.aL bH).length)(b:(D.aL a1).length≤1000000)(d:(D.aL bH).length≤1000000):a0 nA.id #[.agg #[.bool p,.slice a l c],.agg #[.bool aE,.slice K m aT]] Z fun v aB=>bC Z aB∧s2 gD gD Z aB v (mQ (cT (p,a1)) (cT (aE,bH))):=by rw [← Jv];exact nA.bP r O b aI f d
theorem nB.bI(r:cL b7 Z a c (D.aL a1))(O:l=(D.aL a1).length):a0 nB.id #[.agg #[.bool p,.slice a l c]] Z fun v aB=>bC Z aB∧At Z aB v (decide (a1 % 2=0)):=by rw [← Jw p];exact nB.bP r O
end
namespace kN
def aM.v(a:Bool)(b:Nat)(c:Bool)(d:Nat):(Bool × Nat):=
 fI (dG (-cT (c,d))) fun c=>
 fI (dG (cT (a,b)+cT (c.1,c.2))) fun a=>
 (a.1,a.2)
theorem aM.bP{Y:aD}{aV Z:U}(a:bC aV Z){m:Bool}{E:M}{F G:Nat}{i:Nat}(Nx:cL b7 Z E F (D.aL i))(Ny:G=(D.aL i).length)(NJ:(D.aL i).length≤1000000){n:Bool}{H:M}{I J:Nat}{j:Nat}(Nz:cL b7 Z H I (D.aL j))(NA:J=(D.aL j).length)(NK:(D.aL j).length≤1000000)(g:hJ gD aV Y (aM.v m i n j)):aM.t Y m E G F n H J I Z:=by
 subst Ny NA
 have b:=bC.refl Z
 have NL:(D.aL 0).length=0:=by simp [D.eK]
 unfold aM.v at g
 unfold aM.t
 refine eX fun o c x=>?_
 have NM:aV.size≤Z.size:=a.le
 have NN:Z.size≤Z.size:=b.le
 have NB:=c.lt
 have P:=x.cP
 have a:=a.trans x
 have b:=b.trans x
 refine eX fun k d q=>?_
 have NO:Z.size ≠ o.size:=Nat.ne_of_lt c.lt
 have NP:aV.size≤o.size:=a.le
 have NQ:Z.size≤o.size:=b.le
 have NC:=d.lt
 have y:=q.cP
 have c:=c.aS q
 have a:=a.trans q
 have b:=b.trans q
 refine eX fun ND e l=>?_
 have Q:Z.size ≠ k.size:=Nat.ne_of_lt c.lt
 have T:o.size ≠ k.size:=Nat.ne_of_lt d.lt
 have e:dU ND (k.size) [.bool false,.slice none (D.aL 0).length 0]:=by rw [D.eK];exact e
 have V:aV.size≤k.size:=a.le
 have Nv:Z.size≤k.size:=b.le
 have NR:=e.lt
 have r:=l.cP
 have c:=c.aS l
 have d:=d.aS l
 have a:=a.trans l
 have b:=b.trans l
 refine⟨h0 rfl ((y.trans r).lt NB),?_⟩
 refine c5 c (bZ _ _) rfl ?_
 refine cY rfl ?_
 refine c5 c (bZ _ _) rfl ?_
 refine bD rfl ?_
 refine⟨h0 rfl ((r).lt NC),?_⟩
 refine c5 d (bZ _ _) rfl ?_
 refine cY rfl ?_
 refine c5 d (bZ _ _) rfl ?_
 refine bD rfl ?_
 refine b5 (l1.bI (Nz.cP (P.trans (y.trans r))) rfl) fun v NS ⟨f,aI⟩=>?_
 obtain⟨s,z⟩:∃ p,p=dG (-cT (n,j)):=⟨_,rfl⟩
 rw [← z] at aI
 replace g:=fW z g
 have NF:=A8 n j
 rw [← z] at NF
 obtain⟨NT,NU,rfl,A⟩:=aI
 refine eW rfl (cK (cY rfl (cK (bD rfl (dY (?_))))))
 have A:=A.from a.le
 have Nw:=f.cP
 have c:=c.aS f
 have d:=d.aS f
 have e:=e.aS f
 have a:=a.trans f
 have b:=b.trans f
 refine⟨f.fL (Nat.le_refl _),?_⟩
 refine b5 (k3.bI (Nx.cP (P.trans (y.trans (r.trans Nw)))) rfl A.rd rfl (by first | assumption | decide | omega) (by first | assumption | decide | omega)) fun v NV ⟨h,aI⟩=>?_
 obtain⟨NW,B⟩:∃ p,p=dG (cT (m,i)+cT (s.1,s.2)):=⟨_,rfl⟩
 rw [← B] at aI
 replace g:=fW B g
 have NG:=A9 m i s.1 s.2
 rw [← B] at NG
 obtain⟨NX,NY,rfl,C⟩:=aI
 refine eW rfl (cK (cY rfl (cK (bD rfl (dY (?_))))))
 have C:=C.from a.le
 have NZ:=h.cP
 have c:=c.aS h
 have d:=d.aS h
 have e:=e.aS h
 have a:=a.trans h
 have b:=b.trans h
 refine⟨h.fL (Nw).le,?_⟩
 refine eQ e (bZ _ _) rfl fun N0 e u NH=>?_
 have c:=c.cG Q u
 have d:=d.cG T u
 have a:=b2.aS a u V
 have b:=b2.aS b u Nv
 refine eQ e (bZ _ _) rfl fun N1 e w NI=>?_
 have c:=c.cG Q w
 have d:=d.cG T w
 have a:=b2.aS a w V
 have b:=b2.aS b w Nv
 refine c5 e (bZ _ _) rfl ?_
 refine cY rfl ?_
 refine c5 e (bZ _ _) rfl ?_
 refine bD rfl ?_
 exact g _ _ a ⟨_,_,rfl,(C.cP (NH.trans NI))⟩
def v(a:Bool)(b:Nat)(c:Bool)(d:Nat):(Bool × Nat):=aM.v a b c d
theorem bP{Z:U}{a:Bool}{b:M}{c d:Nat}{e:Nat}(f:cL b7 Z b c (D.aL e))(g:d=(D.aL e).length)(h:(D.aL e).length≤1000000){i:Bool}{j:M}{k l:Nat}{m:Nat}(n:cL b7 Z j k (D.aL m))(o:l=(D.aL m).length)(p:(D.aL m).length≤1000000):a0 id #[.agg #[.bool a,.slice b d c],.agg #[.bool i,.slice j l k]] Z fun b c=>bC Z c∧gD Z c b (v a e i m):=
 ok (aM.bP (bC.refl _) f g h n o p fun v aB S aI=>⟨S,aI⟩)
end kN
theorem Jx(K c:Bool)(a1 bH:Nat):kN.v K a1 c bH=dG (cT (K,a1) - cT (c,bH)):=by
 unfold kN.v kN.aM.v
 simp only [fI]
 have O:cT ((dG (-cT (c,bH))).1,(dG (-cT (c,bH))).2)=-cT (c,bH):=v8 _
 rw [O,← Int.sub_eq_add_neg]
theorem Jy:dG 0=(false,0):=rfl
section
variable {a K:M} {c aT l m a1 bH:Nat} {L aP:List Nat} {Z:U} {N aQ:Int} {p aE:Bool}
theorem kN.bI(r:cL b7 Z a c (D.aL a1))(O:l=(D.aL a1).length)(aI:cL b7 Z K aT (D.aL bH))(f:m=(D.aL bH).length)(b:(D.aL a1).length≤1000000)(d:(D.aL bH).length≤1000000):a0 kN.id #[.agg #[.bool p,.slice a l c],.agg #[.bool aE,.slice K m aT]] Z fun v aB=>bC Z aB∧gD Z aB v (dG (cT (p,a1) - cT (aE,bH))):=by rw [← Jx];exact kN.bP r O b aI f d
end
namespace lE
def aM.v(a:Bool)(b:Nat)(c:Bool)(d:Nat):Int:=
 fI (dG (cT (a,b) - cT (c,d))) fun a=>
 (g4 (cT (a.1,a.2)) 0)
theorem aM.bP{Y:aD}{aV Z:U}(a:bC aV Z){j:Bool}{r:M}{s u:Nat}{e:Nat}(B:cL b7 Z r s (D.aL e))(C:u=(D.aL e).length)(I:(D.aL e).length≤700000){k:Bool}{w:M}{x y:Nat}{f:Nat}(E:cL b7 Z w x (D.aL f))(F:y=(D.aL f).length)(J:(D.aL f).length≤700000)(g:hJ (mZ .i64) aV Y (aM.v j e k f)):aM.t Y j r u s k w y x Z:=by
 subst C F
 have b:=bC.refl Z
 have P:(D.aL 0).length=0:=by simp [D.eK]
 unfold aM.v at g
 unfold aM.t
 refine eX fun m c n=>?_
 have Q:aV.size≤Z.size:=a.le
 have T:Z.size≤Z.size:=b.le
 have V:=c.lt
 have z:=n.cP
 have a:=a.trans n
 have b:=b.trans n
 refine eX fun Nv d l=>?_
 have Nw:Z.size ≠ m.size:=Nat.ne_of_lt c.lt
 have Nx:aV.size≤m.size:=a.le
 have Ny:Z.size≤m.size:=b.le
 have Nz:=d.lt
 have A:=l.cP
 have c:=c.aS l
 have a:=a.trans l
 have b:=b.trans l
 refine c5 c (bZ _ _) rfl ?_
 refine cY rfl ?_
 refine c5 c (bZ _ _) rfl ?_
 refine bD rfl ?_
 refine c5 d (bZ _ _) rfl ?_
 refine cY rfl ?_
 refine c5 d (bZ _ _) rfl ?_
 refine bD rfl ?_
 refine b5 (kN.bI (B.cP (z.trans A)) rfl (E.cP (z.trans A)) rfl (by first | assumption | decide | omega) (by first | assumption | decide | omega)) fun v NA ⟨h,aI⟩=>?_
 obtain⟨NB,o⟩:∃ p,p=dG (cT (j,e) - cT (k,f)):=⟨_,rfl⟩
 rw [← o] at aI
 replace g:=fW o g
 have G:=En j e k f
 rw [← o] at G
 obtain⟨NC,ND,rfl,q⟩:=aI
 refine eW rfl (cK (cY rfl (cK (bD rfl (dY (?_))))))
 have q:=q.from a.le
 have NF:=h.cP
 have c:=c.aS h
 have d:=d.aS h
 have a:=a.trans h
 have b:=b.trans h
 refine b5 (j6.bI q.rd rfl) fun v NG ⟨i,aI⟩=>?_
 obtain⟨rfl,H⟩:=aI
 refine bR rfl (?_)
 have NH:=i.cP
 have c:=c.aS i
 have d:=d.aS i
 have a:=a.trans i
 have b:=b.trans i
 exact g _ _ a ⟨rfl,H⟩
def v(a:Bool)(b:Nat)(c:Bool)(d:Nat):Int:=aM.v a b c d
theorem bP{Z:U}{a:Bool}{b:M}{c d:Nat}{e:Nat}(f:cL b7 Z b c (D.aL e))(g:d=(D.aL e).length)(h:(D.aL e).length≤700000){i:Bool}{j:M}{k l:Nat}{m:Nat}(n:cL b7 Z j k (D.aL m))(o:l=(D.aL m).length)(p:(D.aL m).length≤700000):a0 id #[.agg #[.bool a,.slice b d c],.agg #[.bool i,.slice j l k]] Z fun b c=>bC Z c∧(mZ .i64) Z c b (v a e i m):=
 ok (aM.bP (bC.refl _) f g h n o p fun v aB S aI=>⟨S,aI⟩)
end lE
namespace lF
def aZ.v(aK:Int)(a:Bool)(b:Nat)(c:Bool)(c:Nat)(c:Bool)(d:Nat):(Bool × Nat):=
 bif a then
  fI (b % 2 ^ (Int.toNat aK)) fun a=>
  bif (decide (((((D.aL a).length:Nat):Int)) > (0:Int))) then
   fI (dG (1:Int)) fun a=>
   fI (dG (cT (c,d) - cT (a.1,a.2))) fun a=>
   (a.1,a.2)
  else
   (c,d)
 else
  (c,d)
theorem aZ.bP{Y:aD}{aV Z:U}(c:bC aV Z){aK:Int}(Ny:In .i64 aK){G:Bool}{H:M}{I:Nat}{i:Nat}(Nz:cL b7 Z H I (D.aL i))(NL:(D.aL i).length≤700000){q:Nat}(d:dU Z q [.bool G,.slice H (D.aL i).length I])(NM:aV.size≤q){J:Bool}{P:M}{Q:Nat}{s:Nat}(NN:cZ b7 aV Z P Q (D.aL s))(NO:(D.aL s).length≤700000){fF:Nat}(a:dU Z fF [.bool J,.slice P (D.aL s).length Q])(j:aV.size≤fF){u:Bool}{T:M}{V:Nat}{k:Nat}(x:cZ b7 aV Z T V (D.aL k))(NP:(D.aL k).length≤700000){hD:Nat}(b:dU Z hD [.bool u,.slice T (D.aL k).length V])(NQ:aV.size≤hD)(l:q ≠ fF)(NR:q ≠ hD)(m:fF ≠ hD)(NS:0≤aK)(g:hJ gD aV Y (aZ.v aK G i J s u k)):aZ.t Y aK (⟨q,0,none⟩:Addr) (⟨fF,0,none⟩:Addr) (⟨hD,0,none⟩:Addr) Z:=by
 have n:=bC.refl Z
 have NT:=d.lt
 have NU:=a.lt
 have NA:=b.lt
 have NV:(D.aL 0).length=0:=by simp [D.eK]
 unfold aZ.v at g
 unfold aZ.t
 refine c5 d (bZ _ _) rfl ?_
 refine cY rfl ?_
 refine vO g (fun NB g=>?_) (fun NB g=>?_)
 ·refine c5 d (bZ _ _) rfl ?_
  refine bD rfl ?_
  refine b5 (kZ.bP Nz rfl Ny (by first | assumption | decide | omega) (by first | assumption | decide | omega)) fun v NC ⟨h,aI⟩=>?_
  obtain⟨NW,y⟩:∃ p,p=i % 2 ^ (Int.toNat aK):=⟨_,rfl⟩
  rw [← y] at aI
  replace g:=fW y g
  have ND:=m9 (Nat.mod_le i (2 ^ (Int.toNat aK)))
  rw [← y] at ND
  obtain⟨NX,NY,rfl,Nv⟩:=aI
  refine bD rfl (?_)
  have Nv:=Nv.from c.le
  have r:=h.cP
  have d:=d.aS h
  have a:=a.aS h
  have b:=b.aS h
  have c:=c.trans h
  have n:=n.trans h
  refine vP g (fun NF g=>?_) (fun NF g=>?_)
  ·refine⟨h0 rfl ((r).lt NA),?_⟩
   refine c5 b (bZ _ _) rfl ?_
   refine cY rfl ?_
   refine c5 b (bZ _ _) rfl ?_
   refine bD rfl ?_
   refine b5 (mP.bI (show In .i64 (1:Int) by decide)) fun v Nw ⟨e,aI⟩=>?_
   obtain⟨w,z⟩:∃ p,p=dG (1:Int):=⟨_,rfl⟩
   rw [← z] at aI
   replace g:=fW z g
   have NG:=A7 (show In .i64 (1:Int) by decide)
   rw [← z] at NG
   obtain⟨NZ,N0,rfl,A⟩:=aI
   refine eW rfl (cK (cY rfl (cK (bD rfl (dY (?_))))))
   have A:=A.from c.le
   have o:=e.cP
   have d:=d.aS e
   have a:=a.aS e
   have b:=b.aS e
   have c:=c.trans e
   have n:=n.trans e
   refine⟨e.fL (Nat.le_refl _),?_⟩
   refine b5 (kN.bI (x.cP (r.trans o)).rd rfl A.rd rfl (by first | assumption | decide | omega) (by first | assumption | decide | omega)) fun v NH ⟨f,aI⟩=>?_
   obtain⟨N1,B⟩:∃ p,p=dG (cT (u,k) - cT (w.1,w.2)):=⟨_,rfl⟩
   rw [← B] at aI
   replace g:=fW B g
   have NI:=En u k w.1 w.2
   rw [← B] at NI
   obtain⟨N2,N3,rfl,C⟩:=aI
   refine eW rfl (cK (cY rfl (cK (bD rfl (dY (?_))))))
   have C:=C.from c.le
   have Nx:=f.cP
   have d:=d.aS f
   have a:=a.aS f
   have b:=b.aS f
   have c:=c.trans f
   have n:=n.trans f
   refine⟨f.fL (o).le,?_⟩
   refine eQ a (bZ _ _) rfl fun N4 a E NJ=>?_
   have d:=d.cG l E
   have b:=b.cG (Ne.symm m) E
   have c:=b2.aS c E j
   refine eQ a (bZ _ _) rfl fun N5 a F NK=>?_
   have d:=d.cG l F
   have b:=b.cG (Ne.symm m) F
   have c:=b2.aS c F j
   refine c5 a (bZ _ _) rfl ?_
   refine cY rfl ?_
   refine c5 a (bZ _ _) rfl ?_
   refine bD rfl ?_
   exact g _ _ c ⟨_,_,rfl,(C.cP (NJ.trans NK))⟩
  ·refine c5 b (bZ _ _) rfl ?_
   refine cY rfl ?_
   refine c5 b (bZ _ _) rfl ?_
   refine bD rfl ?_
   refine eQ a (bZ _ _) rfl fun Nw a e o=>?_
   have d:=d.cG l e
   have b:=b.cG (Ne.symm m) e
   have c:=b2.aS c e j
   refine eQ a (bZ _ _) rfl fun NH a f Nx=>?_
   have d:=d.cG l f
   have b:=b.cG (Ne.symm m) f
   have c:=b2.aS c f j
   refine c5 a (bZ _ _) rfl ?_
   refine cY rfl ?_
   refine c5 a (bZ _ _) rfl ?_
   refine bD rfl ?_
   exact g _ _ c ⟨_,_,rfl,(x.cP (r.trans (o.trans Nx)))⟩
 ·refine c5 b (bZ _ _) rfl ?_
  refine cY rfl ?_
  refine c5 b (bZ _ _) rfl ?_
  refine bD rfl ?_
  refine eQ a (bZ _ _) rfl fun NC a h r=>?_
  have d:=d.cG l h
  have b:=b.cG (Ne.symm m) h
  have c:=b2.aS c h j
  refine eQ a (bZ _ _) rfl fun Nw a e o=>?_
  have d:=d.cG l e
  have b:=b.cG (Ne.symm m) e
  have c:=b2.aS c e j
  refine c5 a (bZ _ _) rfl ?_
  refine cY rfl ?_
  refine c5 a (bZ _ _) rfl ?_
  refine bD rfl ?_
  exact g _ _ c ⟨_,_,rfl,(x.cP (r.trans o))⟩
def aM.v(a:Bool)(b:Nat)(aK:Int):(Bool × Nat):=
 bif (decide (aK≤(0:Int))) then
  fI (dG (c6 a b)) fun c=>
  (c.1,c.2)
 else
  fI (b / 2 ^ (Int.toNat aK)) fun c=>
  fI (dG (c6 a c)) fun c=>
  aZ.v aK a b false 0 c.1 c.2
theorem aM.bP{Y:aD}{aV Z:U}(a:bC aV Z){n:Bool}{NQ:M}{NR NS:Nat}{o:Nat}(B:cL b7 Z NQ NR (D.aL o))(N1:NS=(D.aL o).length)(N9:(D.aL o).length≤150000){aK:Int}(F:In .i64 aK)(g:hJ gD aV Y (aM.v n o aK)):aM.t Y n NQ NS NR aK Z:=by
 subst N1
 have d:=bC.refl Z
 have Oa:(D.aL 0).length=0:=by simp [D.eK]
 unfold aM.v at g
 unfold aM.t
 refine eX fun A b T=>?_
 have V:aV.size≤Z.size:=a.le
 have Ob:Z.size≤Z.size:=d.le
 have NT:=b.lt
 have C:=T.cP
 have a:=a.trans T
 have d:=d.trans T
 refine eX fun E c I=>?_
 have G:Z.size ≠ A.size:=Nat.ne_of_lt b.lt
 have c:dU E (A.size) [.bool false,.slice none (D.aL 0).length 0]:=by rw [D.eK];exact c
 have H:aV.size≤A.size:=a.le
 have NU:Z.size≤A.size:=d.le
 have Oc:=c.lt
 have s:=I.cP
 have b:=b.aS I
 have a:=a.trans I
 have d:=d.trans I
 refine vP g (fun N2 g=>?_) (fun N2 g=>?_)
 ·refine c5 b (bZ _ _) rfl ?_
  refine cY rfl ?_
  refine c5 b (bZ _ _) rfl ?_
  refine bD rfl ?_
  refine b5 (fJ.bI (B.cP (C.trans s)) rfl) fun v u ⟨h,aI⟩=>?_
  obtain⟨Od,Nv⟩:∃ p,p=dG (c6 n o):=⟨_,rfl⟩
  rw [← Nv] at aI
  replace g:=fW Nv g
  have N3:=k2 n o
  rw [← Nv] at N3
  obtain⟨Oe,Of,rfl,Nw⟩:=aI
  refine eW rfl (cK (cY rfl (cK (bD rfl (dY (?_))))))
  have Nw:=Nw.from a.le
  have k:=h.cP
  have b:=b.aS h
  have c:=c.aS h
  have a:=a.trans h
  have d:=d.trans h
  refine eQ c (bZ _ _) rfl fun r c f m=>?_
  have b:=b.cG G f
  have a:=b2.aS a f H
  have d:=b2.aS d f NU
  refine eQ c (bZ _ _) rfl fun J c e w=>?_
  have b:=b.cG G e
  have a:=b2.aS a e H
  have d:=b2.aS d e NU
  refine c5 c (bZ _ _) rfl ?_
  refine cY rfl ?_
  refine c5 c (bZ _ _) rfl ?_
  refine bD rfl ?_
  exact g _ _ a ⟨_,_,rfl,(Nw.cP (m.trans w))⟩
 ·refine⟨h0 (bZ _ _) ((s).lt NT),?_⟩
  refine c5 b (bZ _ _) rfl ?_
  refine cY rfl ?_
  refine⟨h0 (bZ _ _) ((s).lt NT),?_⟩
  refine c5 b (bZ _ _) rfl ?_
  refine bD rfl ?_
  refine⟨?_,?_⟩
  ·refine b5 (kL.bP (B.cP (C.trans s)) rfl F (by first | assumption | decide | omega)) fun v u ⟨h,aI⟩=>?_
   obtain⟨P,Nx⟩:∃ p,p=o / 2 ^ (Int.toNat aK):=⟨_,rfl⟩
   rw [← Nx] at aI
   replace g:=fW Nx g
   have N4:=m9 (Nat.div_le_self o (2 ^ (Int.toNat aK)))
   rw [← Nx] at N4
   obtain⟨Og,Oh,rfl,Q⟩:=aI
   refine bD rfl (?_)
   have Q:=Q.from a.le
   have k:=h.cP
   have b:=b.aS h
   have c:=c.aS h
   have a:=a.trans h
   have d:=d.trans h
   refine⟨h.fL (Nat.le_refl _),?_⟩
   refine⟨?_,?_⟩
   ·refine b5 (fJ.bI Q.rd rfl) fun v r ⟨f,aI⟩=>?_
    obtain⟨Oi,Ny⟩:∃ p,p=dG (c6 n P):=⟨_,rfl⟩
    rw [← Ny] at aI
    replace g:=fW Ny g
    have N5:=k2 n P
    rw [← Ny] at N5
    obtain⟨Oj,Ok,rfl,Nz⟩:=aI
    refine eW rfl (cK (cY rfl (cK (bD rfl (dY (?_))))))
    have Nz:=Nz.from a.le
    have m:=f.cP
    have b:=b.aS f
    have c:=c.aS f
    have a:=a.trans f
    have d:=d.trans f
    refine⟨f.fL (k).le,?_⟩
    refine eX fun J x e=>?_
    have NA:Z.size ≠ r.size:=Nat.ne_of_lt b.lt
    have NB:A.size ≠ r.size:=Nat.ne_of_lt c.lt
    have x:dU J (r.size) [.bool false,.slice none (D.aL 0).length 0]:=by rw [D.eK];exact x
    have NC:aV.size≤r.size:=a.le
    have NV:Z.size≤r.size:=d.le
    have Ol:=x.lt
    have w:=e.cP
    have b:=b.aS e
    have c:=c.aS e
    have a:=a.trans e
    have d:=d.trans e
    refine⟨e.fL (k.trans m).le,?_⟩
    refine eQ x (bZ _ _) rfl fun NW x i y=>?_
    have b:=b.cG NA i
    have c:=c.cG NB i
    have a:=b2.aS a i NC
    have d:=b2.aS d i NV
    refine eQ x (bZ _ _) rfl fun NX x j z=>?_
    have b:=b.cG NA j
    have c:=c.cG NB j
    have a:=b2.aS a j NC
    have d:=b2.aS d j NV
    exact aZ.bP a F (B.cP (C.trans (s.trans (k.trans (m.trans (w.trans (y.trans z))))))) (by first | assumption | decide | omega) b V (sF _ _) (by first | assumption | decide | omega) c H (Nz.cP (w.trans (y.trans z))) (by first | assumption | decide | omega) x NC G NA NB (by first | assumption | decide | omega) g
   ·refine eX fun r q f=>?_
    have ND:Z.size ≠ u.size:=Nat.ne_of_lt b.lt
    have NF:A.size ≠ u.size:=Nat.ne_of_lt c.lt
    have q:dU r (u.size) [.bool false,.slice none (D.aL 0).length 0]:=by rw [D.eK];exact q
    have NG:aV.size≤u.size:=a.le
    have NY:Z.size≤u.size:=d.le
    have Om:=q.lt
    have m:=f.cP
    have b:=b.aS f
    have c:=c.aS f
    have a:=a.trans f
    have d:=d.trans f
    refine⟨f.fL (k).le,?_⟩
    refine b5 (fJ.bI (Q.cP (m)).rd rfl) fun v J ⟨e,aI⟩=>?_
    obtain⟨On,NH⟩:∃ p,p=dG (c6 n P):=⟨_,rfl⟩
    rw [← NH] at aI
    replace g:=fW NH g
    have N6:=k2 n P
    rw [← NH] at N6
    obtain⟨Oo,Oq,rfl,NI⟩:=aI
    refine eW rfl (cK (cY rfl (cK (bD rfl (dY (?_))))))
    have NI:=NI.from a.le
    have w:=e.cP
    have b:=b.aS e
    have c:=c.aS e
    have q:=q.aS e
    have a:=a.trans e
    have d:=d.trans e
    refine⟨e.fL (k.trans m).le,?_⟩
    refine eQ q (bZ _ _) rfl fun NW q i y=>?_
    have b:=b.cG ND i
    have c:=c.cG NF i
    have a:=b2.aS a i NG
    have d:=b2.aS d i NY
    refine eQ q (bZ _ _) rfl fun NX q j z=>?_
    have b:=b.cG ND j
    have c:=c.cG NF j
    have a:=b2.aS a j NG
    have d:=b2.aS d j NY
    exact aZ.bP a F (B.cP (C.trans (s.trans (k.trans (m.trans (w.trans (y.trans z))))))) (by first | assumption | decide | omega) b V (sF _ _) (by first | assumption | decide | omega) c H (NI.cP (y.trans z)) (by first | assumption | decide | omega) q NG G ND NF (by first | assumption | decide | omega) g
  ·refine eX fun u l h=>?_
   have NJ:Z.size ≠ E.size:=Nat.ne_of_lt b.lt
   have NK:A.size ≠ E.size:=Nat.ne_of_lt c.lt
   have l:dU u (E.size) [.bool false,.slice none (D.aL 0).length 0]:=by rw [D.eK];exact l
   have NL:aV.size≤E.size:=a.le
   have NZ:Z.size≤E.size:=d.le
   have Ot:=l.lt
   have k:=h.cP
   have b:=b.aS h
   have c:=c.aS h
   have a:=a.trans h
   have d:=d.trans h
   refine⟨h.fL (Nat.le_refl _),?_⟩
   refine b5 (kL.bP (B.cP (C.trans (s.trans k))) rfl F (by first | assumption | decide | omega)) fun v r ⟨f,aI⟩=>?_
   obtain⟨N0,NM⟩:∃ p,p=o / 2 ^ (Int.toNat aK):=⟨_,rfl⟩
   rw [← NM] at aI
   replace g:=fW NM g
   have N7:=m9 (Nat.div_le_self o (2 ^ (Int.toNat aK)))
   rw [← NM] at N7
   obtain⟨Ou,Ov,rfl,NN⟩:=aI
   refine bD rfl (?_)
   have NN:=NN.from a.le
   have m:=f.cP
   have b:=b.aS f
   have c:=c.aS f
   have l:=l.aS f
   have a:=a.trans f
   have d:=d.trans f
   refine⟨f.fL (k).le,?_⟩
   refine b5 (fJ.bI NN.rd rfl) fun v J ⟨e,aI⟩=>?_
   obtain⟨Ow,NO⟩:∃ p,p=dG (c6 n N0):=⟨_,rfl⟩
   rw [← NO] at aI
   replace g:=fW NO g
   have N8:=k2 n N0
   rw [← NO] at N8
   obtain⟨Ox,Oy,rfl,NP⟩:=aI
   refine eW rfl (cK (cY rfl (cK (bD rfl (dY (?_))))))
   have NP:=NP.from a.le
   have w:=e.cP
   have b:=b.aS e
   have c:=c.aS e
   have l:=l.aS e
   have a:=a.trans e
   have d:=d.trans e
   refine⟨e.fL (k.trans m).le,?_⟩
   refine eQ l (bZ _ _) rfl fun NW l i y=>?_
   have b:=b.cG NJ i
   have c:=c.cG NK i
   have a:=b2.aS a i NL
   have d:=b2.aS d i NZ
   refine eQ l (bZ _ _) rfl fun NX l j z=>?_
   have b:=b.cG NJ j
   have c:=c.cG NK j
   have a:=b2.aS a j NL
   have d:=b2.aS d j NZ
   exact aZ.bP a F (B.cP (C.trans (s.trans (k.trans (m.trans (w.trans (y.trans z))))))) (by first | assumption | decide | omega) b V (sF _ _) (by first | assumption | decide | omega) c H (NP.cP (y.trans z)) (by first | assumption | decide | omega) l NL G NJ NK (by first | assumption | decide | omega) g
def v(a:Bool)(b:Nat)(aK:Int):(Bool × Nat):=aM.v a b aK
theorem bP{Z:U}{a:Bool}{b:M}{c d:Nat}{e:Nat}(f:cL b7 Z b c (D.aL e))(g:d=(D.aL e).length)(h:(D.aL e).length≤150000){aK:Int}(i:In .i64 aK):a0 id #[.agg #[.bool a,.slice b d c],.int .i64 aK] Z fun b c=>bC Z c∧gD Z c b (v a e aK):=
 ok (aM.bP (bC.refl _) f g h i fun v aB S aI=>⟨S,aI⟩)
end lF
theorem Jz(R aC:Int):g4 (R - aC) 0=g4 R aC:=by
 unfold g4
 rcases Int.lt_trichotomy R aC with Z | Z | Z
 ·rw [if_pos (by omega),if_pos Z]
 ·rw [if_neg (by omega),if_pos (by omega),if_neg (by omega),if_pos Z]
 ·rw [if_neg (by omega),if_neg (by omega),if_neg (by omega),if_neg (by omega)]
theorem JA(K c:Bool)(a1 bH:Nat):lE.v K a1 c bH=g4 (cT (K,a1)) (cT (c,bH)):=by
 unfold lE.v lE.aM.v
 simp only [fI]
 rw [show cT ((dG (cT (K,a1) - cT (c,bH))).1,(dG (cT (K,a1) - cT (c,bH))).2)=cT (K,a1) - cT (c,bH) from v8 _,Jz]
theorem JB(a:Int):hB a 1=a:=by unfold hB;rw [if_neg (by omega),Int.ediv_one]
theorem JC(K:Bool)(a1:Nat)(S:Int):lF.v K a1 S=dG (hB (cT (K,a1)) (2 ^ S.toNat)):=by
 unfold lF.v lF.aM.v
 simp only [fI]
 by_cases a:S≤0
 ·simp only [a,decide_true,cond_true]
  rw [show S.toNat=0 by omega,Int.pow_zero,JB];rfl
 ·simp only [a,decide_false,cond_false]
  unfold lF.aZ.v
  generalize S.toNat=n
  rw [show cT (K,a1)=c6 K a1 from rfl,Eh]
  have d:decide (((D.aL (a1 % 2 ^ n)).length:Int) > 0)=decide (a1 % 2 ^ n ≠ 0):=by
   rw [decide_eq_decide];have:=qT (a1 % 2 ^ n);omega
  by_cases b:a1=0
  ·subst b
   simp only [Nat.zero_div,oS,A5,Nat.zero_mod,Jy,fI,(qT 0).mpr rfl]
   cases K <;> rfl
  ·rw [v9 (I6 n) fun _=>b,Bool.xor_false]
   cases K
   ·simp only [cond_false,Bool.false_eq_true,false_and,if_false]
   ·simp only [cond_true,fI,true_and]
    rw [d]
    by_cases c:a1 % 2 ^ n=0
    ·simp only [c,ne_eq,not_true_eq_false,decide_false,cond_false,if_false]
    ·simp only [c,ne_eq,not_false_eq_true,decide_true,cond_true,if_true]
     rw [show cT ((dG (c6 true (a1 / 2 ^ n))).1,(dG (c6 true (a1 / 2 ^ n))).2)=c6 true (a1 / 2 ^ n) from v8 _]
     rw [show cT ((dG 1).1,(dG 1).2)=1 from rfl]
     have:c6 true (a1 / 2 ^ n) - 1=c6 true (a1 / 2 ^ n+1):=by unfold c6;simp only [if_true];omega
     rw [this]
section
variable {a K:M} {c aT l m a1 bH:Nat} {L aP:List Nat} {Z:U} {N aQ:Int} {p aE:Bool}
theorem lE.bI(r:cL b7 Z a c (D.aL a1))(O:l=(D.aL a1).length)(aI:cL b7 Z K aT (D.aL bH))(f:m=(D.aL bH).length)(b:(D.aL a1).length≤700000)(d:(D.aL bH).length≤700000):a0 lE.id #[.agg #[.bool p,.slice a l c],.agg #[.bool aE,.slice K m aT]] Z fun v aB=>bC Z aB∧mZ .i64 Z aB v (g4 (cT (p,a1)) (cT (aE,bH))):=by rw [← JA];exact lE.bP r O b aI f d
theorem lF.bI(r:cL b7 Z a c (D.aL a1))(O:l=(D.aL a1).length)(R:In .i64 N)(b:(D.aL a1).length≤150000):a0 lF.id #[.agg #[.bool p,.slice a l c],.int .i64 N] Z fun v aB=>bC Z aB∧gD Z aB v (dG (hB (cT (p,a1)) (2 ^ N.toNat))):=by rw [← JC];exact lF.bP r O b R
end
namespace nC
def aM.v(a:Bool)(b:Nat)(c:Bool)(d:Nat):(Bool × Nat):=
 fI (mQ (cT (a,b)) (cT (c,d))) fun a=>
 fI (dG (cT (a.2.1,a.2.2)*2 ^ (Int.toNat (1:Int)))) fun b=>
 bif (decide (((g4 (cT (b.1,b.2)) (cT (c,d)))) > (0:Int))) then
  fI (dG (1:Int)) fun e=>
  fI (dG (cT (a.1.1,a.1.2)+cT (e.1,e.2))) fun e=>
  (e.1,e.2)
 else
  bif (((g4 (cT (b.1,b.2)) (cT (c,d)))) == (0:Int)) then
   bif (!(decide (a.1.2 % 2=0))) then
    fI (dG (1:Int)) fun b=>
    fI (dG (cT (a.1.1,a.1.2)+cT (b.1,b.2))) fun b=>
    (b.1,b.2)
   else
    (a.1.1,a.1.2)
  else
   (a.1.1,a.1.2)
theorem aM.bP{Y:aD}{aV Z:U}(a:bC aV Z){NG:Bool}{N6:M}{N7 N8:Nat}{I:Nat}(Oq:cL b7 Z N6 N7 (D.aL I))(Ot:N8=(D.aL I).length)(OL:(D.aL I).length≤300000){NH:Bool}{N9:M}{Oa Ob:Nat}{J:Nat}(Oc:cL b7 Z N9 Oa (D.aL J))(Ou:Ob=(D.aL J).length)(OM:(D.aL J).length≤300000)(g:hJ gD aV Y (aM.v NG I NH J)):aM.t Y NG N6 N8 N7 NH N9 Ob Oa Z:=by
 subst Ot Ou
 have c:=bC.refl Z
 have ON:(D.aL 0).length=0:=by simp [D.eK]
 unfold aM.v at g
 unfold aM.t
 refine eX fun Nx d NQ=>?_
 have OO:aV.size≤Z.size:=a.le
 have OP:Z.size≤Z.size:=c.le
 have OQ:=d.lt
 have NR:=NQ.cP
 have a:=a.trans NQ
 have c:=c.trans NQ
 refine eX fun P e NJ=>?_
 have OR:Z.size ≠ Nx.size:=Nat.ne_of_lt d.lt
 have OS:aV.size≤Nx.size:=a.le
 have OT:Z.size≤Nx.size:=c.le
 have Ov:=e.lt
 have NS:=NJ.cP
 have d:=d.aS NJ
 have a:=a.trans NJ
 have c:=c.trans NJ
 refine eX fun Ow b NI=>?_
 have A:Z.size ≠ P.size:=Nat.ne_of_lt d.lt
 have B:Nx.size ≠ P.size:=Nat.ne_of_lt e.lt
 have b:dU Ow (P.size) [.bool false,.slice none (D.aL 0).length 0]:=by rw [D.eK];exact b
 have C:aV.size≤P.size:=a.le
 have E:Z.size≤P.size:=c.le
 have OU:=b.lt
 have NK:=NI.cP
 have d:=d.aS NI
 have e:=e.aS NI
 have a:=a.trans NI
 have c:=c.trans NI
 refine c5 d (bZ _ _) rfl ?_
 refine cY rfl ?_
 refine c5 d (bZ _ _) rfl ?_
 refine bD rfl ?_
 refine c5 e (bZ _ _) rfl ?_
 refine cY rfl ?_
 refine c5 e (bZ _ _) rfl ?_
 refine bD rfl ?_
 refine b5 (nA.bI (Oq.cP (NR.trans (NS.trans NK))) rfl (Oc.cP (NR.trans (NS.trans NK))) rfl (by first | assumption | decide | omega) (by first | assumption | decide | omega)) fun v Q ⟨Ny,aI⟩=>?_
 obtain⟨m,NL⟩:∃ p,p=mQ (cT (NG,I)) (cT (NH,J)):=⟨_,rfl⟩
 rw [← NL] at aI
 replace g:=fW NL g
 have Ox:=Jn NG I NH J
 rw [← NL] at Ox
 have Oy:=Jo NG I NH J
 rw [← NL] at Oy
 obtain⟨_,_,rfl,⟨OV,OW,rfl,T⟩,⟨OX,OY,rfl,NT⟩⟩:=aI
 refine g7 rfl (cK (eW rfl (cK (cY rfl (cK (bD rfl (dY (cK (eW rfl (cK (cY rfl (cK (bD rfl (dY (dY (?_))))))))))))))))
 have T:=T.from a.le
 have NT:=NT.from a.le
 have Od:=Ny.cP
 have d:=d.aS Ny
 have e:=e.aS Ny
 have b:=b.aS Ny
 have a:=a.trans Ny
 have c:=c.trans Ny
 refine eX fun F f Nz=>?_
 have Oe:Z.size ≠ Q.size:=Nat.ne_of_lt d.lt
 have Of:Nx.size ≠ Q.size:=Nat.ne_of_lt e.lt
 have s:P.size ≠ Q.size:=Nat.ne_of_lt b.lt
 have f:dU F (Q.size) [.bool false,.slice none (D.aL 0).length 0]:=by rw [D.eK];exact f
 have Og:aV.size≤Q.size:=a.le
 have Oh:Z.size≤Q.size:=c.le
 have Oi:=f.lt
 have G:=Nz.cP
 have d:=d.aS Nz
 have e:=e.aS Nz
 have b:=b.aS Nz
 have a:=a.trans Nz
 have c:=c.trans Nz
 refine eX fun Oz h V=>?_
 have Oj:Z.size ≠ F.size:=Nat.ne_of_lt d.lt
 have Ok:Nx.size ≠ F.size:=Nat.ne_of_lt e.lt
 have u:P.size ≠ F.size:=Nat.ne_of_lt b.lt
 have NM:Q.size ≠ F.size:=Nat.ne_of_lt f.lt
 have h:dU Oz (F.size) [.bool false,.slice none (D.aL 0).length 0]:=by rw [D.eK];exact h
 have Ol:aV.size≤F.size:=a.le
 have Om:Z.size≤F.size:=c.le
 have OA:=h.lt
 have w:=V.cP
 have d:=d.aS V
 have e:=e.aS V
 have b:=b.aS V
 have f:=f.aS V
 have a:=a.trans V
 have c:=c.trans V
 refine eQ f (bZ _ _) rfl fun OZ f NA n=>?_
 have d:=d.cG Oe NA
 have e:=e.cG Of NA
 have b:=b.cG s NA
 have h:=h.cG (Ne.symm NM) NA
 have a:=b2.aS a NA Og
 have c:=b2.aS c NA Oh
 refine eQ f (bZ _ _) rfl fun O0 f NB o=>?_
 have d:=d.cG Oe NB
 have e:=e.cG Of NB
 have b:=b.cG s NB
 have h:=h.cG (Ne.symm NM) NB
 have a:=b2.aS a NB Og
 have c:=b2.aS c NB Oh
 refine eQ h (bZ _ _) rfl fun O1 h NC q=>?_
 have d:=d.cG Oj NC
 have e:=e.cG Ok NC
 have b:=b.cG u NC
 have f:=f.cG NM NC
 have a:=b2.aS a NC Ol
 have c:=b2.aS c NC Om
 refine eQ h (bZ _ _) rfl fun O2 h ND r=>?_
 have d:=d.cG Oj ND
 have e:=e.cG Ok ND
 have b:=b.cG u ND
 have f:=f.cG NM ND
 have a:=b2.aS a ND Ol
 have c:=b2.aS c ND Om
 refine⟨h0 rfl ((n.trans (o.trans (q.trans r))).lt OA),?_⟩
 refine c5 h (bZ _ _) rfl ?_
 refine cY rfl ?_
 refine c5 h (bZ _ _) rfl ?_
 refine bD rfl ?_
 refine b5 (kM.bI (NT.cP (G.trans (w.trans (n.trans (o.trans (q.trans r)))))).rd rfl (show In .i64 (1:Int) by decide) (by first | assumption | decide | omega) (by first | assumption | decide | omega) (by first | assumption | decide | omega)) fun v O3 ⟨x,aI⟩=>?_
 obtain⟨O4,NU⟩:∃ p,p=dG (cT (m.2.1,m.2.2)*2 ^ (Int.toNat (1:Int))):=⟨_,rfl⟩
 rw [← NU] at aI
 replace g:=fW NU g
 have OB:=Jl m.2.1 m.2.2
 rw [← NU] at OB
 obtain⟨O5,O6,rfl,NV⟩:=aI
 refine eW rfl (cK (cY rfl (cK (bD rfl (dY (?_))))))
 have NV:=NV.from a.le
 have y:=x.cP
 have d:=d.aS x
 have e:=e.aS x
 have b:=b.aS x
 have f:=f.aS x
 have h:=h.aS x
 have a:=a.trans x
 have c:=c.trans x
 refine⟨x.fL (Nat.le_refl _),?_⟩
 refine⟨h0 rfl ((NK.trans (Od.trans (G.trans (w.trans (n.trans (o.trans (q.trans r))))))).lt Ov),?_⟩
 refine c5 e (bZ _ _) rfl ?_
 refine cY rfl ?_
 refine c5 e (bZ _ _) rfl ?_
 refine bD rfl ?_
 refine b5 (lE.bI NV.rd rfl (Oc.cP (NR.trans (NS.trans (NK.trans (Od.trans (G.trans (w.trans (n.trans (o.trans (q.trans (r.trans y))))))))))) rfl (by first | assumption | decide | omega) (by first | assumption | decide | omega)) fun v O7 ⟨z,aI⟩=>?_
 obtain⟨rfl,O8⟩:=aI
 refine bR rfl (?_)
 have Nv:=z.cP
 have d:=d.aS z
 have e:=e.aS z
 have b:=b.aS z
 have f:=f.aS z
 have h:=h.aS z
 have a:=a.trans z
 have c:=c.trans z
 refine⟨z.fL (y).le,?_⟩
 refine vP g (fun OC g=>?_) (fun OC g=>?_)
 ·refine⟨h0 rfl ((w.trans (n.trans (o.trans (q.trans (r.trans (y.trans Nv)))))).lt Oi),?_⟩
  refine c5 f (bZ _ _) rfl ?_
  refine cY rfl ?_
  refine c5 f (bZ _ _) rfl ?_
  refine bD rfl ?_
  refine b5 (mP.bI (show In .i64 (1:Int) by decide)) fun v On ⟨j,aI⟩=>?_
  obtain⟨NN,NW⟩:∃ p,p=dG (1:Int):=⟨_,rfl⟩
  rw [← NW] at aI
  replace g:=fW NW g
  have OD:=A7 (show In .i64 (1:Int) by decide)
  rw [← NW] at OD
  obtain⟨O9,Pa,rfl,NX⟩:=aI
  refine eW rfl (cK (cY rfl (cK (bD rfl (dY (?_))))))
  have NX:=NX.from a.le
  have H:=j.cP
  have d:=d.aS j
  have e:=e.aS j
  have b:=b.aS j
  have f:=f.aS j
  have h:=h.aS j
  have a:=a.trans j
  have c:=c.trans j
  refine⟨j.fL (Nat.le_refl _),?_⟩
  refine b5 (k3.bI (T.cP (G.trans (w.trans (n.trans (o.trans (q.trans (r.trans (y.trans (Nv.trans H))))))))).rd rfl NX.rd rfl (by first | assumption | decide | omega) (by first | assumption | decide | omega)) fun v NY ⟨i,aI⟩=>?_
  obtain⟨Pb,NZ⟩:∃ p,p=dG (cT (m.1.1,m.1.2)+cT (NN.1,NN.2)):=⟨_,rfl⟩
  rw [← NZ] at aI
  replace g:=fW NZ g
  have OE:=A9 m.1.1 m.1.2 NN.1 NN.2
  rw [← NZ] at OE
  obtain⟨Pc,Pd,rfl,N0⟩:=aI
  refine eW rfl (cK (cY rfl (cK (bD rfl (dY (?_))))))
  have N0:=N0.from a.le
  have Nw:=i.cP
  have d:=d.aS i
  have e:=e.aS i
  have b:=b.aS i
  have f:=f.aS i
  have h:=h.aS i
  have a:=a.trans i
  have c:=c.trans i
  refine⟨i.fL (H).le,?_⟩
  refine eQ b (bZ _ _) rfl fun Oo b k NO=>?_
  have d:=d.cG A k
  have e:=e.cG B k
  have f:=f.cG (Ne.symm s) k
  have h:=h.cG (Ne.symm u) k
  have a:=b2.aS a k C
  have c:=b2.aS c k E
  refine eQ b (bZ _ _) rfl fun OF b l N1=>?_
  have d:=d.cG A l
  have e:=e.cG B l
  have f:=f.cG (Ne.symm s) l
  have h:=h.cG (Ne.symm u) l
  have a:=b2.aS a l C
  have c:=b2.aS c l E
  refine c5 b (bZ _ _) rfl ?_
  refine cY rfl ?_
  refine c5 b (bZ _ _) rfl ?_
  refine bD rfl ?_
  exact g _ _ a ⟨_,_,rfl,(N0.cP (NO.trans N1))⟩
 ·refine Av g (fun OG g=>?_) (fun OG g=>?_)
  ·refine c5 f (bZ _ _) rfl ?_
   refine cY rfl ?_
   refine c5 f (bZ _ _) rfl ?_
   refine bD rfl ?_
   refine b5 (nB.bI (T.cP (G.trans (w.trans (n.trans (o.trans (q.trans (r.trans (y.trans Nv)))))))).rd rfl) fun v On ⟨j,aI⟩=>?_
   obtain rfl:=aI
   refine cY rfl (?_)
   have H:=j.cP
   have d:=d.aS j
   have e:=e.aS j
   have b:=b.aS j
   have f:=f.aS j
   have h:=h.aS j
   have a:=a.trans j
   have c:=c.trans j
   refine C7 g (fun OH g=>?_) (fun OH g=>?_)
   ·refine⟨h0 rfl ((w.trans (n.trans (o.trans (q.trans (r.trans (y.trans (Nv.trans H))))))).lt Oi),?_⟩
    refine c5 f (bZ _ _) rfl ?_
    refine cY rfl ?_
    refine c5 f (bZ _ _) rfl ?_
    refine bD rfl ?_
    refine b5 (mP.bI (show In .i64 (1:Int) by decide)) fun v NY ⟨i,aI⟩=>?_
    obtain⟨NP,N2⟩:∃ p,p=dG (1:Int):=⟨_,rfl⟩
    rw [← N2] at aI
    replace g:=fW N2 g
    have OI:=A7 (show In .i64 (1:Int) by decide)
    rw [← N2] at OI
    obtain⟨Pe,Pf,rfl,N3⟩:=aI
    refine eW rfl (cK (cY rfl (cK (bD rfl (dY (?_))))))
    have N3:=N3.from a.le
    have Nw:=i.cP
    have d:=d.aS i
    have e:=e.aS i
    have b:=b.aS i
    have f:=f.aS i
    have h:=h.aS i
    have a:=a.trans i
    have c:=c.trans i
    refine⟨i.fL (Nat.le_refl _),?_⟩
    refine b5 (k3.bI (T.cP (G.trans (w.trans (n.trans (o.trans (q.trans (r.trans (y.trans (Nv.trans (H.trans Nw)))))))))).rd rfl N3.rd rfl (by first | assumption | decide | omega) (by first | assumption | decide | omega)) fun v Oo ⟨k,aI⟩=>?_
    obtain⟨Pg,N4⟩:∃ p,p=dG (cT (m.1.1,m.1.2)+cT (NP.1,NP.2)):=⟨_,rfl⟩
    rw [← N4] at aI
    replace g:=fW N4 g
    have OJ:=A9 m.1.1 m.1.2 NP.1 NP.2
    rw [← N4] at OJ
    obtain⟨Ph,Pj,rfl,N5⟩:=aI
    refine eW rfl (cK (cY rfl (cK (bD rfl (dY (?_))))))
    have N5:=N5.from a.le
    have NO:=k.cP
    have d:=d.aS k
    have e:=e.aS k
    have b:=b.aS k
    have f:=f.aS k
    have h:=h.aS k
    have a:=a.trans k
    have c:=c.trans k
    refine⟨k.fL (Nw).le,?_⟩
    refine eQ b (bZ _ _) rfl fun OF b l N1=>?_
    have d:=d.cG A l
    have e:=e.cG B l
    have f:=f.cG (Ne.symm s) l
    have h:=h.cG (Ne.symm u) l
    have a:=b2.aS a l C
    have c:=b2.aS c l E
    refine eQ b (bZ _ _) rfl fun Pk b NF OK=>?_
    have d:=d.cG A NF
    have e:=e.cG B NF
    have f:=f.cG (Ne.symm s) NF
    have h:=h.cG (Ne.symm u) NF
    have a:=b2.aS a NF C
    have c:=b2.aS c NF E
    refine c5 b (bZ _ _) rfl ?_
    refine cY rfl ?_
    refine c5 b (bZ _ _) rfl ?_
    refine bD rfl ?_
    exact g _ _ a ⟨_,_,rfl,(N5.cP (N1.trans OK))⟩
   ·refine c5 f (bZ _ _) rfl ?_
    refine cY rfl ?_
    refine c5 f (bZ _ _) rfl ?_
    refine bD rfl ?_
    refine eQ b (bZ _ _) rfl fun NY b i Nw=>?_
    have d:=d.cG A i
    have e:=e.cG B i
    have f:=f.cG (Ne.symm s) i
    have h:=h.cG (Ne.symm u) i
    have a:=b2.aS a i C
    have c:=b2.aS c i E
    refine eQ b (bZ _ _) rfl fun Oo b k NO=>?_
    have d:=d.cG A k
    have e:=e.cG B k
    have f:=f.cG (Ne.symm s) k
    have h:=h.cG (Ne.symm u) k
    have a:=b2.aS a k C
    have c:=b2.aS c k E
    refine c5 b (bZ _ _) rfl ?_
    refine cY rfl ?_
    refine c5 b (bZ _ _) rfl ?_
    refine bD rfl ?_
    exact g _ _ a ⟨_,_,rfl,(T.cP (G.trans (w.trans (n.trans (o.trans (q.trans (r.trans (y.trans (Nv.trans (H.trans (Nw.trans NO)))))))))))⟩
  ·refine c5 f (bZ _ _) rfl ?_
   refine cY rfl ?_
   refine c5 f (bZ _ _) rfl ?_
   refine bD rfl ?_
   refine eQ b (bZ _ _) rfl fun On b j H=>?_
   have d:=d.cG A j
   have e:=e.cG B j
   have f:=f.cG (Ne.symm s) j
   have h:=h.cG (Ne.symm u) j
   have a:=b2.aS a j C
   have c:=b2.aS c j E
   refine eQ b (bZ _ _) rfl fun NY b i Nw=>?_
   have d:=d.cG A i
   have e:=e.cG B i
   have f:=f.cG (Ne.symm s) i
   have h:=h.cG (Ne.symm u) i
   have a:=b2.aS a i C
   have c:=b2.aS c i E
   refine c5 b (bZ _ _) rfl ?_
   refine cY rfl ?_
   refine c5 b (bZ _ _) rfl ?_
   refine bD rfl ?_
   exact g _ _ a ⟨_,_,rfl,(T.cP (G.trans (w.trans (n.trans (o.trans (q.trans (r.trans (y.trans (Nv.trans (H.trans Nw))))))))))⟩
def v(a:Bool)(b:Nat)(c:Bool)(d:Nat):(Bool × Nat):=aM.v a b c d
theorem bP{Z:U}{a:Bool}{b:M}{c d:Nat}{e:Nat}(f:cL b7 Z b c (D.aL e))(g:d=(D.aL e).length)(h:(D.aL e).length≤300000){i:Bool}{j:M}{k l:Nat}{m:Nat}(n:cL b7 Z j k (D.aL m))(o:l=(D.aL m).length)(p:(D.aL m).length≤300000):a0 id #[.agg #[.bool a,.slice b d c],.agg #[.bool i,.slice j l k]] Z fun b c=>bC Z c∧gD Z c b (v a e i m):=
 ok (aM.bP (bC.refl _) f g h n o p fun v aB S aI=>⟨S,aI⟩)
end nC
theorem uF(R:Int):cT ((dG R).1,(dG R).2)=R:=v8 R
theorem Es{R aC:Int}:decide (g4 R aC > 0)=decide (aC < R):=by rw [Jg]
theorem Et{R aC:Int}:(g4 R aC == 0)=decide (R=aC):=by
 unfold g4
 rcases Int.lt_trichotomy R aC with Z | Z | Z
 ·rw [if_pos Z];have:R ≠ aC:=by omega
  simp [this]
 ·subst Z;simp
 ·rw [if_neg (by omega),if_neg (by omega)];have:R ≠ aC:=by omega
  simp [this]
theorem JD{p:Bool}{a bA:Nat}(b:bA ≠ 0)(d:p=true→a ≠ 0):
  k1 (c6 p a) (c6 false bA)=if (bA:Int) < pL (c6 p a) (c6 false bA)*2∨(pL (c6 p a) (c6 false bA)*2=(bA:Int)∧(hB (c6 p a) (c6 false bA)).natAbs % 2=1) then hB (c6 p a) (c6 false bA)+1 else hB (c6 p a) (c6 false bA):=by
 rw [I8 b d,v9 b d,Ej b d,Bool.xor_false,pK]
 unfold hC
 have f:=Nat.mod_lt a (show 0 < bA by omega)
 generalize a % bA=r at *
 generalize a / bA=Q at *
 cases p
 ·simp only [Bool.false_eq_true,false_and,if_false,A4]
  by_cases c:bA < 2*r∨(2*r=bA∧Q % 2=1)
  ·rw [if_pos c,if_pos (by omega)];omega
  ·rw [if_neg c,if_neg (by omega)]
 ·by_cases e:r=0
  ·subst e
   simp only [ne_eq,not_true_eq_false,and_false,if_false,oS]
   rw [if_neg (by omega),if_neg (by omega)]
  ·simp only [ne_eq,e,not_false_eq_true,and_self,if_true,A4]
   have O:c6 true (Q+1)+1=c6 true Q:=by unfold c6;simp only [if_true];omega
   by_cases c:bA < 2*r∨(2*r=bA∧Q % 2=1)
   ·rw [if_pos c,if_neg (by omega)]
   ·rw [if_neg c,if_pos (by omega),O]
theorem JE(K c:Bool)(a1 bH:Nat):nC.v K a1 c bH=mR (cT (K,a1)) (cT (c,bH)):=by
 unfold nC.v nC.aM.v
 by_cases Z:cT (c,bH)≤0
 ·have O:mQ (cT (K,a1)) (cT (c,bH))=((false,0),(false,0)):=by unfold mQ;rw [if_pos Z]
  rw [O]
  simp only [fI]
  have a:cT (false,0)*2 ^ Int.toNat 1=0:=by rw [l2,oS,Int.zero_mul]
  rw [a,uF,Es,Et]
  unfold mR
  by_cases b:cT (c,bH) < 0
  ·simp only [b,decide_true,cond_true,if_true];rfl
  ·have d:(0:Int)=cT (c,bH):=by omega
   rw [if_neg b,if_pos d.symm]
   simp only [b,d.symm,decide_false,decide_true,cond_false,cond_true];rfl
 ·have f:c=false:=by
   cases c
   ·rfl
   ·exfalso;apply Z;rw [l2];unfold c6;simp
  subst f
  rw [Er (by omega)]
  simp only [fI]
  have a:(2:Int) ^ Int.toNat 1=2:=rfl
  rw [uF,a,uF,Es,Et]
  have g:mR (cT (K,a1)) (cT (false,bH))=dG (k1 (cT (K,a1)) (cT (false,bH))):=by unfold mR;rw [if_neg (by omega),if_neg (by omega)]
  rw [g]
  have h:bH ≠ 0:=fun O=>Z (by subst O;rw [l2,oS];exact Int.le_refl _)
  obtain⟨p,e,i,j,_⟩:=A6 (cT (K,a1))
  have k:cT (false,bH)=c6 false bH:=rfl
  rw [i,k,JD h j]
  generalize pL (c6 p e) (c6 false bH)=cH
  generalize hB (c6 p e) (c6 false bH)=F
  have l:cT ((dG F).1,(dG F).2)+cT ((dG 1).1,(dG 1).2)=F+1:=by rw [uF,uF]
  have m:decide ((dG F).2 % 2=0)=decide (F.natAbs % 2=0):=rfl
  have n:c6 false bH=(bH:Int):=rfl
  simp only [l,m,n]
  by_cases aG:(bH:Int) < cH*2
  ·simp only [aG,decide_true,cond_true,true_or,if_true]
  ·simp only [aG,decide_false,cond_false,false_or]
   by_cases bG:cH*2=(bH:Int)
   ·simp only [bG,decide_true,cond_true,true_and]
    rcases Nat.mod_two_eq_zero_or_one F.natAbs with O | O
    ·simp only [O];rfl
    ·simp only [O];rfl
   ·simp only [bG,decide_false,cond_false,false_and,if_false]
section
variable {a K:M} {c aT l m a1 bH:Nat} {L aP:List Nat} {Z:U} {N aQ:Int} {p aE:Bool}
theorem nC.bI(r:cL b7 Z a c (D.aL a1))(O:l=(D.aL a1).length)(aI:cL b7 Z K aT (D.aL bH))(f:m=(D.aL bH).length)(b:(D.aL a1).length≤300000)(d:(D.aL bH).length≤300000):a0 nC.id #[.agg #[.bool p,.slice a l c],.agg #[.bool aE,.slice K m aT]] Z fun v aB=>bC Z aB∧gD Z aB v (mR (cT (p,a1)) (cT (aE,bH))):=by rw [← JE];exact nC.bP r O b aI f d
end
namespace k4
def aZ.v(a:Bool)(b:Nat)(c:Bool)(d:Nat)(e:Bool)(e:Nat):(Bool × Nat):=
 fI (mR (cT (a,b)) (cT (c,d))) fun a=>
 (a.1,a.2)
theorem aZ.bP{Y:aD}{aV Z:U}(d:bC aV Z){k:Bool}{s:M}{u:Nat}{e:Nat}(G:cL b7 Z s u (D.aL e))(Q:(D.aL e).length≤300000){i:Nat}(a:dU Z i [.bool k,.slice s (D.aL e).length u])(T:aV.size≤i){l:Bool}{w:M}{x:Nat}{f:Nat}(H:cL b7 Z w x (D.aL f))(V:(D.aL f).length≤300000){j:Nat}(b:dU Z j [.bool l,.slice w (D.aL f).length x])(Nv:aV.size≤j){y:Bool}{z:M}{A:Nat}{m:Nat}(Nw:cL b7 Z z A (D.aL m))(Nx:(D.aL m).length≤300000){fF:Nat}(c:dU Z fF [.bool y,.slice z (D.aL m).length A])(B:aV.size≤fF)(Ny:i ≠ j)(C:i ≠ fF)(E:j ≠ fF)(g:hJ gD aV Y (aZ.v k e l f y m)):aZ.t Y (⟨i,0,none⟩:Addr) (⟨j,0,none⟩:Addr) (⟨fF,0,none⟩:Addr) Z:=by
 have F:=bC.refl Z
 have Nz:=a.lt
 have NA:=b.lt
 have NB:=c.lt
 have NC:(D.aL 0).length=0:=by simp [D.eK]
 unfold aZ.v at g
 unfold aZ.t
 refine c5 a (bZ _ _) rfl ?_
 refine cY rfl ?_
 refine c5 a (bZ _ _) rfl ?_
 refine bD rfl ?_
 refine c5 b (bZ _ _) rfl ?_
 refine cY rfl ?_
 refine c5 b (bZ _ _) rfl ?_
 refine bD rfl ?_
 refine b5 (nC.bI G rfl H rfl (by first | assumption | decide | omega) (by first | assumption | decide | omega)) fun v ND ⟨h,aI⟩=>?_
 obtain⟨NF,n⟩:∃ p,p=mR (cT (k,e)) (cT (l,f)):=⟨_,rfl⟩
 rw [← n] at aI
 replace g:=fW n g
 have I:=Jp k e l f
 rw [← n] at I
 obtain⟨NG,NH,rfl,o⟩:=aI
 refine eW rfl (cK (cY rfl (cK (bD rfl (dY (?_))))))
 have o:=o.from d.le
 have NI:=h.cP
 have a:=a.aS h
 have b:=b.aS h
 have c:=c.aS h
 have d:=d.trans h
 have F:=F.trans h
 refine eQ c (bZ _ _) rfl fun NJ c q J=>?_
 have a:=a.cG C q
 have b:=b.cG E q
 have d:=b2.aS d q B
 refine eQ c (bZ _ _) rfl fun NK c r P=>?_
 have a:=a.cG C r
 have b:=b.cG E r
 have d:=b2.aS d r B
 refine c5 c (bZ _ _) rfl ?_
 refine cY rfl ?_
 refine c5 c (bZ _ _) rfl ?_
 refine bD rfl ?_
 exact g _ _ d ⟨_,_,rfl,(o.cP (J.trans P))⟩
def aM.v(a:Bool)(b:Nat)(c:Bool)(d:Nat):(Bool × Nat):=
 bif c then
  fI (dG (-cT (a,b))) fun e=>
  fI (dG (-cT (c,d))) fun f=>
  aZ.v e.1 e.2 f.1 f.2 false 0
 else
  aZ.v a b c d false 0
theorem aM.bP{Y:aD}{aV Z:U}(a:bC aV Z){q:Bool}{Q:M}{T V:Nat}{i:Nat}(Nv:cL b7 Z Q T (D.aL i))(NJ:V=(D.aL i).length)(NS:(D.aL i).length≤150000){r:Bool}{Nw:M}{Nx Ny:Nat}{j:Nat}(Nz:cL b7 Z Nw Nx (D.aL j))(NK:Ny=(D.aL j).length)(NT:(D.aL j).length≤150000)(g:hJ gD aV Y (aM.v q i r j)):aM.t Y q Q V T r Nw Ny Nx Z:=by
 subst NJ NK
 have c:=bC.refl Z
 have NU:(D.aL 0).length=0:=by simp [D.eK]
 unfold aM.v at g
 unfold aM.t
 refine eX fun s b G=>?_
 have u:aV.size≤Z.size:=a.le
 have NA:Z.size≤Z.size:=c.le
 have NL:=b.lt
 have w:=G.cP
 have a:=a.trans G
 have c:=c.trans G
 refine eX fun m d x=>?_
 have k:Z.size ≠ s.size:=Nat.ne_of_lt b.lt
 have y:aV.size≤s.size:=a.le
 have NB:Z.size≤s.size:=c.le
 have NM:=d.lt
 have n:=x.cP
 have b:=b.aS x
 have a:=a.trans x
 have c:=c.trans x
 refine eX fun NN e o=>?_
 have z:Z.size ≠ m.size:=Nat.ne_of_lt b.lt
 have A:s.size ≠ m.size:=Nat.ne_of_lt d.lt
 have e:dU NN (m.size) [.bool false,.slice none (D.aL 0).length 0]:=by rw [D.eK];exact e
 have NC:aV.size≤m.size:=a.le
 have NV:Z.size≤m.size:=c.le
 have NW:=e.lt
 have l:=o.cP
 have b:=b.aS o
 have d:=d.aS o
 have a:=a.trans o
 have c:=c.trans o
 refine c5 d (bZ _ _) rfl ?_
 refine cY rfl ?_
 refine vO g (fun NO g=>?_) (fun NO g=>?_)
 ·refine⟨h0 rfl ((n.trans l).lt NL),?_⟩
  refine c5 b (bZ _ _) rfl ?_
  refine cY rfl ?_
  refine c5 b (bZ _ _) rfl ?_
  refine bD rfl ?_
  refine b5 (l1.bI (Nv.cP (w.trans (n.trans l))) rfl) fun v NX ⟨f,aI⟩=>?_
  obtain⟨NY,H⟩:∃ p,p=dG (-cT (q,i)):=⟨_,rfl⟩
  rw [← H] at aI
  replace g:=fW H g
  have NP:=A8 q i
  rw [← H] at NP
  obtain⟨NZ,N0,rfl,I⟩:=aI
  refine eW rfl (cK (cY rfl (cK (bD rfl (dY (?_))))))
  have I:=I.from a.le
  have ND:=f.cP
  have b:=b.aS f
  have d:=d.aS f
  have e:=e.aS f
  have a:=a.trans f
  have c:=c.trans f
  refine⟨f.fL (Nat.le_refl _),?_⟩
  refine⟨h0 rfl ((l).lt NM),?_⟩
  refine c5 d (bZ _ _) rfl ?_
  refine cY rfl ?_
  refine c5 d (bZ _ _) rfl ?_
  refine bD rfl ?_
  refine b5 (l1.bI (Nz.cP (w.trans (n.trans (l.trans ND)))) rfl) fun v N1 ⟨h,aI⟩=>?_
  obtain⟨N2,J⟩:∃ p,p=dG (-cT (r,j)):=⟨_,rfl⟩
  rw [← J] at aI
  replace g:=fW J g
  have NQ:=A8 r j
  rw [← J] at NQ
  obtain⟨N3,N4,rfl,P⟩:=aI
  refine eW rfl (cK (cY rfl (cK (bD rfl (dY (?_))))))
  have P:=P.from a.le
  have NR:=h.cP
  have b:=b.aS h
  have d:=d.aS h
  have e:=e.aS h
  have a:=a.trans h
  have c:=c.trans h
  refine⟨h.fL (ND).le,?_⟩
  refine eQ b (bZ _ _) rfl fun N5 b B NF=>?_
  have d:=d.cG (Ne.symm k) B
  have e:=e.cG (Ne.symm z) B
  have a:=b2.aS a B u
  have c:=b2.aS c B NA
  refine eQ b (bZ _ _) rfl fun N6 b C NG=>?_
  have d:=d.cG (Ne.symm k) C
  have e:=e.cG (Ne.symm z) C
  have a:=b2.aS a C u
  have c:=b2.aS c C NA
  refine eQ d (bZ _ _) rfl fun N7 d E NH=>?_
  have b:=b.cG k E
  have e:=e.cG (Ne.symm A) E
  have a:=b2.aS a E y
  have c:=b2.aS c E NB
  refine eQ d (bZ _ _) rfl fun N8 d F NI=>?_
  have b:=b.cG k F
  have e:=e.cG (Ne.symm A) F
  have a:=b2.aS a F y
  have c:=b2.aS c F NB
  exact aZ.bP a (I.cP (NR.trans (NF.trans (NG.trans (NH.trans NI))))).rd (by first | assumption | decide | omega) b u (P.cP (NF.trans (NG.trans (NH.trans NI)))).rd (by first | assumption | decide | omega) d y (El _ _ _) (by first | assumption | decide | omega) e NC k z A g
 ·exact aZ.bP a (Nv.cP (w.trans (n.trans l))) (by first | assumption | decide | omega) b u (Nz.cP (w.trans (n.trans l))) (by first | assumption | decide | omega) d y (El _ _ _) (by first | assumption | decide | omega) e NC k z A g
def v(a:Bool)(b:Nat)(c:Bool)(d:Nat):(Bool × Nat):=aM.v a b c d
theorem bP{Z:U}{a:Bool}{b:M}{c d:Nat}{e:Nat}(f:cL b7 Z b c (D.aL e))(g:d=(D.aL e).length)(h:(D.aL e).length≤150000){i:Bool}{j:M}{k l:Nat}{m:Nat}(n:cL b7 Z j k (D.aL m))(o:l=(D.aL m).length)(p:(D.aL m).length≤150000):a0 id #[.agg #[.bool a,.slice b d c],.agg #[.bool i,.slice j l k]] Z fun b c=>bC Z c∧gD Z c b (v a e i m):=
 ok (aM.bP (bC.refl _) f g h n o p fun v aB S aI=>⟨S,aI⟩)
end k4
theorem JF{a K:Int}(c:K ≠ 0):k1 (-a) (-K)=k1 a K:=by
 rw [Jf]
 unfold k1
 rw [A1,Int.natAbs_neg]
 have:decide (-K < 0)=!decide (K < 0):=by
  by_cases b:K < 0
  ·simp [b];omega
  ·simp [b];omega
 rw [this];congr 1
 cases decide (a < 0) <;> cases decide (K < 0) <;> rfl
theorem JG(K c:Bool)(a1 bH:Nat):k4.v K a1 c bH=uE (cT (K,a1)) (cT (c,bH)):=by
 unfold k4.v k4.aM.v k4.aZ.v
 simp only [fI,uF]
 cases c
 ·rw [cond_false]
  have Z:¬ cT (false,bH) < 0:=by rw [l2];unfold c6;simp
  show mR (cT (K,a1)) (cT (false,bH))=_
  unfold mR uE;rw [if_neg Z]
 ·rw [cond_true]
  have Z:¬ -cT (true,bH) < 0:=by rw [l2];unfold c6;simp
  show mR (-cT (K,a1)) (-cT (true,bH))=_
  unfold mR uE;rw [if_neg Z]
  by_cases aV:cT (true,bH)=0
  ·rw [if_pos (by omega),if_pos aV]
  ·rw [if_neg (by omega),if_neg aV,JF aV]
section
variable {a K:M} {c aT l m a1 bH:Nat} {L aP:List Nat} {Z:U} {N aQ:Int} {p aE:Bool}
theorem k4.bI(r:cL b7 Z a c (D.aL a1))(O:l=(D.aL a1).length)(aI:cL b7 Z K aT (D.aL bH))(f:m=(D.aL bH).length)(b:(D.aL a1).length≤150000)(d:(D.aL bH).length≤150000):a0 k4.id #[.agg #[.bool p,.slice a l c],.agg #[.bool aE,.slice K m aT]] Z fun v aB=>bC Z aB∧gD Z aB v (uE (cT (p,a1)) (cT (aE,bH))):=by rw [← JG];exact k4.bP r O b aI f d
end
end Go.Proofs.YtjijdlkpmngolaaGreat.G
