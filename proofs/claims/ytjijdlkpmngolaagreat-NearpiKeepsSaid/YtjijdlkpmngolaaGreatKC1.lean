import Derived.Test.YtjijdlkpmngolaaGreatKB
import Derived.Test.YtjijdlkpmngolaaGreatKC0
set_option linter.unusedVariables false
namespace Go.Proofs.YtjijdlkpmngolaaGreat.G
open Go.Gv
set_option maxRecDepth 100000
set_option linter.unusedVariables false
theorem KV{aG L:Nat}(bH:aG≤64):L / 2 ^ (64 - aG)=L*2 ^ aG / 18446744073709551616:=by
 have N:18446744073709551616=2 ^ (64 - aG)*2 ^ aG:=by rw [← Nat.pow_add,show 64 - aG+aG=64 by omega]
 rw [N,Nat.mul_div_mul_right _ _ (Nat.pow_pos (by decide))]
theorem KW{Y:aF}{n aG V aI:Nat}{hH:List Nat}{a2:U}(f:a2.size≤aI)(v:0 < aG)(bH:aG < 64)(w:hH.length=n)(x:n < 35184372088820)(g:Words hH)(h:val hH*2 ^ aG=V)(y:V < 2 ^ (64*n))
  (post:∀ Z a,a.length=n→Own Z aI a→bK a2 Z→val a=V→Y (.slice (some ⟨aI,0,none⟩) n n) Z) :
  ∀ (R O c:Nat) (a:List Nat) (Z:U),O+R=n→a.length=n→Own Z aI a→bK a2 Z→a.drop O=hH.drop O→c < 2 ^ aG→val (a.take O)+c*2 ^ (64*O)=val (hH.take O)*2 ^ aG→
   mZ.bU.t Y (R+1) (aG:Int) (some ⟨aI,0,none⟩) n n (c:Int) (n:Int) (O:Int) Z:=by
 intro R
 induction R with
 | zero=>
  intro O c a Z a8 b aQ cO aW d N
  unfold mZ.bU.t mZ.cH.t
  refine cE (fun a3=>absurd a3 (by omega)) fun _=>?_
  unfold mZ.a5.t
  have i:O=n:=by omega
  subst i
  rw [List.take_of_length_le (by omega),List.take_of_length_le (by omega),h] at N
  have j:c=0:=by
   rcases Nat.eq_zero_or_pos c with a2 | a2
   ·exact a2
   ·have:1*2 ^ (64*O)≤c*2 ^ (64*O):=Nat.mul_le_mul_right _ a2
    omega
  subst j
  exact post Z a b aQ cO (by omega)
 | succ R bZ=>
  intro O c a Z a8 b aQ cO aW d N
  have e:a.getD O 0=hH.getD O 0:=by
   have:=congrArg (fun l=>l.headD 0) aW
   simpa [AW] using this
  have k:=Ay g O
  unfold mZ.bU.t mZ.cH.t
  refine cE (fun _=>?_) fun a3=>absurd (by omega) a3
  have r:cJ Z (some ⟨aI,0,none⟩) n a:=aQ.rd (by omega)
  have m:c < 18446744073709551616:=Nat.lt_trans d (CO bH)
  refine gJ r (aD:=O) rfl b.symm (by omega) ?_
  rw [e]
  refine rL rfl aG (2 ^ aG) (by omega) rfl rfl ?_
  refine AO rfl rfl (Nat.mod_lt _ (by decide)) m ?_
  rw [Nat.or_comm,FQ bH d]
  refine gJ r (aD:=O) rfl b.symm (by omega) ?_
  rw [e]
  refine cT ((64 - aG:Nat):Int) (by omega) (by omega) (by omega) ?_
  refine nM rfl (64 - aG) (2 ^ (64 - aG)) (by omega) rfl rfl ?_
  rw [KV (by omega)]
  have o:=FT (L:=hH.getD O 0) bH d
  have p:=FR (R:=aG) k
  refine mY aQ (aD:=O) rfl b.symm (by omega) rfl o fun q=>?_
  refine cT ((O+1:Nat):Int) (by omega) (by omega) (by omega) ?_
  refine bZ (O+1) _ _ _ (by omega) (by simp [b]) q (cG.aU cO (cG.set _ _ _ _) f) ?_ p ?_
  ·rw [List.drop_set_of_lt (by omega),← List.drop_drop,← List.drop_drop,aW]
  ·have s:(a.set O (hH.getD O 0*2 ^ aG % 18446744073709551616+c)).take (O+1)=a.take O ++ [hH.getD O 0*2 ^ aG % 18446744073709551616+c]:=qV (by omega)
   rw [s,h5,List.length_take,Nat.min_eq_left (by omega),CR,Nat.add_mul,← N,kR]
   have u:2 ^ (64*O)*hH.getD O 0*2 ^ aG=hH.getD O 0*2 ^ aG*2 ^ (64*O):=by rw [Nat.mul_assoc,Nat.mul_comm]
   rw [u]
   generalize hH.getD O 0*2 ^ aG=aT
   generalize 2 ^ (64*O)=P
   simp only [val,Nat.mul_zero,Nat.add_zero]
   have z:aT*P=aT % 18446744073709551616*P+aT / 18446744073709551616*(18446744073709551616*P):=by
    rw [← Nat.mul_assoc,← Nat.add_mul];congr 1;omega
   rw [Nat.mul_add,Nat.mul_comm P,Nat.mul_comm P]
   omega
theorem Gb(a9:List Nat)(m:Nat):val (a9 ++ List.replicate m 0)=val a9:=by rw [h5,uY];simp
theorem Gc{a:S}{c l n aG:Nat}{aC:List Nat}{Z:U}(r:cJ Z a c aC)(g:l=aC.length)(bH:aG < 64)(h:aC.length≤n)(i:n < 35184372088820)(dC:val aC*2 ^ aG < 2 ^ (64*n)):
  a4 mZ.id #[.slice a l c,.int .i64 (aG:Int),.int .i64 (n:Int)] Z fun v aB=>bK Z aB∧∃ aI b,v=.slice (some ⟨aI,0,none⟩) n n∧Z.size≤aI∧Own aB aI b∧b.length=n∧val b=val aC*2 ^ aG:=by
 refine mZ.ok ?_
 unfold mZ.t mZ.aP.t
 refine oD n rfl rfl rfl rfl (by omega) fun a1 j cC=>?_
 rw [Int.toNat_natCast]
 refine AL j (r.aU cC) (by simp) g (Nat.le_refl _) cC fun k d f=>?_
 have m:List.take (List.replicate n 0).length aC ++ List.drop aC.length (List.replicate n 0)=aC ++ List.replicate (n - aC.length) 0:=by
  rw [List.length_replicate,List.take_of_length_le h,List.drop_replicate]
 rw [m] at d
 have e:(aC ++ List.replicate (n - aC.length) 0).length=n:=by simp;omega
 refine gL (fun o=>?_) fun o=>?_
 ·have:aG=0:=by omega
  subst this
  exact⟨f,Z.size,_,rfl,Nat.le_refl _,d,e,by rw [Gb];simp⟩
 ·unfold mZ.bM.t
  refine⟨n+1,KW (hH:=aC ++ List.replicate (n - aC.length) 0) (Nat.le_refl Z.size) (by omega) bH e i d.words (by rw [Gb]) dC (fun u b p q s c3=>⟨s,Z.size,b,rfl,Nat.le_refl _,q,p,c3⟩) n 0 0 _ k (by omega) e d f rfl (Nat.pow_pos (by decide)) (by simp [val])⟩
theorem KX{K aI:Nat}(Z:K ≠ aI):gA aI (some ⟨K,0,none⟩):=fun p N=>by cases N;exact Z
def vC(aC aX:List Nat):List Nat × List Nat × Int:=if jM aC∧jM aX then(if val aX=0 then([],[],4) else(aN (val aC / val aX),aN (val aC % val aX),0)) else([],[],2)
abbrev xD:jK (List Nat × List Nat × Int):=iU u1 u1 (n8 .i64)
theorem xD.mk{a2 Z:U}{a K:S}{c aZ l m:Nat}{aC aX:List Nat}{L:Int}(r:cX dL a2 Z a c aC)(aG:cX dL a2 Z K aZ aX)(b:l=aC.length)(d:m=aX.length)(O:In .i64 L):xD a2 Z (.tuple #[.slice a l c,.slice K m aZ,.int .i64 L]) (aC,aX,L):=by
 subst b;subst d
 exact⟨_,_,_,rfl,⟨_,_,rfl,r⟩,⟨_,_,rfl,aG⟩,rfl,O⟩
def lN(a2 Z:U)(v:Value)(p:List Nat × List Nat × Int):Prop:=xD a2 Z v p∧∀ a l c K m aZ L,v=.tuple #[.slice a l c,.slice K m aZ,L]→h7 a2.size Z.size Z [(a,l,c),(K,m,aZ)] [p.1,p.2.1]
theorem lN.mk{a2 Z:U}{a K:S}{c aZ l m:Nat}{aC aX:List Nat}{L:Int}(R:Nat)(a1:a2.size≤R)(b:R≤Z.size)(aQ:(gC a2.size R Z (a,l,c) aC∧gC R Z.size Z (K,m,aZ) aX)∨(gC R Z.size Z (a,l,c) aC∧gC a2.size R Z (K,m,aZ) aX))(O:In .i64 L):
  lN a2 Z (.tuple #[.slice a l c,.slice K m aZ,.int .i64 L]) (aC,aX,L):=by
 refine⟨?_,fun d e dI f dU g h N=>?_⟩
 ·rcases aQ with ⟨p,aI⟩ | ⟨p,aI⟩
  ·exact xD.mk (gC.iF p (Nat.le_refl _)) (gC.iF aI a1) p.1 aI.1 O
  ·exact xD.mk (gC.iF p a1) (gC.iF aI (Nat.le_refl _)) p.1 aI.1 O
 ·simp only [Value.tuple.injEq,Array.mk.injEq,List.cons.injEq,Value.slice.injEq,and_true] at N
  obtain⟨⟨rfl,rfl,rfl⟩,⟨rfl,rfl,rfl⟩,rfl⟩:=N
  exact h7.pair a1 b aQ
theorem lN.none{a2 Z:U}{L:Int}(R:a2.size≤Z.size)(O:In .i64 L:=by decide):lN a2 Z (.tuple #[.slice Option.none 0 0,.slice Option.none 0 0,.int .i64 L]) ([],[],L):=
 lN.mk a2.size (Nat.le_refl _) R (Or.inl ⟨gC.nil _ _ _,gC.nil _ _ _⟩) O
theorem lN.elim{a2 Z:U}{v:Value}{p:List Nat × List Nat × Int}{aH:S→Nat→Nat→S→Nat→Nat→Int→Prop}(t:lN a2 Z v p)
  (g:∀ a c K aZ,h7 a2.size Z.size Z [(a,p.1.length,c),(K,p.2.1.length,aZ)] [p.1,p.2.1]→cX dL a2 Z a c p.1→cX dL a2 Z K aZ p.2.1→aH a p.1.length c K p.2.1.length aZ p.2.2) :
  cW v fun aT=>cV aT fun b eK=>aR b fun a l c=>cV eK fun d e=>aR d fun K m aZ=>cV e fun h i=>a0 .i64 h fun L=>b9 i (aH a l c K m aZ L):=by
 obtain⟨⟨L,aT,bS,N,⟨a,c,j,r⟩,⟨K,aZ,k,n⟩,o,O⟩,f⟩:=t
 subst N;subst j;subst k;subst o
 exact g a c K aZ (f _ _ _ _ _ _ _ rfl) r n
theorem KY{aX:List Nat}(f:eA aX=aX)(Z:aX ≠ []):aX.getD (aX.length - 1) 0 ≠ 0:=(w6.mp f).resolve_left Z
theorem KZ{a K:S}{c aZ l m:Nat}{aC aX:List Nat}{Z:U}(r:cJ Z a c aC)(aG:cJ Z K aZ aX)(QG:l=aC.length)(QH:m=aX.length):
  a4 nP.id #[.slice a l c,.slice K m aZ] Z fun v aB=>bK Z aB∧lN Z aB v (vC aC aX):=by
 subst QG;subst QH
 refine nP.ok ?_
 unfold nP.t nP.aP.t
 refine cD (oC r rfl) fun v a1 ⟨e,f⟩=>?_
 subst e;subst f
 refine dB rfl ?_
 refine hO (fun w=>⟨bK.refl _,?_⟩) fun w=>?_
 ·unfold vC;rw [if_neg (fun i=>of_decide_eq_false w i.1)];exact lN.none (Nat.le_refl _)
 refine cD (oC aG rfl) fun v Rl ⟨e,f⟩=>?_
 subst e;subst f
 refine dB rfl ?_
 refine hO (fun x=>⟨bK.refl _,?_⟩) fun x=>?_
 ·unfold vC;rw [if_neg (fun i=>of_decide_eq_false x i.2)];exact lN.none (Nat.le_refl _)
 have j:=of_decide_eq_true w
 have p:=of_decide_eq_true x
 have q:=j.aN r.words
 have QI:=p.aN aG.words
 have H:=j.1;have QJ:=p.1
 unfold nP.a5.t
 unfold vC
 rw [if_pos ⟨j,p⟩]
 refine gL (fun a2=>⟨bK.refl _,?_⟩) fun a2=>?_
 ·have:aX=[]:=List.length_eq_zero_iff.mp (by omega)
  subst this
  rw [if_pos (show val []=0 from rfl)];exact lN.none (Nat.le_refl _)
 have I:aX ≠ []:=fun N=>a2 (by subst N;rfl)
 have y:=KY p.2 I
 have QK:0 < aX.length:=List.length_pos_iff.mpr I
 have s:=A3 aG.words (m:=aX.length - 1) (by omega)
 have J:2 ^ (64*(aX.length - 1))≤val aX:=by
  refine Nat.le_of_not_lt fun i=>?_
  rw [Nat.div_eq_of_lt i] at s
  exact y s.symm
 have P:val aX ≠ 0:=by
  have:0 < 2 ^ (64*(aX.length - 1)):=Nat.pow_pos (by decide)
  omega
 rw [if_neg P]
 refine cD (CM r aG rfl rfl) fun v Rm ⟨e,f⟩=>?_
 subst e;subst f
 refine b0 rfl ?_
 refine cE (fun a3=>?_) fun a3=>?_
 ·have dC:val aC < val aX:=by unfold fU at a3;split at a3 <;> (try split at a3) <;> omega
  refine cD (CA r rfl) fun v z ⟨k,d⟩=>?_
  rw [j.fW r.words] at d
  refine d.iM fun eI eN A _=>⟨k,?_⟩
  rw [Nat.div_eq_of_lt dC,Nat.mod_eq_of_lt dC,e0,q]
  exact lN.mk _ (Nat.le_refl _) k.le (Or.inl ⟨gC.nil _ _ _,gC.o2 A rfl (Nat.le_refl _) (Nat.le_refl _)⟩) (by decide)
 have QL:val aX≤val aC:=by unfold fU at a3;split at a3 <;> (try split at a3) <;> omega
 refine gL (fun a1=>?_) fun a1=>?_
 ·have QM:aX.length=1:=by omega
  have QN:aX.getD 0 0=val aX:=by
   rw [QM] at s
   simpa using s.symm
  have Q:=aG.word 0
  refine gJ aG (aD:=0) rfl rfl (by omega) ?_
  rw [QN] at Q ⊢
  refine cD (F2 r rfl Q) fun v z ⟨k,d⟩=>?_
  have Rn:=Nat.mod_lt (val aC) (show 0 < val aX by omega)
  have QO:vA aC (val aX)=(aN (val aC / val aX),((val aC % val aX:Nat):Int),0):=by unfold vA;rw [if_pos j,if_neg P]
  rw [QO] at d
  refine d.elim fun eI eN A=>?_
  refine cD (FY (aE:=val aC % val aX) (by omega) z) fun v QP ⟨h,QQ⟩=>?_
  refine w0.iM QQ fun bE bD QR=>?_
  exact⟨k.trans h,lN.mk _ k.le h.le (Or.inl ⟨(gC.o2 A rfl (Nat.le_refl _) (Nat.le_refl _)).aU h,gC.o2 QR rfl (Nat.le_refl _) (Nat.le_refl _)⟩) (by decide)⟩
 refine cT ((aX.length - 1:Nat):Int) (by omega) (by omega) (by omega) ?_
 refine gJ aG (aD:=aX.length - 1) rfl rfl (by omega) ?_
 have QS:=aG.word (aX.length - 1)
 refine cD (FZ QS _) fun v z ⟨e,f⟩=>?_
 subst e;subst f
 refine b0 rfl ?_
 have Ro:=rI y
 have Rp:=yN aG.words (n:=aX.length - 1) (by omega) y
 obtain⟨b,QT⟩:∃ b,b=64 - eJ (aX.getD (aX.length - 1) 0):=⟨_,rfl⟩
 rw [← QT]
 have T:b < 64:=by omega
 have Rq:(2:Nat) ^ 64=18446744073709551616:=by decide
 have Rr:eJ (aX.getD (aX.length - 1) 0)≤64:=iL.mpr (by omega)
 refine cT ((aC.length+1:Nat):Int) (by omega) (by omega) (by omega) ?_
 have QU:2 ^ b≤2 ^ 64:=Nat.pow_le_pow_right (by decide) (by omega)
 have g:0 < 2 ^ b:=Nat.pow_pos (by decide)
 have V:=iK r.words
 have QV:val aC*2 ^ b < 2 ^ (64*(aC.length+1)):=by
  rw [Nat.mul_add,Nat.pow_add,Nat.mul_one]
  calc val aC*2 ^ b < 2 ^ (64*aC.length)*2 ^ b:=Nat.mul_lt_mul_of_pos_right V g
   _≤_:=Nat.mul_le_mul_left _ QU
 have Qx:val aX*2 ^ b < 2 ^ (64*aX.length):=by
  have a1:val aX < 2 ^ (64*(aX.length - 1)+eJ (aX.getD (aX.length - 1) 0)):=iL.mp (by omega)
  have e:64*aX.length=64*(aX.length - 1)+eJ (aX.getD (aX.length - 1) 0)+b:=by omega
  rw [e,Nat.pow_add]
  exact Nat.mul_lt_mul_of_pos_right a1 g
 refine cD (Gc (n:=aC.length+1) r rfl T (by omega) (by omega) QV) fun v QP ⟨h,Qy,QW,c3,QX,B,QY,iA⟩=>?_
 subst c3
 refine bL rfl ?_
 refine cD (Gc (n:=aX.length) (aG.aU h) rfl T (Nat.le_refl _) (by omega) Qx) fun v QZ ⟨Qz,QA,b8,c3,Rs,QB,Q0,C⟩=>?_
 subst c3
 refine bL rfl ?_
 have Q1:b8.getD (aX.length - 1) 0 ≠ 0:=by
  rw [← A3 QB.words (m:=aX.length - 1) (by omega),C]
  have a1:2 ^ (64*(aX.length - 1))≤val aX*2 ^ b:=Nat.le_trans J (Nat.le_mul_of_pos_right _ g)
  have:=Nat.div_pos a1 (Nat.pow_pos (by decide))
  omega
 have Rt:aX.length≤aC.length:=by
  rw [← q,← QI];exact o1 QL
 have Q2:val (QW.drop (aC.length+1 - aX.length)) < val b8:=by
  rw [lW B.words,iA,C,Nat.div_lt_iff_lt_mul (Nat.pow_pos (by decide))]
  calc val aC*2 ^ b < 2 ^ (64*aC.length)*2 ^ b:=Nat.mul_lt_mul_of_pos_right V g
   _=2 ^ (64*(aX.length - 1))*2 ^ b*2 ^ (64*(aC.length+1 - aX.length)):=by
    rw [← Nat.pow_add,← Nat.pow_add,← Nat.pow_add];congr 1;omega
   _≤_:=Nat.mul_le_mul_right _ (Nat.mul_le_mul_right _ J)
 have Ru:=B.lt
 have Q3:cJ QZ (some ⟨QA,0,none⟩) aX.length b8:=QB.rd (by omega)
 have Q4:QA ≠ Qy:=by omega
 refine cD (KU Q3 Q0 rfl (KX Q4) QK Q1 (by omega) (Nat.le_refl _) (by omega) QY (B.aU Qz).AK Q2) fun v QC ⟨Q5,QD,eW,c3,Rv,Q6,QE,Q7,Q8,Rw,o,eq⟩=>?_
 subst c3
 refine bL rfl ?_
 rw [iA,C] at o eq
 rw [Nat.mul_mod_mul_right] at o
 rw [Nat.mul_div_mul_right _ _ g] at eq
 have D:val QD < 2 ^ (64*aX.length):=by
  rw [o]
  exact Nat.lt_trans (Nat.mul_lt_mul_of_pos_right (Nat.mod_lt _ (by omega)) g) Qx
 have Q9:=Ga (Nat.le_refl _) D QE.ok
 refine w4 rfl (by omega) ?_
 have Ra:cJ QC (some ⟨Qy,0,none⟩) (aC.length+1) (QD.take aX.length):=((QE.n7 (c:=aC.length+1) (by show _≤35184372088828;omega) (by omega)).yO).take _
 refine cD (CA Ra (by rw [List.length_take];omega)) fun v Rx ⟨u,d⟩=>?_
 rw [Q9.2,o] at d
 have Ry:val aC % val aX < val aX:=Nat.mod_lt _ (by omega)
 have QF:(aN (val aC % val aX*2 ^ b)).length≤8192:=Nat.le_trans (gZ.mpr (by rw [o] at D;exact D)) QJ
 have Rb:fW (val aC % val aX*2 ^ b)=(aN (val aC % val aX*2 ^ b),0):=by unfold fW;rw [if_pos QF]
 rw [Rb] at d
 refine d.elim fun b6 b7 Rc=>?_
 refine cD (FW Rc rfl (by omega)) fun v Rd ⟨E,d⟩=>?_
 have Re:(aN (val aC % val aX)).length≤8192:=Nat.le_trans (o1 (Nat.mod_le _ _)) (by rw [q];exact H)
 have Rf:u9 (aN (val aC % val aX*2 ^ b)) (b:Int)=(aN (val aC % val aX),0):=by
  unfold u9
  rw [if_neg (by omega),if_pos ⟨QF,rH _⟩,e9,Int.toNat_natCast,Nat.mul_div_cancel _ g]
  unfold fW;rw [if_pos Re]
 rw [Rf] at d
 refine d.iM fun Rz RA Rg _=>?_
 have Rh:cJ Rd (some ⟨Q5,0,none⟩) (aC.length+1 - aX.length) eW:=((Q7.n7 (c:=aC.length+1 - aX.length) (by show _≤35184372088828;omega) (by omega)).yO).aU (u.trans E)
 refine cD (CA Rh Q6.symm) fun v fV ⟨F,d⟩=>?_
 have Ri:(aN (val aC / val aX)).length≤8192:=Nat.le_trans (o1 (Nat.div_le_self _ _)) (by rw [q];exact H)
 have Rj:fW (val eW)=(aN (val aC / val aX),0):=by rw [eq];unfold fW;rw [if_pos Ri]
 rw [Rj] at d
 refine d.iM fun RB RC Rk _=>?_
 have G:bK _ QC:=Q8.aU (h.trans Qz) QX
 exact⟨G.trans (u.trans (E.trans F)),lN.mk _ (G.trans (u.trans E)).le F.le (Or.inr ⟨gC.o2 Rk rfl (Nat.le_refl _) (Nat.le_refl _),(gC.o2 Rg rfl (G.trans u).le (Nat.le_refl _)).aU F⟩) (by decide)⟩
theorem K0{a K:S}{c aZ l m:Nat}{aC aX:List Nat}{Z:U}(r:cJ Z a c aC)(aG:cJ Z K aZ aX)(b:l=aC.length)(d:m=aX.length):
  a4 nP.id #[.slice a l c,.slice K m aZ] Z fun v aB=>bK Z aB∧xD Z aB v (vC aC aX):=
 cD (KZ r aG b d) fun v aB ⟨R,t⟩=>⟨R,t.1⟩
def fK(n:Nat):Prop:=(aN n).length≤8192
theorem K1{n R m:Nat}(Z:n < 2 ^ R)(a:R≤64*m):(aN n).length≤m:=
 gZ.mpr (Nat.lt_of_lt_of_le Z (Nat.pow_le_pow_right (by decide) a))
theorem jV{n R:Nat}(Z:n < 2 ^ R)(a:R≤524288):fK n:=K1 Z (m:=8192) a
theorem kK{n m:Nat}(Z:n≤m)(aG:fK m):fK n:=Nat.le_trans (o1 Z) aG
theorem pZ{n:Nat}(Z:n < 18446744073709551616):fK n:=jV (R:=64) (by rw [show(2:Nat) ^ 64=18446744073709551616 by decide];exact Z) (by omega)
theorem vD{n:Nat}(aG:fK n):fW n=(aN n,0):=if_pos aG
theorem oI{n:Nat}(aG:fK n):jM (aN n):=⟨aG,rH n⟩
section
variable {a K:S} {c aZ l m L aT:Nat} {Z:U}
theorem o6{aH:S→Nat→Nat→U→Prop}(b:L < 18446744073709551616)
  (g:∀ a c aB,bK Z aB→cX dL Z aB a c (aN L)→aH a (aN L).length c aB) :
  a4 kV.id #[.int .u64 (L:Int)] Z fun v aB=>aR v fun a l c=>aH a l c aB:=by
 refine cD (FY b Z) fun v aB ⟨R,aG⟩=>?_
 exact aG.iM fun a c r=>g a c aB R r
theorem vE{aH:S→Nat→Nat→Int→U→Prop}(r:cJ Z a c (aN L))(b:l=(aN L).length)(aG:cJ Z K aZ (aN aT))(d:m=(aN aT).length)(g1:fK (L+aT))
  (g:∀ a c aB,bK Z aB→cX dL Z aB a c (aN (L+aT))→aH a (aN (L+aT)).length c 0 aB) :
  a4 jU.id #[.slice a l c,.slice K m aZ] Z fun v aB=>cW v fun aT=>cV aT fun e eK=>aR e fun a l c=>cV eK fun f h=>a0 .i64 f fun L=>b9 h (aH a l c L aB):=by
 refine cD (Ko r aG b d) fun v aB ⟨R,t⟩=>?_
 have N:xA (aN L) (aN aT)=(aN (L+aT),0):=by
  unfold xA;rw [if_pos ⟨oI (kK (by omega) g1),oI (kK (by omega) g1)⟩,e9,e9,vD g1]
 rw [N] at t
 exact t.iM fun a c r O=>g a c aB R r
theorem vF{aH:S→Nat→Nat→Int→U→Prop}(r:cJ Z a c (aN L))(b:l=(aN L).length)(aG:cJ Z K aZ (aN aT))(d:m=(aN aT).length)(g7:fK L)(e:fK aT)
  (g:∀ a c aB,bK Z aB→cX dL Z aB a c (aN (L - aT))→aH a (aN (L - aT)).length c (if L < aT then 3 else 0) aB) :
  a4 kH.id #[.slice a l c,.slice K m aZ] Z fun v aB=>cW v fun aT=>cV aT fun f eK=>aR f fun a l c=>cV eK fun h i=>a0 .i64 h fun L=>b9 i (aH a l c L aB):=by
 refine cD (Kq r aG b d) fun v aB ⟨R,t⟩=>?_
 have N:xB (aN L) (aN aT)=(aN (L - aT),if L < aT then 3 else 0):=by
  unfold xB;rw [if_pos ⟨oI g7,oI e⟩,e9,e9]
  split
  ·rw [show L - aT=0 by omega,e0]
  ·exact vD (kK (by omega) g7)
 rw [N] at t
 exact t.iM fun a c r O=>g a c aB R r
theorem vG{aH:S→Nat→Nat→Int→U→Prop}{aE:Nat}(r:cJ Z a c (aN L))(b:l=(aN L).length)(d:aE < 18446744073709551616)(g7:fK L)(g1:fK (L*aE))
  (g:∀ a c aB,bK Z aB→cX dL Z aB a c (aN (L*aE))→aH a (aN (L*aE)).length c 0 aB) :
  a4 kI.id #[.slice a l c,.int .u64 (aE:Int)] Z fun v aB=>cW v fun aT=>cV aT fun e eK=>aR e fun a l c=>cV eK fun f h=>a0 .i64 f fun L=>b9 h (aH a l c L aB):=by
 refine cD (KB r b d) fun v aB ⟨R,t⟩=>?_
 have N:AY (aN L) aE=(aN (L*aE),0):=by unfold AY;rw [if_pos (oI g7),e9,vD g1]
 rw [N] at t
 exact t.iM fun a c r O=>g a c aB R r
theorem CS{aH:S→Nat→Nat→Int→Int→U→Prop}{aE:Nat}(r:cJ Z a c (aN L))(b:l=(aN L).length)(a2:aE ≠ 0)(d:aE < 18446744073709551616)(g7:fK L)
  (g:∀ a c aB,bK Z aB→cX dL Z aB a c (aN (L / aE))→aH a (aN (L / aE)).length c ((L % aE:Nat):Int) 0 aB) :
  a4 kW.id #[.slice a l c,.int .u64 (aE:Int)] Z fun v aB=>cW v fun aT=>cV aT fun e eK=>aR e fun a l c=>cV eK fun f h=>a0 .u64 f fun L=>cV h fun i j=>a0 .i64 i fun bS=>b9 j (aH a l c L bS aB):=by
 refine cD (F2 r b d) fun v aB ⟨R,t⟩=>?_
 have N:vA (aN L) aE=(aN (L / aE),((L % aE:Nat):Int),0):=by unfold vA;rw [if_pos (oI g7),if_neg a2,e9]
 rw [N] at t
 exact t.elim fun a c r=>g a c aB R r
theorem yZ{aH:S→Nat→Nat→Int→U→Prop}{n:Nat}{O:Int}(a8:O=(n:Int))(r:cJ Z a c (aN L))(b:l=(aN L).length)(h:n < 9223372036854775808)(g7:fK L)(g1:fK (L*2 ^ n))
  (g:∀ a c aB,bK Z aB→cX dL Z aB a c (aN (L*2 ^ n))→aH a (aN (L*2 ^ n)).length c 0 aB) :
  a4 lB.id #[.slice a l c,.int .i64 O] Z fun v aB=>cW v fun aT=>cV aT fun d eK=>aR d fun a l c=>cV eK fun e f=>a0 .i64 e fun L=>b9 f (aH a l c L aB):=by
 subst a8
 refine cD (Kt r b (by omega)) fun v aB ⟨R,t⟩=>?_
 have N:yW (aN L) (n:Int)=(aN (L*2 ^ n),0):=by unfold yW;rw [if_neg (by omega),if_pos (oI g7),e9,Int.toNat_natCast,vD g1]
 rw [N] at t
 exact t.iM fun a c r O=>g a c aB R r
theorem CT{aH:S→Nat→Nat→Int→U→Prop}{n:Nat}{O:Int}(a8:O=(n:Int))(r:cJ Z a c (aN L))(b:l=(aN L).length)(h:n < 9223372036854775808)(g7:fK L)
  (g:∀ a c aB,bK Z aB→cX dL Z aB a c (aN (L / 2 ^ n))→aH a (aN (L / 2 ^ n)).length c 0 aB) :
  a4 lM.id #[.slice a l c,.int .i64 O] Z fun v aB=>cW v fun aT=>cV aT fun d eK=>aR d fun a l c=>cV eK fun e f=>a0 .i64 e fun L=>b9 f (aH a l c L aB):=by
 subst a8
 refine cD (FW r b (by omega)) fun v aB ⟨R,t⟩=>?_
 have N:u9 (aN L) (n:Int)=(aN (L / 2 ^ n),0):=by unfold u9;rw [if_neg (by omega),if_pos (oI g7),e9,Int.toNat_natCast,vD (kK (Nat.div_le_self _ _) g7)]
 rw [N] at t
 exact t.iM fun a c r O=>g a c aB R r
theorem Gd{aH:S→Nat→Nat→Int→U→Prop}{n:Nat}{O:Int}(a8:O=(n:Int))(r:cJ Z a c (aN L))(b:l=(aN L).length)(h:n < 9223372036854775808)(g7:fK L)
  (g:∀ a c aB,bK Z aB→cX dL Z aB a c (aN (L % 2 ^ n))→aH a (aN (L % 2 ^ n)).length c 0 aB) :
  a4 pW.id #[.slice a l c,.int .i64 O] Z fun v aB=>cW v fun aT=>cV aT fun d eK=>aR d fun a l c=>cV eK fun e f=>a0 .i64 e fun L=>b9 f (aH a l c L aB):=by
 subst a8
 refine cD (Ky r b (by omega)) fun v aB ⟨R,t⟩=>?_
 have N:yX (aN L) (n:Int)=(aN (L % 2 ^ n),0):=by unfold yX;rw [if_neg (by omega),if_pos (oI g7),e9,Int.toNat_natCast,vD (kK (Nat.mod_le _ _) g7)]
 rw [N] at t
 exact t.iM fun a c r O=>g a c aB R r
theorem rP{aH:Int→U→Prop}(r:cJ Z a c (aN L))(b:l=(aN L).length)(aG:cJ Z K aZ (aN aT))(d:m=(aN aT).length)(g:aH (fU L aT) Z):
  a4 jO.id #[.slice a l c,.slice K m aZ] Z fun v aB=>a0 .i64 v fun L=>aH L aB:=by
 refine cD (CM r aG b d) fun v aB ⟨e,f⟩=>?_
 subst e;subst f
 rw [e9,e9];exact g
theorem CU{aH:Int→U→Prop}(r:cJ Z a c (aN L))(b:l=(aN L).length)(g:aH ((eJ L:Nat):Int) Z):
  a4 pS.id #[.slice a l c] Z fun v aB=>a0 .i64 v fun L=>aH L aB:=by
 refine cD (Fq r b) fun v aB ⟨d,e⟩=>?_
 subst d;subst e
 rw [e9];exact g
theorem y0{aH:S→Nat→Nat→S→Nat→Nat→Int→U→Prop}(r:cJ Z a c (aN L))(b:l=(aN L).length)(aG:cJ Z K aZ (aN aT))(d:m=(aN aT).length)(a2:aT ≠ 0)(g7:fK L)(e:fK aT)
  (g:∀ a c K aZ aB,bK Z aB→cX dL Z aB a c (aN (L / aT))→cX dL Z aB K aZ (aN (L % aT))→aH a (aN (L / aT)).length c K (aN (L % aT)).length aZ 0 aB) :
  a4 nP.id #[.slice a l c,.slice K m aZ] Z fun v aB=>cW v fun aT=>cV aT fun f eK=>aR f fun a l c=>cV eK fun h i=>aR h fun K m aZ=>cV i fun j k=>a0 .i64 j fun bS=>b9 k (aH a l c K m aZ bS aB):=by
 refine cD (K0 r aG b d) fun v aB ⟨R,t⟩=>?_
 have N:vC (aN L) (aN aT)=(aN (L / aT),aN (L % aT),0):=by unfold vC;rw [if_pos ⟨oI g7,oI e⟩,e9,e9,if_neg a2]
 rw [N] at t
 obtain⟨_,_,_,n,⟨a,c,o,p⟩,⟨K,aZ,q,s⟩,u,_⟩:=t
 subst n;subst o;subst q;subst u
 exact g a c K aZ aB R p s
end
def fX(n:Nat):Prop:=(D.aN n).length≤1000000
theorem y1{n R m:Nat}(Z:n < 2 ^ R)(a:R≤32*m):(D.aN n).length≤m:=Cw.mpr (Nat.lt_of_lt_of_le Z (Nat.pow_le_pow_right (by decide) a))
theorem xE{n R:Nat}(Z:n < 2 ^ R)(a:R≤32000000):fX n:=y1 Z a
theorem s6{n m:Nat}(Z:n≤m)(aG:fX m):fX n:=Nat.le_trans (D.o1 Z) aG
theorem lO{n:Nat}(aG:fK n):fX n:=Nat.le_trans ((u3 n).mpr aG) (by decide)
theorem m0{n:Nat}(Z:n < 18446744073709551616):fX n:=lO (pZ Z)
theorem fX.l{n:Nat}(aG:fX n):(D.aN n).length≤1099511627770:=Nat.le_trans aG (by decide)
section
variable {a K:S} {c aZ l m L aT:Nat} {Z:U}
theorem lC{aH:S→Nat→Nat→U→Prop}{O:Int}(a8:O=(L:Int))(b:L < 18446744073709551616)
  (g:∀ a c aB,bK Z aB→cX cA Z aB a c (D.aN L)→aH a (D.aN L).length c aB) :
  a4 gN.id #[.int .u64 O] Z fun v aB=>aR v fun a l c=>aH a l c aB:=by
 refine cD (o5 a8 b Z) fun v aB ⟨R,aG⟩=>?_
 exact aG.elim fun a c r=>g a c aB R r
theorem CV{aH:S→Nat→Nat→U→Prop}(r:cL cA Z a c (D.aN L))(b:l=(D.aN L).length)
  (g:∀ a c aB,bK Z aB→cX dL Z aB a c (aN L)→aH a (aN L).length c aB) :
  a4 k7.id #[.slice a l c] Z fun v aB=>aR v fun a l c=>aH a l c aB:=by
 refine cD (Fv r b) fun v aB ⟨R,aG⟩=>?_
 obtain⟨a,c,N,r⟩:=aG
 subst N;exact bL rfl (g a c aB R r)
theorem oJ{aH:S→Nat→Nat→U→Prop}(r:cL cA Z a c (D.aN L))(b:l=(D.aN L).length)(aG:cL cA Z K aZ (D.aN aT))(d:m=(D.aN aT).length)(e:fX L)(f:fX aT)
  (g:∀ a c aB,bK Z aB→cX cA Z aB a c (D.aN (L+aT))→aH a (D.aN (L+aT)).length c aB) :
  a4 g0.id #[.slice a l c,.slice K m aZ] Z fun v aB=>aR v fun a l c=>aH a l c aB:=by
 refine cD (CF r aG b d (Nat.le_trans e.l (by decide)) (Nat.le_trans f.l (by decide))) fun v aB ⟨R,aG⟩=>?_
 exact aG.elim fun a c r=>g a c aB R r
theorem xF{aH:S→Nat→Nat→U→Prop}(r:cL cA Z a c (D.aN L))(b:l=(D.aN L).length)(aG:cL cA Z K aZ (D.aN aT))(d:m=(D.aN aT).length)(e:fX L)(f:fX aT)
  (g:∀ a c aB,bK Z aB→cX cA Z aB a c (D.aN (L*aT))→aH a (D.aN (L*aT)).length c aB) :
  a4 hS.id #[.slice a l c,.slice K m aZ] Z fun v aB=>aR v fun a l c=>aH a l c aB:=by
 refine cD (Fz r aG b d (Nat.le_trans e.l (by decide)) (Nat.le_trans f.l (by decide))) fun v aB ⟨R,aG⟩=>?_
 exact aG.elim fun a c r=>g a c aB R r
theorem o7{aH:S→Nat→Nat→U→Prop}(r:cL cA Z a c (D.aN L))(b:l=(D.aN L).length)(aG:cL cA Z K aZ (D.aN aT))(d:m=(D.aN aT).length)
  (g:∀ a c aB,bK Z aB→cX cA Z aB a c (D.aN (L - aT))→aH a (D.aN (L - aT)).length c aB) :
  a4 hE.id #[.slice a l c,.slice K m aZ] Z fun v aB=>aR v fun a l c=>aH a l c aB:=by
 refine cD (FF r aG b d) fun v aB ⟨R,aG⟩=>?_
 exact aG.elim fun a c r=>g a c aB R r
theorem y2{aH:Int→U→Prop}(r:cL cA Z a c (D.aN L))(b:l=(D.aN L).length)(aG:cL cA Z K aZ (D.aN aT))(d:m=(D.aN aT).length)(g:aH (fU L aT) Z):
  a4 jN.id #[.slice a l c,.slice K m aZ] Z fun v aB=>a0 .i64 v fun L=>aH L aB:=by
 refine cD (AP r aG b d) fun v aB ⟨e,f⟩=>?_
 subst e;subst f;exact g
theorem A4{aH:S→Nat→Nat→U→Prop}{n:Nat}{O:Int}(a8:O=(n:Int))(r:cL cA Z a c (D.aN L))(b:l=(D.aN L).length)(d:n < 9223372036854775808)
  (g:∀ a c aB,bK Z aB→cX cA Z aB a c (D.aN (L / 2 ^ n))→aH a (D.aN (L / 2 ^ n)).length c aB) :
  a4 lK.id #[.slice a l c,.int .i64 O] Z fun v aB=>aR v fun a l c=>aH a l c aB:=by
 refine cD (CK r b a8 d) fun v aB ⟨R,aG⟩=>?_
 exact aG.elim fun a c r=>g a c aB R r
theorem Ge{aH:S→Nat→Nat→U→Prop}{n:Nat}{O:Int}(a8:O=(n:Int))(r:cL cA Z a c (D.aN L))(b:l=(D.aN L).length)(d:n≤35184372088832)(e:fX L)
  (g:∀ a c aB,bK Z aB→cX cA Z aB a c (D.aN (L*2 ^ n))→aH a (D.aN (L*2 ^ n)).length c aB) :
  a4 lA.id #[.slice a l c,.int .i64 O] Z fun v aB=>aR v fun a l c=>aH a l c aB:=by
 refine cD (AS r b a8 d (Nat.le_trans e.l (by decide))) fun v aB ⟨R,aG⟩=>?_
 exact aG.elim fun a c r=>g a c aB R r
theorem A5{aH:S→Nat→Nat→U→Prop}{n:Nat}{O:Int}(a8:O=(n:Int))(r:cL cA Z a c (D.aN L))(b:l=(D.aN L).length)(d:n < 9223372036854775808)(e:fX L)
  (g:∀ a c aB,bK Z aB→cX cA Z aB a c (D.aN (L % 2 ^ n))→aH a (D.aN (L % 2 ^ n)).length c aB) :
  a4 kG.id #[.slice a l c,.int .i64 O] Z fun v aB=>aR v fun a l c=>aH a l c aB:=by
 refine cD (FC r b a8 d (Nat.le_trans e.l (by decide))) fun v aB ⟨R,aG⟩=>?_
 exact aG.elim fun a c r=>g a c aB R r
theorem A6{aH:S→Nat→Nat→U→Prop}{aE:Nat}{O:Int}(r:cL cA Z a c (D.aN L))(b:l=(D.aN L).length)(a8:O=(aE:Int))(d:aE < 4294967296)(e:fX L)
  (g:∀ a c aB,bK Z aB→cX cA Z aB a c (D.aN (L*aE))→aH a (D.aN (L*aE)).length c aB) :
  a4 k9.id #[.slice a l c,.int .u32 O,.int .u32 0] Z fun v aB=>aR v fun a l c=>aH a l c aB:=by
 refine cD (FG r b a8 (bS:=0) rfl d (by decide) (Nat.le_trans e.l (by decide))) fun v aB ⟨R,aG⟩=>?_
 rw [D.e9,Nat.add_zero] at aG
 exact aG.elim fun a c r=>g a c aB R r
theorem xG{aH:S→Nat→Nat→Int→U→Prop}{aE:Nat}{O:Int}(r:cL cA Z a c (D.aN L))(b:l=(D.aN L).length)(a8:O=(aE:Int))(d:aE < 4294967296)(e:0 < aE)
  (g:∀ a c aB,bK Z aB→cX cA Z aB a c (D.aN (L / aE))→aH a (D.aN (L / aE)).length c ((L % aE:Nat):Int) aB) :
  a4 j9.id #[.slice a l c,.int .u32 O] Z fun v aB=>cW v fun aT=>cV aT fun f eK=>aR f fun a l c=>cV eK fun h i=>a0 .u32 h fun bS=>b9 i (aH a l c bS aB):=by
 refine cD (CH r b a8 d e) fun v aB ⟨R,aM,aK,N,aG⟩=>?_
 rw [D.e9] at N aG
 subst N
 exact gY rfl (cS (bL rfl (cS (b0 rfl (eG (g aM aK aB R aG))))))
theorem vH{aH:S→Nat→Nat→S→Nat→Nat→U→Prop}(r:cL cA Z a c (D.aN L))(b:l=(D.aN L).length)(aG:cL cA Z K aZ (D.aN aT))(d:m=(D.aN aT).length)(e:fX L)(f:aT ≠ 0)
  (g:∀ a c K aZ aB,bK Z aB→cX cA Z aB a c (D.aN (L / aT))→cX cA Z aB K aZ (D.aN (L % aT))→aH a (D.aN (L / aT)).length c K (D.aN (L % aT)).length aZ aB) :
  a4 hY.id #[.slice a l c,.slice K m aZ] Z fun v aB=>cW v fun aT=>cV aT fun h eK=>aR h fun a l c=>cV eK fun i j=>aR i fun K m aZ=>b9 j (aH a l c K m aZ aB):=by
 refine cD (FM r aG b d e.l) fun v aB ⟨R,t⟩=>?_
 have N:oH L aT=(L / aT,L % aT):=if_neg f
 rw [N] at t
 obtain⟨_,_,k,⟨aM,aK,n,o⟩,⟨fD,d1,p,q⟩⟩:=t
 subst k;subst n;subst p
 exact gY rfl (cS (bL rfl (cS (bL rfl (eG (g aM aK fD d1 aB R o q))))))
theorem Gf{aH:Int→U→Prop}(r:cL cA Z a c (D.aN L))(b:l=(D.aN L).length)(g:aH ((eJ L:Nat):Int) Z):
  a4 k8.id #[.slice a l c] Z fun v aB=>a0 .i64 v fun L=>aH L aB:=by
 refine cD (J0 r b) fun v aB ⟨d,e⟩=>?_
 subst d;subst e;exact b0 rfl g
end
theorem Gg(aC:List Nat):aC.take (eA aC).length=eA aC:=by
 induction aC with
 | nil=>rfl
 | cons L aC bZ=>
  simp only [eA]
  split
  ·rfl
  ·simp [bZ]
theorem K2{Y:aF}{a:S}{c l:Nat}{aC:List Nat}{Z:U}(r:cJ Z a c aC)(e:l=aC.length)(g:Y (.slice a (eA aC).length (eA aC).length) Z):
  ∀ n:Nat,n≤aC.length→eA (aC.take n)=eA aC→m1.cP.t Y (n+1) a l c (n:Int) Z:=by
 have a1:=r.len
 intro n
 have fin:∀ n:Nat,n≤aC.length→eA aC=aC.take n→m1.a5.t Y a l c (n:Int) Z:=by
  intro n b N
  refine Cl rfl rfl (Nat.le_trans b r.cap) ?_
  have f:(eA aC).length=n:=by rw [N,List.length_take];omega
  rw [← f];exact g
 induction n with
 | zero=>
  intro b d
  unfold m1.cP.t m1.cF.t
  refine cE (fun Z=>absurd Z (by omega)) fun _=>fin 0 b ?_
  rw [← d];rfl
 | succ n bZ=>
  intro b d
  refine cE (fun _=>?_) fun Z=>absurd (by omega) Z
  refine cT (n:Int) (by omega) (by omega) (by omega) ?_
  refine gJ r (aD:=n) rfl e (by omega) ?_
  have es:=mV (aC:=aC) (n:=n) (by omega)
  refine gL (fun h=>?_) fun h=>?_
  ·refine cT (n:Int) (by omega) (by omega) (by omega) ?_
   refine bZ (by omega) ?_
   rw [← d,es,show aC.getD n 0=0 by omega,w5]
  ·refine fin (n+1) b ?_
   rw [← d,es,yU _ (by omega)]
theorem A7{Z:U}{a:S}{c:Nat}{aC:List Nat}(r:cJ Z a c aC):cJ Z a (eA aC).length (eA aC):=by
 have:=r.take (eA aC).length
 rw [Gg] at this;exact this.s7 (Nat.le_refl _)
theorem y3{a:S}{c l:Nat}{aC:List Nat}{Z:U}(r:cJ Z a c aC)(b:l=aC.length):
  a4 m1.id #[.slice a l c] Z fun v aB=>aB=Z∧v=.slice a (eA aC).length (eA aC).length:=by
 refine m1.ok ?_
 refine⟨aC.length+1,?_⟩
 subst b
 exact K2 r rfl ⟨rfl,rfl⟩ aC.length (Nat.le_refl _) (by rw [List.take_length])
theorem K3{Y:aF}{c n T aI:Nat}{a2:U}(e:T < 2 ^ (64*n))(g:∀ aB a9,cG aI a2 aB→fN aB aI a9→a9.length=n→val a9=T→Y (.tuple #[]) aB)(i:n≤35184372088828):
  ∀ (R O a:Nat) (a9:List Nat) (Z:U),O+R=n→a≤1→a9.length=n→fN Z aI a9→cG aI a2 Z→val a9+a*2 ^ (64*O)=T→
   kA.cP.t Y (R+1) (some ⟨aI,0,none⟩) n c (a:Int) (O:Int) Z:=by
 intro R
 induction R with
 | zero=>
  intro O a a9 Z a8 d b aQ cO N
  unfold kA.cP.t kA.cF.t
  refine cE (fun a3=>?_) fun a3=>?_
  ·have:a=1:=by omega
   subst this
   have:=Cm (a9:=a9) (T:=T) (O:=O) rfl (by omega) (by rw [b];exact e)
   omega
  ·have:a=0:=by omega
   subst this
   exact g _ _ cO aQ b (by omega)
 | succ R bZ=>
  intro O a a9 Z a8 d b aQ cO N
  unfold kA.cP.t kA.cF.t
  refine cE (fun a3=>?_) fun a3=>?_
  ·have j:=aQ.word O
   refine gJ (aQ.rd (c:=n) (by omega)) (aD:=O) rfl (by omega) (by omega) ?_
   refine qU (K:=0) rfl rfl rfl d ?_
   refine wZ aQ (aD:=O) rfl b.symm (by omega) rfl (by omega) fun f h=>?_
   refine cT ((O+1:Nat):Int) (by omega) (by omega) (by omega) ?_
   refine bZ (O+1) _ _ _ (by omega) (by omega) (by simp [b]) f (cO.trans h) ?_
   have bH:=mT (a9:=a9) (aD:=O) (v:=(a9.getD O 0+0+a) % 18446744073709551616) (by omega)
   have:=Az (bA:=18446744073709551616) (p:=0) (c:=a) (r:=0) (kE:=(a9.getD O 0+0+a) % 18446744073709551616) (dI:=(a9.getD O 0+0+a) / 18446744073709551616) (by omega) bH
   rw [kR]
   simp only [Nat.zero_add,Nat.mul_zero] at this ⊢
   omega
  ·have:a=0:=by omega
   subst this
   exact g _ _ cO aQ b (by omega)
theorem K4{Y:aF}{a:S}{c aK l n at_ T aI:Nat}{b:List Nat}{a2:U}(r:cJ a2 a aK b)(i:l=b.length)(j:b=[]∨gA aI a)(k:T < 2 ^ (64*n))(w:at_+b.length≤n)(m:n≤35184372088828)
  (g:∀ aB a9,cG aI a2 aB→fN aB aI a9→a9.length=n→val a9=T→Y (.tuple #[]) aB) :
  ∀ (R O d:Nat) (a9:List Nat) (Z:U),O+R=b.length→d≤1→a9.length=n→fN Z aI a9→cG aI a2 Z→val a9+(val (b.drop O)+d)*2 ^ (64*(at_+O))=T→
   kA.gF.t Y (R+1) (some ⟨aI,0,none⟩) n c a l aK (at_:Int) (d:Int) (l:Int) (O:Int) Z:=by
 subst i
 intro R
 induction R with
 | zero=>
  intro O d a9 Z a8 f e aQ cO N
  unfold kA.gF.t kA.eZ.t
  refine cE (fun a3=>absurd a3 (by omega)) fun a3=>?_
  unfold kA.a5.t
  have o:O=b.length:=by omega
  subst o
  refine cT ((at_+b.length:Nat):Int) (by omega) (by omega) (by omega) ?_
  refine⟨n - (at_+b.length)+1,?_⟩
  refine K3 k g m _ _ _ a9 Z (by omega) f e aQ cO ?_
  rw [List.drop_length] at N
  simpa [val] using N
 | succ R bZ=>
  intro O d a9 Z a8 f e aQ cO N
  have x:=aQ.word (at_+O)
  have y:=r.word O
  have q:gA aI a:=by
   rcases j with h | h
   ·subst h;simp at a8
   ·exact h
  unfold kA.gF.t kA.eZ.t
  refine cE (fun a3=>?_) fun a3=>absurd (by omega) a3
  refine cT ((at_+O:Nat):Int) (by omega) (by omega) (by omega) ?_
  refine cT ((at_+O:Nat):Int) (by omega) (by omega) (by omega) ?_
  refine gJ (aQ.rd (c:=n) (by omega)) (aD:=at_+O) rfl (by omega) (by omega) ?_
  refine gJ (r.cR q cO) (aD:=O) rfl rfl (by omega) ?_
  refine qU rfl rfl rfl f ?_
  refine wZ aQ (aD:=at_+O) rfl e.symm (by omega) rfl (by omega) fun s u=>?_
  refine cT ((O+1:Nat):Int) (by omega) (by omega) (by omega) ?_
  refine bZ (O+1) _ _ _ (by omega) (by omega) (by simp [e]) s (cO.trans u) ?_
  have bH:=mT (a9:=a9) (aD:=at_+O) (v:=(a9.getD (at_+O) 0+b.getD O 0+d) % 18446744073709551616) (by omega)
  have:=Az (bA:=18446744073709551616) (p:=b.getD O 0) (c:=d) (r:=val (b.drop (O+1))) (kE:=(a9.getD (at_+O) 0+b.getD O 0+d) % 18446744073709551616) (dI:=(a9.getD (at_+O) 0+b.getD O 0+d) / 18446744073709551616) (by omega) bH
  rw [← Nat.add_assoc,kR,this,← mD];exact N
theorem A8{a:S}{c aK l n m at_ aI:Nat}{a9 b:List Nat}{Z:U}(aQ:fN Z aI a9)(r:cJ Z a aK b)(e:l=b.length)(f:n=a9.length)(g:b=[]∨gA aI a)(h:val a9+val b*2 ^ (64*at_) < 2 ^ (64*a9.length))(i:at_+b.length≤a9.length){L:Int}(j:L=(at_:Int))(k:m=n):
  a4 kA.id #[.slice (some ⟨aI,0,none⟩) m c,.slice a l aK,.int .i64 L] Z fun v aB=>v=.tuple #[]∧cG aI Z aB∧∃ d,fN aB aI d∧d.length=a9.length∧val d=val a9+val b*2 ^ (64*at_):=by
 subst j;subst f;subst k
 refine kA.ok ?_
 unfold kA.t kA.aP.t kA.dD.t
 have o:=aQ.len
 refine⟨b.length+1,?_⟩
 refine K4 r e g h i o (fun aB d R fO p N=>⟨rfl,R,d,fO,p,N⟩) b.length 0 0 a9 Z (by omega) (by omega) rfl aQ (cG.refl _ _) ?_
 simp
theorem K5{Y:aF}{c n T aI:Nat}{a2:U}(g:∀ aB a9,cG aI a2 aB→fN aB aI a9→a9.length=n→val a9=T→Y (.tuple #[]) aB)(h:n≤35184372088828):
  ∀ (R O a:Nat) (a9:List Nat) (Z:U),O+R=n→a≤1→a9.length=n→fN Z aI a9→cG aI a2 Z→val a9=T+a*2 ^ (64*O)→
   kX.cP.t Y (R+1) (some ⟨aI,0,none⟩) n c (a:Int) (O:Int) Z:=by
 intro R
 induction R with
 | zero=>
  intro O a a9 Z a8 d b aQ cO N
  unfold kX.cP.t kX.cF.t
  refine cE (fun a3=>?_) fun a3=>?_
  ·have:a=1:=by omega
   subst this
   have:=Cm (a9:=a9) (T:=val a9) (O:=O) rfl (by omega) (iK aQ.words)
   omega
  ·have:a=0:=by omega
   subst this
   exact g _ _ cO aQ b (by omega)
 | succ R bZ=>
  intro O a a9 Z a8 d b aQ cO N
  unfold kX.cP.t kX.cF.t
  refine cE (fun a3=>?_) fun a3=>?_
  ·have i:=aQ.word O
   refine gJ (aQ.rd (c:=n) (by omega)) (aD:=O) rfl (by omega) (by omega) ?_
   refine w9 (K:=0) rfl rfl rfl d (by omega) ?_
   refine wZ aQ (aD:=O) rfl b.symm (by omega) rfl (by omega) fun e f=>?_
   refine cT ((O+1:Nat):Int) (by omega) (by omega) (by omega) ?_
   refine bZ (O+1) _ _ _ (by omega) (by split <;> omega) (by simp [b]) e (cO.trans f) ?_
   have bH:=mT (a9:=a9) (aD:=O) (v:=(a9.getD O 0+18446744073709551616 - 0 - a) % 18446744073709551616) (by omega)
   have:=E6 (bA:=18446744073709551616) (cY:=0) (aQ:=a) (r:=0) (T:=T) (kE:=(a9.getD O 0+18446744073709551616 - 0 - a) % 18446744073709551616) (fO:=if a9.getD O 0 < 0+a then 1 else 0) (by split <;> omega) bH (by simpa using N)
   rw [kR]
   simpa using this
  ·have:a=0:=by omega
   subst this
   exact g _ _ cO aQ b (by omega)
theorem K6{Y:aF}{a:S}{c aK l n T aI:Nat}{b:List Nat}{a2:U}(r:cJ a2 a aK b)(i:l=b.length)(j:b=[]∨gA aI a)(u:b.length≤n)(k:n≤35184372088828)
  (g:∀ aB a9,cG aI a2 aB→fN aB aI a9→a9.length=n→val a9=T→Y (.tuple #[]) aB) :
  ∀ (R O d:Nat) (a9:List Nat) (Z:U),O+R=b.length→d≤1→a9.length=n→fN Z aI a9→cG aI a2 Z→val a9=T+(val (b.drop O)+d)*2 ^ (64*O)→
   kX.gF.t Y (R+1) (some ⟨aI,0,none⟩) n c a l aK (d:Int) (l:Int) (O:Int) Z:=by
 subst i
 intro R
 induction R with
 | zero=>
  intro O d a9 Z a8 f e aQ cO N
  unfold kX.gF.t kX.eZ.t
  refine cE (fun a3=>absurd a3 (by omega)) fun a3=>?_
  unfold kX.a5.t
  have m:O=b.length:=by omega
  subst m
  refine⟨n - b.length+1,?_⟩
  refine K5 g k _ _ _ a9 Z (by omega) f e aQ cO ?_
  rw [List.drop_length] at N
  simpa [val] using N
 | succ R bZ=>
  intro O d a9 Z a8 f e aQ cO N
  have w:=aQ.word O
  have o:=r.word O
  have p:gA aI a:=by
   rcases j with h | h
   ·subst h;simp at a8
   ·exact h
  unfold kX.gF.t kX.eZ.t
  refine cE (fun a3=>?_) fun a3=>absurd (by omega) a3
  refine gJ (aQ.rd (c:=n) (by omega)) (aD:=O) rfl (by omega) (by omega) ?_
  refine gJ (r.cR p cO) (aD:=O) rfl rfl (by omega) ?_
  refine w9 rfl rfl rfl f o ?_
  refine wZ aQ (aD:=O) rfl e.symm (by omega) rfl (by omega) fun q s=>?_
  refine cT ((O+1:Nat):Int) (by omega) (by omega) (by omega) ?_
  refine bZ (O+1) _ _ _ (by omega) (by split <;> omega) (by simp [e]) q (cO.trans s) ?_
  have bH:=mT (a9:=a9) (aD:=O) (v:=(a9.getD O 0+18446744073709551616 - b.getD O 0 - d) % 18446744073709551616) (by omega)
  rw [mD] at N
  have:=E6 (bA:=18446744073709551616) (cY:=b.getD O 0) (aQ:=d) (r:=val (b.drop (O+1))) (T:=T) (kE:=(a9.getD O 0+18446744073709551616 - b.getD O 0 - d) % 18446744073709551616) (fO:=if a9.getD O 0 < b.getD O 0+d then 1 else 0) (by split <;> omega) bH N
  rw [kR];exact this
theorem Gh{a:S}{c aK l n aI:Nat}{a9 b:List Nat}{Z:U}(aQ:fN Z aI a9)(r:cJ Z a aK b)(e:l=b.length)(f:n=a9.length)(g:b=[]∨gA aI a)(k:val b≤val a9)(h:b.length≤a9.length):
  a4 kX.id #[.slice (some ⟨aI,0,none⟩) n c,.slice a l aK] Z fun v aB=>v=.tuple #[]∧cG aI Z aB∧∃ d,fN aB aI d∧d.length=a9.length∧val d=val a9 - val b:=by
 subst f
 refine kX.ok ?_
 unfold kX.t kX.aP.t kX.dD.t
 have i:=aQ.len
 refine⟨b.length+1,?_⟩
 refine K6 (T:=val a9 - val b) r e g h i (fun aB d R fO j N=>⟨rfl,R,d,fO,j,N⟩) b.length 0 0 a9 Z (by omega) (by omega) rfl aQ (cG.refl _ _) ?_
 simp;omega
theorem getD_set_ne{a9:List Nat}{O t v:Nat}(Z:O ≠ t):(a9.set O v).getD t 0=a9.getD t 0:=by
 simp [List.getD,Z]
theorem K7{Y:aF}{b1:S→Nat→Nat→S→Nat→Nat→S→Nat→Nat→Int→Int→U→Prop}{a K:S}{c aK bN e h n aD aI T:Nat}{aC aX:List Nat}{a2:U}{a7:Int}
  (r:cJ a2 a aK aC) (aG:cJ a2 K bN aX) (o:e=aC.length) (q:h=aX.length) (s:aC=[]∨gA aI a) (u:gA aI K) (F:aD < aX.length) (G:n=aC.length+aX.length)
  (g:∀ aB a9,cG aI a2 aB→fN aB aI a9→a9.length=n→(∀ t,aD+1+aC.length≤t→a9.getD t 0=0)→val a9+val (aX.drop (aD+1))*val aC*2 ^ (64*(aD+1))=T→b1 (some ⟨aI,0,none⟩) n c a e aK K h bN a7 ((aD+1:Nat):Int) aB) :
  ∀ (R O b:Nat) (a9:List Nat) (Z:U),O+R=aC.length→b < 18446744073709551616→a9.length=n→fN Z aI a9→cG aI a2 Z→(∀ t,aD+aC.length≤t→a9.getD t 0=0)→
   val a9+(val (aC.drop O)*aX.getD aD 0+b)*2 ^ (64*(O+aD))+val (aX.drop (aD+1))*val aC*2 ^ (64*(aD+1))=T→
   kL.hT.t Y b1 (R+1) (some ⟨aI,0,none⟩) n c a e aK K h bN (aD:Int) (b:Int) a7 (aD:Int) (e:Int) (O:Int) Z:=by
 subst o;subst q
 intro R
 induction R with
 | zero=>
  intro O b a9 Z a8 l d aQ cO f N
  have w:=aQ.len
  unfold kL.hT.t kL.gS.t
  refine cE (fun a3=>absurd a3 (by omega)) fun a3=>?_
  have x:O=aC.length:=by omega
  subst x
  unfold kL.dD.t
  refine cT ((aD+aC.length:Nat):Int) (by omega) (by omega) (by omega) ?_
  refine wZ aQ (aD:=aD+aC.length) rfl d.symm (by omega) rfl l fun i j=>?_
  unfold kL.cF.t
  refine cT ((aD+1:Nat):Int) (by omega) (by omega) (by omega) ?_
  refine g _ _ (cO.trans j) i (by simp [d]) (fun t m=>?_) ?_
  ·rw [getD_set_ne (by omega)];exact f t (by omega)
  ·have bH:=mT (a9:=a9) (aD:=aD+aC.length) (v:=b) (by omega)
   rw [f _ (Nat.le_refl _)] at bH
   rw [List.drop_length,Nat.add_comm aC.length aD] at N
   simp only [val,Nat.zero_mul,Nat.zero_add,Nat.add_zero] at bH N
   omega
 | succ R bZ=>
  intro O b a9 Z a8 l d aQ cO f N
  have w:=aQ.len
  have y:=r.word O
  have z:=aG.word aD
  have H:=aQ.word (O+aD)
  have A:gA aI a:=by
   rcases s with k | k
   ·subst k;simp at a8
   ·exact k
  have I:aC.getD O 0*aX.getD aD 0≤340282366920938463426481119284349108225:=Nat.mul_le_mul (show aC.getD O 0≤18446744073709551615 by omega) (show aX.getD aD 0≤18446744073709551615 by omega)
  unfold kL.hT.t kL.gS.t
  refine cE (fun a3=>?_) fun a3=>absurd (by omega) a3
  refine gJ (r.cR A cO) (aD:=O) rfl rfl (by omega) ?_
  refine gJ (aG.cR u cO) (aD:=aD) rfl rfl (by omega) ?_
  refine cD (CP y z _) fun v aB ⟨B,C⟩=>?_
  subst B
  refine C.elim ?_
  have c3:val (aC.drop O)*aX.getD aD 0=aC.getD O 0*aX.getD aD 0+18446744073709551616*(val (aC.drop (O+1))*aX.getD aD 0):=by
   rw [mD,Nat.add_mul,Nat.mul_assoc]
  rw [c3] at N
  generalize aC.getD O 0*aX.getD aD 0=p at *
  refine qU (c:=0) rfl rfl rfl (by omega) ?_
  refine dM ((p+b) / 18446744073709551616) (by omega) (by omega) ?_
  refine cT ((O+aD:Nat):Int) (by omega) (by omega) (by omega) ?_
  refine cT ((O+aD:Nat):Int) (by omega) (by omega) (by omega) ?_
  refine gJ (aQ.rd (c:=n) (by omega)) (aD:=O+aD) rfl (by omega) (by omega) ?_
  refine qU (c:=0) rfl rfl rfl (by omega) ?_
  have D:(a9.getD (O+aD) 0+(p % 18446744073709551616+b+0) % 18446744073709551616+0) % 18446744073709551616=(p+b+a9.getD (O+aD) 0) % 18446744073709551616:=by omega
  have E:(p+b) / 18446744073709551616+(a9.getD (O+aD) 0+(p % 18446744073709551616+b+0) % 18446744073709551616+0) / 18446744073709551616=(p+b+a9.getD (O+aD) 0) / 18446744073709551616:=by omega
  rw [D]
  refine wZ aQ (aD:=O+aD) rfl d.symm (by omega) rfl (by omega) fun i j=>?_
  refine dM ((p+b+a9.getD (O+aD) 0) / 18446744073709551616) (by rw [← Int.natCast_add,E]) (by omega) ?_
  refine cT ((O+1:Nat):Int) (by omega) (by omega) (by omega) ?_
  refine bZ (O+1) _ _ _ (by omega) (by omega) (by simp [d]) i (cO.trans j) (fun t m=>?_) ?_
  ·rw [getD_set_ne (by omega)];exact f t m
  ·have bH:=mT (a9:=a9) (aD:=O+aD) (v:=(p+b+a9.getD (O+aD) 0) % 18446744073709551616) (by omega)
   have:=Az (bA:=18446744073709551616) (p:=p) (c:=b) (r:=val (aC.drop (O+1))*aX.getD aD 0) (kE:=(p+b+a9.getD (O+aD) 0) % 18446744073709551616) (dI:=(p+b+a9.getD (O+aD) 0) / 18446744073709551616) (by omega) bH
   rw [show O+1+aD=O+aD+1 by omega,kR (O+aD),this];exact N
theorem K8{Y:aF}{a K:S}{c aK bN f b n aI T:Nat}{aC aX:List Nat}{a2:U}
  (r:cJ a2 a aK aC) (aG:cJ a2 K bN aX) (j:f=aC.length) (k:b=aX.length) (l:aC=[]∨gA aI a) (m:aX=[]∨gA aI K) (o:n=aC.length+aX.length)
  (g:∀ aB a9,cG aI a2 aB→fN aB aI a9→a9.length=n→val a9=T→Y (.tuple #[]) aB) :
  ∀ (R aD:Nat) (a9:List Nat) (Z:U),aD+R=aX.length→a9.length=n→fN Z aI a9→cG aI a2 Z→(∀ t,aD+aC.length≤t→a9.getD t 0=0)→val a9+val (aX.drop aD)*val aC*2 ^ (64*aD)=T→
   kL.dG.t Y (R+1) (some ⟨aI,0,none⟩) n c a f aK K b bN (b:Int) (aD:Int) Z:=by
 subst j;subst k
 intro R
 induction R with
 | zero=>
  intro aD a9 Z h d aQ cO i N
  unfold kL.dG.t kL.bM.t
  refine cE (fun a3=>absurd a3 (by omega)) fun a3=>?_
  refine g _ _ cO aQ d ?_
  rw [List.drop_of_length_le (by omega)] at N
  simpa [val] using N
 | succ R bZ=>
  intro aD a9 Z h d aQ cO i N
  have p:gA aI K:=by
   rcases m with e | e
   ·subst e;simp at h
   ·exact e
  unfold kL.dG.t kL.bM.t
  refine cE (fun a3=>?_) fun a3=>absurd (by omega) a3
  unfold kL.cH.t kL.eX.t
  refine⟨aC.length+1,?_⟩
  refine K7 (T:=T) r aG rfl rfl l p (by omega) o (fun aB q c1 fO s u v=>?_) aC.length 0 0 a9 Z (by omega) (by omega) d aQ cO i ?_
  ·exact bZ (aD+1) q aB (by omega) s fO c1 u v
  ·rw [mD] at N
   rw [← N,kR,Nat.zero_add,List.drop_zero,Nat.add_zero,Nat.add_mul,Nat.add_mul,Nat.mul_comm (val aC)]
   have w:val (aX.drop (aD+1))*val aC*(18446744073709551616*2 ^ (64*aD))=18446744073709551616*val (aX.drop (aD+1))*val aC*2 ^ (64*aD):=by
    rw [Nat.mul_left_comm,Nat.mul_assoc 18446744073709551616,Nat.mul_assoc 18446744073709551616]
   rw [w];omega
theorem K9{a K:S}{c aK bN b d n aI:Nat}{aC aX:List Nat}{Z:U}(aQ:fN Z aI (List.replicate n 0))(r:cJ Z a aK aC)(aG:cJ Z K bN aX)(e:b=aC.length)(f:d=aX.length)(g:aC=[]∨gA aI a)(h:aX=[]∨gA aI K)(i:n=aC.length+aX.length):
  a4 kL.id #[.slice (some ⟨aI,0,none⟩) n c,.slice a b aK,.slice K d bN] Z fun v aB=>v=.tuple #[]∧cG aI Z aB∧∃ a9,fN aB aI a9∧a9.length=n∧val a9=val aC*val aX:=by
 refine kL.ok ?_
 unfold kL.t kL.aP.t
 refine⟨aX.length+1,?_⟩
 refine K8 r aG e f g h i (fun aB j R fO k N=>⟨rfl,R,j,fO,k,N⟩) aX.length 0 _ Z (by omega) (by simp) aQ (cG.refl _ _) (fun t _=>?_) ?_
 ·simp only [List.getD,List.getElem?_replicate];split <;> rfl
 ·rw [uY,List.drop_zero];simp [Nat.mul_comm]
def vI(Z aB:U)(v:Value)(aC:List Nat):Prop:=∃ aI,Z.size≤aI∧v=.slice (some ⟨aI,0,none⟩) aC.length aC.length∧fN aB aI aC
theorem vI.elim{Z aB:U}{v:Value}{aC:List Nat}{aH:S→Nat→Nat→Prop}(f:vI Z aB v aC)(g:∀ aI,Z.size≤aI→fN aB aI aC→aH (some ⟨aI,0,none⟩) aC.length aC.length):aR v aH:=by
 obtain⟨aI,a,N,aQ⟩:=f
 subst N;exact g aI a aQ
theorem y4{K aI:Nat}(Z:K ≠ aI):gA aI (some ⟨K,0,none⟩):=fun p N=>by cases N;exact Z
theorem Gi{a2 Z:U}{aI n c:Nat}{a9:List Nat}{aH:Value→U→Prop}(a:a2.size≤aI)(aQ:fN Z aI a9)(b:n=a9.length)(f:n≤c)(g:∀ v,vI a2 Z v (aN (val a9))→aH v Z):
  a4 m1.id #[.slice (some ⟨aI,0,none⟩) n c] Z aH:=by
 refine cD (y3 (aQ.rd (c:=c) (by omega)) b) fun v aB ⟨d,e⟩=>?_
 subst d;subst e
 refine g _ ?_
 rw [mU aQ.words]
 exact⟨aI,a,rfl,by have:=aQ.take (eA a9).length;rw [Gg] at this;exact this⟩
theorem Gj{a:S}{c l R:Nat}{aC:List Nat}{Z:U}{L:Int}(r:cJ Z a c aC)(g:l=aC.length)(h:L=(R:Int)):
  a4 s8.id #[.slice a l c,.int .i64 L] Z fun v aB=>aB=Z∧∃ bO,v=.tuple #[.slice a (eA (aC.take R)).length (eA (aC.take R)).length,.slice bO (aC.drop R).length (aC.drop R).length]∧
   cJ Z a (eA (aC.take R)).length (eA (aC.take R))∧cJ Z bO (aC.drop R).length (aC.drop R)∧∀ aI,gA aI a→gA aI bO:=by
 subst g;subst h
 have e:=r.cap
 refine s8.ok ?_
 unfold s8.t s8.aP.t
 refine cE (fun a3=>?_) fun a3=>?_
 ·refine Cl rfl rfl e ?_
  refine cD (y3 (r.s7 (Nat.le_refl _)) rfl) fun v aB ⟨b,d⟩=>?_
  subst b;subst d
  refine bL rfl ?_
  rw [List.take_of_length_le (by omega),List.drop_of_length_le (by omega)]
  exact⟨rfl,none,rfl,A7 r,cJ.nil _ _ _,fun aI _=>gA.none aI⟩
 ·refine Cl rfl rfl (by omega) ?_
  have f:(aC.take R).length=R:=by rw [List.length_take];omega
  have rt:=(r.take R).s7 (Nat.le_refl _)
  rw [f] at rt
  refine cD (y3 rt f.symm) fun v aB ⟨b,d⟩=>?_
  subst b;subst d
  refine bL rfl ?_
  refine E5 rfl rfl rfl (by omega) e ?_
  refine⟨rfl,jT a aC.length R 1,?_,A7 rt,?_,fun aI i=>i.sub _ _ _⟩
  ·rw [List.length_drop]
  ·have rd:=(r.s7 (Nat.le_refl _)).drop R (by omega)
   exact rd.s7 (Nat.le_refl _)
theorem Gk(aC:List Nat)(R:Nat):val aC=val (eA (aC.take R))+2 ^ (64*R)*val (aC.drop R):=by
 rw [sN]
 by_cases Z:R≤aC.length
 ·conv=>lhs;rw [← List.take_append_drop R aC]
  rw [h5,List.length_take,Nat.min_eq_left Z]
 ·rw [List.take_of_length_le (by omega),List.drop_of_length_le (by omega)];simp [val]
theorem CW{cI n R:Nat}(a:R≤n)(Z:cI*2 ^ (64*R) < 2 ^ (64*n)):R+(aN cI).length≤n:=by
 have:(aN cI).length≤n - R:=by
  rw [gZ]
  have N:2 ^ (64*n)=2 ^ (64*(n - R))*2 ^ (64*R):=by rw [← Nat.pow_add,show 64*(n - R)+64*R=64*n by omega]
  rw [N] at Z
  exact Nat.lt_of_mul_lt_mul_right Z
 omega
theorem Gl{Y:aF}{a K:S}{c aZ l m:Nat}{aC aX:List Nat}{Z:U}(r:cJ Z a c aC)(aG:cJ Z K aZ aX)(e:l=aC.length)(h:m=aX.length)(u:aX.length≤aC.length)(w:aC.length < 35184372088828)
  (g:∀ v aB,bK Z aB→vI Z aB v (aN (val aC+val aX))→Y v aB):qW.a5.t Y a l c K m aZ Z:=by
 subst e;subst h
 unfold qW.a5.t
 refine cT ((aC.length+1:Nat):Int) (by omega) (by omega) (by omega) ?_
 refine oD (aC.length+1) rfl rfl rfl rfl (by omega) fun a1 aQ R=>?_
 refine AL aQ (r.aU R) (by simp) rfl (Nat.le_refl _) R fun x b d=>?_
 have N:List.take (List.replicate (aC.length+1) 0).length aC ++ List.drop aC.length (List.replicate (aC.length+1) 0)=aC ++ [0]:=by
  rw [List.take_of_length_le (by simp)];simp
 rw [N] at b
 have c3:val (aC ++ [0])=val aC:=by rw [← sN,w5,sN]
 have y:=iK r.words
 have z:=iK aG.words
 have A:2 ^ (64*aX.length)≤2 ^ (64*aC.length):=Nat.pow_le_pow_right (by decide) (by omega)
 refine cD (A8 (at_:=0) b.E4 (aG.aU d) rfl (by simp) (aG.off (Nat.le_refl _)) ?_ (by simp;omega) rfl rfl) fun v B ⟨i,j,a9,k,n,o⟩=>?_
 ·rw [c3,List.length_append,List.length_singleton,kR,Nat.mul_zero,Nat.pow_zero,Nat.mul_one]
  generalize 2 ^ (64*aC.length)=P at *;omega
 subst i
 refine gY rfl (eG ?_)
 refine Gi (Nat.le_refl Z.size) k (by rw [n];simp) (by omega) fun v f=>?_
 rw [o,c3,Nat.mul_zero,Nat.pow_zero,Nat.mul_one] at f
 obtain⟨aI,p,q,s⟩:=f
 subst q
 exact g _ _ (j.aU d (Nat.le_refl _)) ⟨aI,p,rfl,s⟩
theorem Gm{a K:S}{c aZ l m:Nat}{aC aX:List Nat}{Z:U}(r:cJ Z a c aC)(aG:cJ Z K aZ aX)(b:l=aC.length)(d:m=aX.length)(e:aC.length < 35184372088828)(g:aX.length < 35184372088828):
  a4 qW.id #[.slice a l c,.slice K m aZ] Z fun v aB=>bK Z aB∧vI Z aB v (aN (val aC+val aX)):=by
 refine qW.ok ?_
 unfold qW.t qW.aP.t
 refine cE (fun a3=>?_) fun a3=>?_
 ·refine Gl aG r d b (by omega) g fun v aB R f=>⟨R,?_⟩
  rw [Nat.add_comm];exact f
 ·exact Gl r aG b d (by omega) e fun v aB R f=>⟨R,f⟩
theorem Gn{aI:Nat}:∀ {b8:List Value} {Z:U} {O:Nat},cG aI Z (jB Z ⟨aI,0,none⟩ O b8)
 | [],Z,_=>cG.refl _ _
 | v :: b8,Z,O=>by
  have N:jB Z ⟨aI,0,none⟩ O (v :: b8)=jB (gO Z ⟨aI,O,none⟩ v) ⟨aI,0,none⟩ (O+1) b8:=by
   show jB (gO Z ((⟨aI,0,none⟩:Addr).add O) v) _ _ _=_
   rw [cB]
  rw [N];exact(cG.set aI Z O v).trans Gn
theorem La{Z:U}{K l b3 bN:Nat}{aC aX:List Nat}{a:S}(aQ:fN Z K aC)(r:cJ Z a bN aX)(e:l=aC.length)(f:b3=aX.length)(c:aX.length≤aC.length){aH:Int→U→Prop}
  (g:∀ aB,fN aB K (aX ++ aC.drop aX.length)→cG K Z aB→aH (aX.length:Int) aB):n5 Z 1 (some ⟨K,0,none⟩) l (.slice a b3 bN) aH:=by
 subst e;subst f
 obtain⟨rest,aQ⟩:=aQ
 have d:Nat.min aX.length aC.length=aX.length:=Nat.min_eq_left c
 refine⟨aX.length,aX.map hR,rfl,⟨by rw [List.length_map,d];omega,?_,?_⟩,?_,?_⟩
 ·intro v b5
  obtain⟨L,_,N⟩:=List.mem_map.mp b5
  subst N;rfl
 ·cases a with
  | none=>
   show aX.map hR=[]
   cases aX with
   | nil=>simp
   | cons aT aX=>obtain⟨p,N,_⟩:=r.at_ 0 (by simp);cases N
  | some p=>
   refine CX fun aD b=>?_
   obtain⟨i,N,h⟩:=r.at_ aD b
   cases N
   rw [Nat.zero_add];exact h
 ·refine CY fun aD b=>?_
  rw [Nat.zero_add,cB]
  rw [List.length_map] at b
  exact⟨⟨_,aQ.cell (by rw [List.length_append];omega)⟩,aQ.frozen aD⟩
 ·have:=CZ (a2:=#[]) (b8:=aX) (O:=0) aQ r.words (by rw [List.length_append];omega) (by simp) ⟨by simp,fun K a3=>absurd a3 (by simp)⟩
  rw [d]
  refine g _ ⟨rest,?_⟩ Gn
  have N:List.take 0 (aC ++ rest) ++ (aX ++ List.drop (0+aX.length) (aC ++ rest))=aX ++ aC.drop aX.length ++ rest:=by
   rw [List.take_zero,List.nil_append,Nat.zero_add,List.drop_append_of_le_length c,List.append_assoc]
  rw [← N];exact this.1
def A9(bP:Nat):Prop:=∀ {a K:S} {c aK bN b d n aI:Nat} {aC aX:List Nat} {Z:U},aC.length+aX.length≤bP→fN Z aI (List.replicate n 0)→cJ Z a aK aC→cJ Z K bN aX→b=aC.length→d=aX.length→(aC=[]∨gA aI a)→(aX=[]∨gA aI K)→n=aC.length+aX.length→
 a4 rQ.id #[.slice (some ⟨aI,0,none⟩) n c,.slice a b aK,.slice K d bN] Z fun v aB=>v=.tuple #[]∧cG aI Z aB∧∃ a9,fN aB aI a9∧a9.length=n∧val a9=val aC*val aX
theorem y5{bP:Nat}(ok:A9 bP){a K:S}{c aZ l m:Nat}{aC aX:List Nat}{Z:U}(b:aC.length+aX.length≤bP)(r:cJ Z a c aC)(aG:cJ Z K aZ aX)(d:l=aC.length)(e:m=aX.length)(a3:aC.length+aX.length≤35184372088828):
  a4 o8.id #[.slice a l c,.slice K m aZ] Z fun v aB=>bK Z aB∧vI Z aB v (aN (val aC*val aX)):=by
 subst d;subst e
 refine o8.ok ?_
 unfold o8.t o8.aP.t
 refine cT ((aC.length+aX.length:Nat):Int) (by omega) (by omega) (by omega) ?_
 refine oD (aC.length+aX.length) rfl rfl rfl rfl a3 fun a1 aQ R=>?_
 refine cD (ok b aQ.E4 (r.aU R) (aG.aU R) rfl rfl (r.off (Nat.le_refl _)) (aG.off (Nat.le_refl _)) rfl) fun v p ⟨g,h,a9,i,j,c3⟩=>?_
 subst g
 refine gY rfl (eG ?_)
 refine Gi (Nat.le_refl Z.size) i j.symm (Nat.le_refl _) fun v f=>?_
 rw [c3] at f
 obtain⟨aI,k,n,o⟩:=f
 subst n
 exact⟨h.aU R (Nat.le_refl _),aI,k,rfl,o⟩
theorem Gp{aC aX:List Nat}(a:Words aC)(b:Words aX):val aC*val aX < 2 ^ (64*(aC.length+aX.length)):=by
 rw [Nat.mul_add,Nat.pow_add]
 exact Nat.mul_lt_mul'' (iK a) (iK b)
theorem Lb{bP:Nat}(ok:∀ cI,cI < bP→A9 cI){Y:aF}{a K:S}{c aK bN e h n aI:Nat}{aC aX:List Nat}{a2:U}(T:aC.length+aX.length≤bP)(r:cJ a2 a aK aC)(aG:cJ a2 K bN aX)(o:e=aC.length)(p:h=aX.length)(q:gA aI a)(s:gA aI K)(u:n=aC.length+aX.length)
  (V:1≤aX.length) (Qx:2*aX.length≤aC.length) (Qy:aI < a2.size)
  (g:∀ aB a9,cG aI a2 aB→fN aB aI a9→a9.length=n→val a9=val aC*val aX→Y (.tuple #[]) aB) :
  ∀ (R O:Nat) (a9:List Nat) (Z:U),aC.length≤O+R→O≤aC.length+aX.length→a9.length=n→fN Z aI a9→cG aI a2 Z→val a9=val (aC.take O)*val aX→
   o9.dG.t Y (R+1) (some ⟨aI,0,none⟩) n c a e aK K h bN (O:Int) Z:=by
 subst o;subst p
 intro R
 induction R with
 | zero=>
  intro O a9 Z a8 y6 b aQ cO N
  unfold o9.dG.t o9.bM.t
  refine cE (fun a3=>absurd a3 (by omega)) fun a3=>?_
  rw [List.take_of_length_le (by omega)] at N
  exact g _ _ cO aQ b N
 | succ R bZ=>
  intro O a9 Z a8 y6 b aQ cO N
  have Qz:=aQ.len
  have QA:=r.cap
  unfold o9.dG.t o9.bM.t
  refine cE (fun a3=>?_) fun a3=>?_
  ·refine cT ((O+aX.length:Nat):Int) (by omega) (by omega) (by omega) ?_
   obtain⟨m,w⟩:∃ m,m=min (O+aX.length) aC.length:=⟨_,rfl⟩
   have x:(if (((aC.length:Nat):Int)) < ((O+aX.length:Nat):Int) then(((aC.length:Nat):Int)) else((O+aX.length:Nat):Int))=(m:Int):=by
    split <;> omega
   rw [x]
   refine E5 rfl rfl rfl (by omega) (by omega) ?_
   have d:(aC.take m).length=m:=by rw [List.length_take];omega
   have rt:=((r.cR q cO).take m).s7 (dI:=m) (by omega)
   have rd:=rt.drop O (by omega)
   have y:((aC.take m).drop O).length=m - O:=by rw [List.length_drop,d]
   refine cD (y3 (rd.s7 (dI:=m - O) (by omega)) y.symm) fun v a1 ⟨z,A⟩=>?_
   subst z;subst A
   refine bL rfl ?_
   have B:=A7 (rd.s7 (dI:=m - O) (by omega))
   have QB:=w7 ((aC.take m).drop O)
   refine cD (y5 (ok (aX.length+aX.length) (by omega)) (by omega) B (aG.cR s cO) rfl rfl (by omega)) fun v QC ⟨i,f⟩=>?_
   refine f.elim fun eV QD j=>?_
   rw [sN] at j ⊢
   have C:val (aC.take m)=val (aC.take O)+2 ^ (64*O)*val ((aC.take m).drop O):=by
    conv=>lhs;rw [← List.take_append_drop O (aC.take m)]
    rw [h5,List.length_take,d,Nat.min_eq_left (by omega),List.take_take,Nat.min_eq_left (by omega)]
   have D:val (aC.take m)≤val aC:=by
    have:val aC=val (aC.take m)+2 ^ (64*m)*val (aC.drop m):=by
     conv=>lhs;rw [← List.take_append_drop m aC]
     rw [h5,d]
    omega
   have k:val a9+val ((aC.take m).drop O)*val aX*2 ^ (64*O)=val (aC.take m)*val aX:=by
    rw [N,C,Nat.add_mul,Nat.mul_right_comm,Nat.mul_comm (2 ^ (64*O))]
   have dC:val (aC.take m)*val aX < 2 ^ (64*a9.length):=by
    rw [b,u]
    exact Nat.lt_of_le_of_lt (Nat.mul_le_mul_right _ D) (Gp r.words aG.words)
   have E:=aQ.aU i
   have F:aI ≠ eV:=by have:=cO.le;omega
   refine cD (A8 (at_:=O) E (j.rd (Nat.le_refl _)) rfl b.symm (Or.inr (y4 (Ne.symm F))) (by rw [e9,k];exact dC) (CW (by omega) (by omega)) rfl rfl) fun v G ⟨H,I,J,P,QE,l⟩=>?_
   subst H
   refine gY rfl (eG ?_)
   refine cT ((O+aX.length:Nat):Int) (by omega) (by omega) (by omega) ?_
   rw [e9,k] at l
   refine bZ (O+aX.length) J G (by omega) (by omega) (by omega) P ((cO.trans i.Ci).trans I) ?_
   rw [l]
   congr 2
   by_cases Q:O+aX.length≤aC.length
   ·rw [w,Nat.min_eq_left Q]
   ·rw [List.take_of_length_le (by omega),List.take_of_length_le (by omega)]
  ·rw [List.take_of_length_le (by omega)] at N
   exact g _ _ cO aQ b N
theorem Lc{a7 bQ aY aS jP eK bR:Nat}(a:a7=aY+bR*aS)(b:bQ=jP+bR*eK):(aY+aS)*(jP+eK)=aY*jP+(aY*eK+aS*jP)+aS*eK∧a7*bQ=aY*jP+(aY*eK+aS*jP)*bR+aS*eK*(bR*bR):=by
 subst a;subst b
 constructor
 ·rw [Nat.add_mul,Nat.mul_add,Nat.mul_add];omega
 ·have c:aY*(bR*eK)=aY*eK*bR:=by rw [Nat.mul_comm bR,Nat.mul_assoc]
  have d:bR*aS*jP=aS*jP*bR:=by rw [Nat.mul_assoc,Nat.mul_comm]
  have e:bR*aS*(bR*eK)=aS*eK*(bR*bR):=by
   rw [Nat.mul_mul_mul_comm,Nat.mul_comm]
  rw [Nat.add_mul,Nat.mul_add,Nat.mul_add,c,d,e,Nat.add_mul];omega
theorem Ld{bP:Nat}(ok:∀ cI,cI < bP→A9 cI){a K:S}{c aK bN F G n aI:Nat}{aC aX:List Nat}{Z:U}(Rk:aC.length+aX.length≤bP)(aQ:fN Z aI (List.replicate n 0))(r:cJ Z a aK aC)(aG:cJ Z K bN aX)(QJ:F=aC.length)(QK:G=aX.length)(Rl:gA aI a)(Rm:gA aI K)(QL:n=aC.length+aX.length)
  (Rn:40≤aX.length) (Ro:aX.length≤aC.length) (Rp:aC.length < 2*aX.length) :
  a4 vJ.id #[.slice (some ⟨aI,0,none⟩) n c,.slice a F aK,.slice K G bN] Z fun v aB=>v=.tuple #[]∧cG aI Z aB∧∃ a9,fN aB aI a9∧a9.length=n∧val a9=val aC*val aX:=by
 subst QJ;subst QK
 have QM:=aQ.len
 rw [List.length_replicate] at QM
 have Rq:=aQ.lt
 refine vJ.ok ?_
 unfold vJ.t vJ.aP.t
 refine cT ((aC.length+1:Nat):Int) (by omega) (by omega) (by omega) ?_
 obtain⟨R,QN⟩:∃ R,R=(aC.length+1) / 2:=⟨_,rfl⟩
 refine⟨by omega,cT (R:Int) (by rw [QN];exact o4 _ 2) (by omega) (by omega) ?_⟩
 refine cD (Gj (R:=R) r rfl rfl) fun v a1 ⟨h,Rr,i,j,k,Rs⟩=>?_
 subst h;subst i
 refine gY rfl (cS (bL rfl (cS (bL rfl (eG ?_)))))
 refine cD (Gj (R:=R) aG rfl rfl) fun v a1 ⟨h,Rt,i,l,m,Ru⟩=>?_
 subst h;subst i
 refine gY rfl (cS (bL rfl (cS (bL rfl (eG ?_)))))
 have ex:=Gk aC R
 have QO:=Gk aX R
 have Rv:(eA (aC.take R)).length≤R:=Nat.le_trans (w7 _) (by rw [List.length_take];omega)
 have Rw:(eA (aX.take R)).length≤R:=Nat.le_trans (w7 _) (by rw [List.length_take];omega)
 have Rx:(aC.drop R).length≤R:=by rw [List.length_drop];omega
 have Ry:(aX.drop R).length≤R:=by rw [List.length_drop];omega
 have I:=Gp r.words aG.words
 rw [← QL] at I
 generalize eA (aC.take R)=aY at *
 generalize eA (aX.take R)=jP at *
 generalize aC.drop R=aS at *
 generalize aX.drop R=eK at *
 refine cD (y5 (ok (R+R) (by omega)) (by omega) j l rfl rfl (by omega)) fun v QP ⟨e,f⟩=>?_
 refine f.elim fun hJ Rz o=>?_
 refine cD (y5 (ok (R+R) (by omega)) (by omega) (k.aU e) (m.aU e) rfl rfl (by omega)) fun v J ⟨p,f⟩=>?_
 refine f.elim fun QQ RA q=>?_
 have s:=e.trans p
 refine cD (Gm (j.aU s) (k.aU s) rfl rfl (by omega) (by omega)) fun v RB ⟨u,f⟩=>?_
 refine f.elim fun RC RD os=>?_
 have P:=s.trans u
 refine cD (Gm (l.aU P) (m.aU P) rfl rfl (by omega) (by omega)) fun v RE ⟨w,f⟩=>?_
 refine f.elim fun RF RG QR=>?_
 have RH:(aN (val aY+val aS)).length≤R+1:=AD (gZ.mpr (Nat.lt_of_lt_of_le (iK j.words) (Nat.pow_le_pow_right (by decide) (by omega)))) (gZ.mpr (Nat.lt_of_lt_of_le (iK k.words) (Nat.pow_le_pow_right (by decide) (by omega))))
 have RI:(aN (val jP+val eK)).length≤R+1:=AD (gZ.mpr (Nat.lt_of_lt_of_le (iK l.words) (Nat.pow_le_pow_right (by decide) (by omega)))) (gZ.mpr (Nat.lt_of_lt_of_le (iK m.words) (Nat.pow_le_pow_right (by decide) (by omega))))
 refine cD (y5 (ok (R+1+(R+1)) (by omega)) (by omega) ((os.rd (Nat.le_refl _)).aU w) (QR.rd (Nat.le_refl _)) rfl rfl (by omega)) fun v RJ ⟨QS,f⟩=>?_
 refine f.elim fun d RK x=>?_
 rw [e9,e9] at x ⊢
 have oK:=Lc ex QO
 obtain⟨b,Q⟩:∃ b,b=val aY*val jP:=⟨_,rfl⟩
 obtain⟨H,T⟩:∃ H,H=val aS*val eK:=⟨_,rfl⟩
 obtain⟨cI,QT⟩:∃ cI,cI=val aY*val eK+val aS*val jP:=⟨_,rfl⟩
 rw [← Q,← QT,← T] at oK
 rw [← Q] at o ⊢
 rw [← T] at q ⊢
 rw [oK.1] at x ⊢
 have y:=u.trans (w.trans QS)
 have V:=p.trans y
 have Qx:=e.trans V
 have Qy:=o.aU V
 have QU:=q.aU y
 have QV:=aQ.aU Qx
 have RL:hJ < QP.size:=o.lt
 have RM:QQ < J.size:=q.lt
 have RN:=p.le
 have RO:=y.le
 have RP:J.size≤d:=by have:=u.le;have:=w.le;omega
 refine cD (Gh x (Qy.rd (Nat.le_refl _)) rfl rfl (Or.inr (y4 (by omega))) (by rw [e9,e9];omega) (o1 (by omega))) fun v RQ ⟨QW,z,RR,QX,Qz,QY⟩=>?_
 subst QW
 refine gY rfl (eG ?_)
 rw [e9,e9] at QY
 have QA:=QU.cR (aI:=d) (by omega) z
 have QZ:=Qy.cR (aI:=d) (by omega) z
 refine cD (Gh QX (QA.rd (Nat.le_refl _)) rfl Qz.symm (Or.inr (y4 (by omega))) (by rw [e9];omega) (by rw [Qz];exact o1 (by omega))) fun v Q0 ⟨Q1,A,QB,QC,RS,Q2⟩=>?_
 subst Q1
 refine gY rfl (eG ?_)
 rw [e9] at Q2
 have Q3:val QB=cI:=by omega
 have RT:=e.le
 have QD:=z.trans A
 have Q4:bK a1 Q0:=QD.aU Qx (by omega)
 have Q5:=(QV.cR (aI:=d) (by omega) QD)
 have Q6:=QZ.cR (aI:=d) (by omega) A
 have Q7:=QA.cR (aI:=d) (by omega) A
 have Q8:2 ^ (64*R)*2 ^ (64*R)=2 ^ (64*(2*R)):=by rw [← Nat.pow_add,show 64*R+64*R=64*(2*R) by omega]
 have B:=oK.2
 rw [Q8] at B
 rw [B] at I
 have Q9:(aN b).length≤n:=gZ.mpr (by omega)
 refine La Q5 (Q6.rd (Nat.le_refl _)) (by simp) rfl (by simpa using Q9) fun RU Ra C=>?_
 have QE:val (aN b ++ (List.replicate n 0).drop (aN b).length)=b:=by
  rw [h5,e9,List.drop_replicate,uY];simp
 have g:(aN b ++ (List.replicate n 0).drop (aN b).length).length=n:=by simp;omega
 have QF:=QC.cR (aI:=aI) (by omega) C
 refine cD (y3 (QF.rd (by omega)) (by omega)) fun v fV ⟨Rb,D⟩=>?_
 subst Rb;subst D
 refine bL rfl ?_
 have QG:=A7 (QF.rd (Nat.le_refl _))
 have Rc:eA QB=aN cI:=by rw [← Q3,mU QC.words]
 rw [Rc] at QG ⊢
 refine cD (A8 (at_:=R) Ra QG rfl g.symm (Or.inr (y4 (by omega))) (by rw [QE,e9,g];omega) (by rw [g];exact CW (by omega) (by omega)) rfl rfl) fun v RV ⟨D,QH,RW,Rd,QI,E⟩=>?_
 subst D
 refine gY rfl (eG ?_)
 rw [QE,e9] at E
 refine cT ((2*R:Nat):Int) (by omega) (by omega) (by omega) ?_
 have Re:=(Q7.cR (aI:=aI) (by omega) C).cR (aI:=aI) (by omega) QH
 refine cD (A8 (at_:=2*R) Rd (Re.rd (Nat.le_refl _)) rfl (by omega) (Or.inr (y4 (by omega))) (by rw [E,e9,QI,g];omega) (by rw [QI,g];exact CW (by omega) (by omega)) rfl rfl) fun v RX ⟨Rf,Rg,Rh,Ri,RY,Rj⟩=>?_
 subst Rf
 refine gY rfl (eG ?_)
 refine⟨rfl,Q4.Ci.trans (C.trans (QH.trans Rg)),Rh,Ri,by omega,?_⟩
 rw [Rj,E,e9,B]
theorem Le(bP:Nat):A9 bP:=by
 induction bP using Nat.strongRecOn with
 | ind bP ok=>
  have main:∀ {a K:S} {c aK bN g h n aI:Nat} {aC aX:List Nat} {Z:U},aC.length+aX.length≤bP→fN Z aI (List.replicate n 0)→cJ Z a aK aC→cJ Z K bN aX→g=aC.length→h=aX.length→(aC=[]∨gA aI a)→(aX=[]∨gA aI K)→n=aC.length+aX.length→aX.length≤aC.length→
    rQ.a5.t (fun v aB=>v=.tuple #[]∧cG aI Z aB∧∃ a9,fN aB aI a9∧a9.length=n∧val a9=val aC*val aX) (some ⟨aI,0,none⟩) n c a g aK K h bN Z:=by
   intro a K c aK bN g h n aI aC aX Z l aQ r aG f b i j k m
   have q:=aQ.len
   rw [List.length_replicate] at q
   unfold rQ.a5.t
   refine cE (fun bH=>?_) fun bH=>?_
   ·refine cD (K9 aQ r aG f b i j k) fun v aB ⟨N,R,d⟩=>?_
    subst N
    exact gY rfl (eG ⟨rfl,R,d⟩)
   ·have o:gA aI a:=by
     rcases i with e | e
     ·subst e;have:aX.length≤0:=m;omega
     ·exact e
    have p:gA aI K:=by
     rcases j with e | e
     ·subst e;simp at b;omega
     ·exact e
    refine cT ((2*aX.length:Nat):Int) (by omega) (by omega) (by omega) ?_
    refine cE (fun a3=>?_) fun a3=>?_
    ·have s:a4 o9.id #[.slice (some ⟨aI,0,none⟩) n c,.slice a g aK,.slice K h bN] Z fun v aB=>v=.tuple #[]∧cG aI Z aB∧∃ a9,fN aB aI a9∧a9.length=n∧val a9=val aC*val aX:=by
      refine o9.ok ?_
      unfold o9.t o9.aP.t
      refine⟨aC.length+1,?_⟩
      refine Lb ok l r aG f b o p k (by omega) (by omega) aQ.lt (fun aB a9 R fO d N=>⟨rfl,R,a9,fO,d,N⟩) aC.length 0 _ Z (by omega) (by omega) (by simp) aQ (cG.refl _ _) ?_
      rw [uY];simp [val]
     refine cD s fun v aB ⟨N,R,d⟩=>?_
     subst N
     exact gY rfl (eG ⟨rfl,R,d⟩)
    ·refine cD (Ld ok l aQ r aG f b o p k (by omega) m (by omega)) fun v aB ⟨N,R,d⟩=>?_
     subst N
     exact gY rfl (eG ⟨rfl,R,d⟩)
  intro a K c aK bN g h n aI aC aX Z l aQ r aG f b i j k
  refine rQ.ok ?_
  unfold rQ.t rQ.aP.t
  refine cE (fun a3=>?_) fun a3=>?_
  ·have:=main (c:=c) (by omega) aQ aG r b f j i (by omega) (by omega)
   rw [Nat.mul_comm (val aX)] at this;exact this
  ·exact main l aQ r aG f b i j k (by omega)
theorem Lf{a K:S}{c aZ l m:Nat}{aC aX:List Nat}{Z:U}(r:cJ Z a c aC)(aG:cJ Z K aZ aX)(b:l=aC.length)(d:m=aX.length)(a3:aC.length+aX.length≤35184372088828):
  a4 o8.id #[.slice a l c,.slice K m aZ] Z fun v aB=>bK Z aB∧vI Z aB v (aN (val aC*val aX)):=
 y5 (Le _) (Nat.le_refl _) r aG b d a3
def xH(aC aX:List Nat):List Nat × Int:=if jM aC∧jM aX then fW (val aC*val aX) else([],2)
theorem Lg{a K:S}{c aZ l m:Nat}{aC aX:List Nat}{Z:U}(r:cJ Z a c aC)(aG:cJ Z K aZ aX)(j:l=aC.length)(k:m=aX.length):
  a4 rR.id #[.slice a l c,.slice K m aZ] Z fun v aB=>bK Z aB∧fB Z aB v (xH aC aX):=by
 refine rR.ok ?_
 unfold rR.t rR.aP.t
 refine cD (oC r j) fun v aB ⟨b,d⟩=>?_
 subst b;subst d
 refine dB rfl ?_
 refine hO (fun e=>⟨bK.refl _,?_⟩) fun e=>?_
 ·unfold xH;rw [if_neg (fun g=>of_decide_eq_false e g.1)];exact fB.none
 refine cD (oC aG k) fun v aB ⟨b,d⟩=>?_
 subst b;subst d
 refine dB rfl ?_
 refine hO (fun h=>⟨bK.refl _,?_⟩) fun h=>?_
 ·unfold xH;rw [if_neg (fun g=>of_decide_eq_false h g.2)];exact fB.none
 have f1:=of_decide_eq_true e
 have f2:=of_decide_eq_true h
 have a1:=f1.1
 have z:=f2.1
 unfold xH;rw [if_pos ⟨f1,f2⟩]
 unfold rR.a5.t
 refine cD (Lf r aG j k (by omega)) fun v i ⟨n,f⟩=>?_
 refine f.elim fun g4 o p=>?_
 have q:a4 vK.id #[.slice (some ⟨g4,0,none⟩) (aN (val aC*val aX)).length (aN (val aC*val aX)).length] i fun v s=>s=i∧fB aB i v (fW (val aC*val aX)):=by
  refine vK.ok ?_
  unfold vK.t vK.aP.t
  refine cE (fun a3=>⟨rfl,?_⟩) fun a3=>⟨rfl,?_⟩
  ·unfold fW;rw [if_neg (by omega)];exact fB.none
  ·unfold fW;rw [if_pos (by omega)];exact fB.mk rfl rfl (p.iF o) (show In .i64 0 by decide)
 refine cD q fun v A ⟨u,w⟩=>?_
 subst u
 refine w.iM fun bE bD x y=>?_
 exact⟨n,fB.back x y⟩
abbrev Gq:=Bool × List Nat
abbrev xI:=Bool × Nat
def dV(O:Int):xI:=(decide (O < 0),O.natAbs)
def c7(L:xI):Int:=if L.1 then -((L.2:Nat):Int) else((L.2:Nat):Int)
def Gr(L:Gq):Prop:=jM L.2∧¬ (L.1=true∧L.2=[])
instance (L:Gq):Decidable (Gr L):=by unfold Gr;infer_instance
def Gs(O:Int):Prop:=(aN O.natAbs).length≤8192
instance (O:Int):Decidable (Gs O):=by unfold Gs;infer_instance
theorem y7(O:Int):c7 (dV O)=O:=by
 unfold c7 dV
 by_cases Z:O < 0
 ·simp only [Z,decide_true,if_true];omega
 ·simp only [Z,decide_false,Bool.false_eq_true,if_false];omega
def dK(K:Bool)(n:Nat):Int:=if K then -(n:Int) else(n:Int)
theorem rS(K:Bool)(n:Nat):(dK K n).natAbs=n:=by unfold dK;cases K <;> simp
theorem Gt(K:Bool)(n:Nat):decide (dK K n < 0)=(K && decide (n ≠ 0)):=by
 unfold dK
 cases K
 ·simp
 ·by_cases Z:n=0
  ·subst Z;simp
  ·simp only [if_true,Bool.true_and,Z,ne_eq,not_false_eq_true,decide_true,decide_eq_true_eq];omega
theorem Lh(K:Bool)(n:Nat):dV (dK K n)=((K && decide (n ≠ 0)),n):=by unfold dV;rw [rS,Gt]
theorem Li{a K aI:Int}(a3:0 < K)(a1:aI*K≤a)(b:a < (aI+1)*K):a / K=aI:=by
 refine Int.le_antisymm (Int.lt_add_one_iff.mp (Int.ediv_lt_of_lt_mul a3 b)) (Int.le_ediv_of_mul_le a3 a1)
def h2(a K:Int):Int:=if K < 0 then(-a) / (-K) else a / K
def rT(a K:Int):Int:=a - K*h2 a K
def iB(a bA:Nat):Nat:=if bA < 2*(a % bA)∨(2*(a % bA)=bA∧a / bA % 2=1) then a / bA+1 else a / bA
def mG(a K:Int):Int:=dK (xor (decide (a < 0)) (decide (K < 0))) (iB a.natAbs K.natAbs)
theorem Lj{bA:Nat}(Z:bA ≠ 0):(0:Int) < (bA:Int):=by omega
theorem y8{p aI:Bool}{a bA:Nat}(c0:bA ≠ 0)(c:p=true→a ≠ 0):h2 (dK p a) (dK aI bA)=dK (xor p aI) (if (xor p aI)=true∧a % bA ≠ 0 then a / bA+1 else a / bA):=by
 have key:∀ (r:Bool),(r=true→a ≠ 0)→dK r a / (bA:Int)=dK r (if r=true∧a % bA ≠ 0 then a / bA+1 else a / bA):=by
  intro r h
  have aW:=Nat.div_add_mod a bA
  have i:=Nat.mod_lt a (show 0 < bA by omega)
  refine Li (Lj c0) ?_ ?_
  ·cases r
   ·simp only [dK,Bool.false_eq_true,false_and,if_false]
    have:a / bA*bA≤a:=Nat.div_mul_le_self _ _
    exact_mod_cast this
   ·simp only [dK,if_true,true_and]
    split
    ·have:a≤(a / bA+1)*bA:=by rw [Nat.add_mul,Nat.one_mul,Nat.mul_comm];omega
     have b:(a:Int)≤(((a / bA+1:Nat):Int))*(bA:Int):=by exact_mod_cast this
     rw [Int.neg_mul];omega
    ·rename_i Z
     have:a=a / bA*bA:=by rw [Nat.mul_comm];omega
     have b:(a:Int)=(((a / bA:Nat):Int))*(bA:Int):=by exact_mod_cast this
     rw [Int.neg_mul];omega
  ·cases r
   ·simp only [dK,Bool.false_eq_true,false_and,if_false]
    have:a < (a / bA+1)*bA:=by rw [Nat.add_mul,Nat.one_mul,Nat.mul_comm];omega
    exact_mod_cast this
   ·simp only [dK,if_true,true_and]
    split
    ·rename_i Z
     have:a / bA*bA < a:=by rw [Nat.mul_comm];omega
     have b:(((a / bA:Nat):Int))*(bA:Int) < (a:Int):=by exact_mod_cast this
     have e:(-(((a / bA+1:Nat):Int))+1)=-(((a / bA:Nat):Int)):=by omega
     rw [e,Int.neg_mul];omega
    ·rename_i Z
     have a2:a=a / bA*bA:=by rw [Nat.mul_comm];omega
     have b:(a:Int)=(((a / bA:Nat):Int))*(bA:Int):=by exact_mod_cast a2
     rw [Int.add_mul,Int.neg_mul,Int.one_mul];omega
 unfold h2
 cases aI
 ·have N:dK false bA=(bA:Int):=rfl
  rw [N,if_neg (by omega),key p c]
  simp
 ·have N:dK true bA=-(bA:Int):=rfl
  rw [N,if_pos (by omega),Int.neg_neg]
  have f:-dK p a=dK (!p) a:=by cases p <;> simp [dK]
  rw [f]
  by_cases d:a=0
  ·subst d
   have g:p=false:=by cases p;rfl;exact absurd rfl (c rfl)
   subst g
   simp [dK]
  ·rw [key (!p) fun _=>d]
   cases p <;> simp
def hZ(O aD:Int):Int:=if O < aD then -1 else if O=aD then 0 else 1
theorem Lk(K:Bool)(a bA:Nat):dK K a+dK K bA=dK K (a+bA):=by unfold dK;cases K <;> simp <;> omega
theorem Gu{p aI:Bool}{a bA:Nat}(Z:p ≠ aI)(b:bA≤a):dK p a+dK aI bA=dK p (a - bA):=by
 unfold dK;cases p <;> cases aI <;> simp at Z ⊢ <;> omega
theorem C0(p:Bool)(a:Nat):-dK p a=dK (!p) a:=by unfold dK;cases p <;> simp
theorem C1(p aI:Bool)(a bA:Nat):dK p a*dK aI bA=dK (xor p aI) (a*bA):=by
 unfold dK;cases p <;> cases aI <;> simp [Int.neg_mul,Int.mul_neg]
theorem qX(p:Bool):dK p 0=0:=by unfold dK;cases p <;> rfl
theorem C2{p:Bool}{a:Nat}:dK p a=0↔a=0:=by unfold dK;cases p <;> simp
theorem C3(a:Nat):dK false a=(a:Int):=rfl
theorem Gw(n:Nat):((2:Int) ^ n)=dK false (2 ^ n):=by rw [C3];exact(Int.natCast_pow 2 n).symm
theorem Ll(n:Nat):(2:Nat) ^ n ≠ 0:=Nat.pos_iff_ne_zero.mp (Nat.two_pow_pos n)
theorem Lm(p:Bool)(a n:Nat):dK p a*2 ^ n=dK p (a*2 ^ n):=by rw [Gw,C1];simp
theorem Gx{p:Bool}{a:Nat}(Z:p=true→a ≠ 0):decide (dK p a < 0)=p:=by
 rw [Gt];cases p
 ·rfl
 ·simp [Z rfl]
theorem C4(K:Int):h2 0 K=0:=by unfold h2;split <;> simp
theorem Ln{p aI:Bool}{a bA:Nat}(c0:bA ≠ 0)(b:p=true→a ≠ 0):mG (dK p a) (dK aI bA)=dK (xor p aI) (iB a bA):=by
 unfold mG
 rw [Gx b,Gx fun _=>c0,rS,rS]
theorem Lo{a K:Int}(a3:0 < K):h2 a K*K≤a∧a < (h2 a K+1)*K:=by
 unfold h2;rw [if_neg (by omega)]
 exact⟨Int.ediv_mul_le _ (by omega),Int.lt_ediv_add_one_mul_self _ a3⟩
theorem Lp(K:Int):rT 0 K=0:=by unfold rT;rw [C4];simp
theorem Gy{p aI:Bool}{a bA:Nat}(c0:bA ≠ 0)(d:p=true→a ≠ 0):rT (dK p a) (dK aI bA)=dK aI (if (xor p aI)=true∧a % bA ≠ 0 then bA - a % bA else a % bA):=by
 unfold rT
 rw [y8 c0 d,C1]
 have aW:=Nat.div_add_mod a bA
 have f:=Nat.mod_lt a (show 0 < bA by omega)
 have ex:(xor aI (xor p aI))=p:=by cases p <;> cases aI <;> rfl
 rw [ex]
 generalize a % bA=r at *
 generalize a / bA=Q at *
 have e:bA*(Q+1)=bA*Q+bA:=by rw [Nat.mul_add,Nat.mul_one]
 by_cases c:(xor p aI)=true∧r ≠ 0
 ·rw [if_pos c,if_pos c,e]
  generalize bA*Q=T at *
  subst aW
  obtain⟨aK,bN⟩:=c
  cases p <;> cases aI <;> simp at aK <;> simp only [dK,if_true,Bool.false_eq_true,if_false] <;> omega
 ·rw [if_neg c,if_neg c]
  generalize bA*Q=T at *
  subst aW
  have cZ:p=aI∨r=0:=by
   by_cases b:r=0
   ·exact Or.inr b
   ·refine Or.inl ?_
    cases p <;> cases aI <;> first | rfl | exact absurd ⟨rfl,b⟩ c
  rcases cZ with rfl | rfl
  ·cases p <;> simp only [dK,if_true,Bool.false_eq_true,if_false] <;> omega
  ·cases p <;> cases aI <;> simp only [dK,if_true,Bool.false_eq_true,if_false] <;> omega
section
variable {a K:S} {c aZ l m:Nat} {aC aX:List Nat} {a2 Z:U} {L aT:Int}
end
section
variable {a K:S} {c aZ l m:Nat} {aC aX:List Nat} {Z:U} {L aT:Int} {p aI:Bool}
end
section
variable {a K:S} {c aZ l m:Nat} {aC aX:List Nat} {Z:U} {L aT:Int} {p aI:Bool}
end
section
variable {a K:S} {c aZ l m a7 bQ:Nat} {aC aX:List Nat} {Z:U} {L aT:Int}
theorem g6.b5(r:cL cA Z a c (D.aN a7))(N:l=(D.aN a7).length):a4 g6.id #[.slice a l c] Z fun v aB=>bK Z aB∧gX Z aB v a7:=by
 have:=oF r N
 rw [D.e9] at this;exact this
end
namespace gE
def aP.v(a:Bool)(b:Nat):(Bool × Nat):=
 gB (b) fun b=>
 bif a then
  ((decide (((((D.aN b).length:Nat):Int)) > (0:Int))),b)
 else
  (false,b)
theorem aP.b5{Y:aF}{a2 Z:U}(b:bK a2 Z){o:Bool}{aM:S}{aK aL:Nat}{f:Nat}(r:cL cA Z aM aK (D.aN f))(s:aL=(D.aN f).length)(g:h6 g5 a2 Y (aP.v o f)):aP.t Y o aM aL aK Z:=by
 subst s
 have c:=bK.refl Z
 unfold aP.v at g
 unfold aP.t
 refine fJ fun u a l=>?_
 have a:eM u (Z.size) [.bool false,.slice none (D.aN 0).length 0]:=by rw [D.e0];exact a
 have h:a2.size≤Z.size:=b.le
 have i:Z.size≤Z.size:=c.le
 have A:=a.lt
 have w:=l.c2
 have b:=b.trans l
 have c:=c.trans l
 refine cD (g6.b5 (r.c2 (w)) rfl) fun v B ⟨j,aG⟩=>?_
 obtain⟨C,q⟩:∃ p,p=f:=⟨_,rfl⟩
 rw [← q] at aG
 replace g:=gR q g
 obtain⟨E,F,rfl,k⟩:=aG
 refine bL rfl (?_)
 have k:=k.from b.le
 have G:=j.c2
 have a:=a.aU j
 have b:=b.trans j
 have c:=c.trans j
 refine yS g (fun x g=>?_) (fun x g=>?_)
 ·refine e8 a (cB _ _) rfl fun y a d m=>?_
  have b:=cG.aU b d h
  have c:=cG.aU c d i
  refine e8 a (cB _ _) rfl fun z a e n=>?_
  have b:=cG.aU b e h
  have c:=cG.aU c e i
  refine dJ a (cB _ _) rfl ?_
  refine dB rfl ?_
  refine dJ a (cB _ _) rfl ?_
  refine bL rfl ?_
  exact g _ _ b ⟨_,_,rfl,(k.c2 (m.trans n))⟩
 ·refine e8 a (cB _ _) rfl fun y a d m=>?_
  have b:=cG.aU b d h
  have c:=cG.aU c d i
  refine e8 a (cB _ _) rfl fun z a e n=>?_
  have b:=cG.aU b e h
  have c:=cG.aU c e i
  refine dJ a (cB _ _) rfl ?_
  refine dB rfl ?_
  refine dJ a (cB _ _) rfl ?_
  refine bL rfl ?_
  exact g _ _ b ⟨_,_,rfl,(k.c2 (m.trans n))⟩
def v(a:Bool)(b:Nat):(Bool × Nat):=aP.v a b
theorem b5{Z:U}{a:Bool}{aM:S}{aK aL:Nat}{b:Nat}(c:cL cA Z aM aK (D.aN b))(d:aL=(D.aN b).length):a4 id #[.bool a,.slice aM aL aK] Z fun e f=>bK Z f∧g5 Z f e (v a b):=
 ok (aP.b5 (bK.refl _) c d fun v aB R aG=>⟨R,aG⟩)
end gE
theorem s9(a7:Nat):(D.aN a7).length=0↔a7=0:=by
 constructor
 ·intro Z
  have a:D.aN a7=[]:=List.length_eq_zero_iff.mp Z
  rw [← D.e9 a7,a];rfl
 ·intro Z;subst Z;simp [D.e0]
theorem Lq(K:Bool)(a7:Nat):gE.v K a7=dV (dK K a7):=by
 unfold gE.v gE.aP.v
 rw [Lh]
 have N:decide ((((D.aN a7).length:Nat):Int) > 0)=decide (a7 ≠ 0):=by
  rw [decide_eq_decide];have:=s9 a7;omega
 simp only [gB,N]
 cases K <;> rfl
section
variable {a K:S} {c aZ l m a7:Nat} {aC aX:List Nat} {Z:U} {L aT:Int} {p aI:Bool}
theorem gE.bH(r:cL cA Z a c (D.aN a7))(N:l=(D.aN a7).length):a4 gE.id #[.bool p,.slice a l c] Z fun v aB=>bK Z aB∧g5 Z aB v (dV (dK p a7)):=by rw [← Lq];exact gE.b5 r N
theorem oL.bH(O:In .i64 L):a4 oL.id #[.int .i64 L] Z fun v aB=>bK Z aB∧g5 Z aB v (dV L):=by
 rw [sP] at O
 refine oL.ok ?_
 unfold oL.t oL.aP.t
 refine fJ fun m a n=>?_
 refine cE (fun b=>?_) fun b=>?_
 ·have b:L < 0:=b
  refine kU (aT:=L+1) (wrap_i64 (by omega) (by omega)) ?_
  refine kU (aT:=-(L+1)) (by rw [show 0 - (L+1)=-(L+1) by omega];exact wrap_i64 (by omega) (by omega)) ?_
  refine kU (aT:=(((L+1).natAbs:Nat):Int)) (by rw [wrap_u64];omega) ?_
  refine cD (o5 (aE:=(L+1).natAbs) rfl (by omega) m) fun v o ⟨c,aG⟩=>?_
  refine aG.elim fun aM aK e=>?_
  refine cD (o5 (aE:=1) rfl (by omega) o) fun v fV ⟨f,aG⟩=>?_
  refine aG.elim fun bO bN q=>?_
  have aL:(D.aN (L+1).natAbs).length≤2:=Cw.mpr (by omega)
  have b3:(D.aN 1).length≤2:=Cw.mpr (by omega)
  refine cD (CF (e.rd.aU f) q.rd rfl rfl (by omega) (by omega)) fun v x ⟨p,aG⟩=>?_
  refine aG.elim fun c9 cZ r=>?_
  refine cD (gE.bH r.rd rfl) fun v s ⟨d,aG⟩=>?_
  have g:dK true ((L+1).natAbs+1)=L:=by unfold dK;simp only [if_true];omega
  rw [g] at aG
  have eR:=n.trans (c.trans (f.trans p))
  obtain⟨eI,eN,N,h⟩:=aG
  subst N
  refine fH rfl ?_
  refine cS ?_
  refine dB rfl ?_
  refine cS ?_
  refine bL rfl ?_
  refine eG ?_
  have a:=a.aU (c.trans (f.trans (p.trans d)))
  refine e8 a (cB _ _) rfl fun u a i j=>?_
  refine e8 a (cB _ _) rfl fun w a k l=>?_
  refine dJ a (cB _ _) rfl ?_
  refine dB rfl ?_
  refine dJ a (cB _ _) rfl ?_
  refine bL rfl ?_
  exact⟨cG.aU (cG.aU (eR.trans d) i (Nat.le_refl _)) k (Nat.le_refl _),_,_,rfl,(h.from eR.le).c2 (j.trans l)⟩
 ·have b:¬ L < 0:=b
  refine kU (aT:=((L.natAbs:Nat):Int)) (by rw [wrap_u64];omega) ?_
  refine cD (o5 (aE:=L.natAbs) rfl (by omega) m) fun v o ⟨c,aG⟩=>?_
  refine aG.elim fun aM aK e=>?_
  refine cD (gE.bH e.rd rfl) fun v s ⟨d,aG⟩=>?_
  have g:dK false L.natAbs=L:=by unfold dK;simp only [Bool.false_eq_true,if_false];omega
  rw [g] at aG
  have eR:=n.trans c
  obtain⟨eI,eN,N,h⟩:=aG
  subst N
  refine fH rfl ?_
  refine cS ?_
  refine dB rfl ?_
  refine cS ?_
  refine bL rfl ?_
  refine eG ?_
  have a:=a.aU (c.trans d)
  refine e8 a (cB _ _) rfl fun u a i j=>?_
  refine e8 a (cB _ _) rfl fun w a k l=>?_
  refine dJ a (cB _ _) rfl ?_
  refine dB rfl ?_
  refine dJ a (cB _ _) rfl ?_
  refine bL rfl ?_
  exact⟨cG.aU (cG.aU (eR.trans d) i (Nat.le_refl _)) k (Nat.le_refl _),_,_,rfl,(h.from eR.le).c2 (j.trans l)⟩
end
section
variable {a K:S} {c aZ l m a7:Nat} {aC aX:List Nat} {Z:U} {L aT:Int} {p aI:Bool}
end
theorem C5(a:Int):∃ p b,a=dK p b∧(p=true→b ≠ 0)∧b=a.natAbs:=by
 by_cases Z:a < 0
 ·exact⟨true,a.natAbs,by unfold dK;simp;omega,fun _=>by omega,rfl⟩
 ·exact⟨false,a.natAbs,by unfold dK;simp;omega,fun Z=>(by cases Z),rfl⟩
theorem Gz{a bA:Nat}(Z:a % bA ≠ 0):a / bA+1≤a:=by
 have aW:=Nat.div_add_mod a bA
 rcases Nat.eq_zero_or_pos bA with a2 | a2
 ·subst a2;simp at Z ⊢;omega
 have c:=Nat.mod_lt a a2
 generalize a % bA=r at *
 have b:2≤bA:=by omega
 have d:=Nat.mul_le_mul_right (a / bA) b
 omega
theorem Lr{a K:Int}(a3:K ≠ 0):(h2 a K).natAbs≤a.natAbs:=by
 obtain⟨p,c,rfl,b,_⟩:=C5 a
 obtain⟨aI,bA,rfl,d,_⟩:=C5 K
 have c0:bA ≠ 0:=fun Z=>a3 (C2.mpr Z)
 rw [y8 c0 b,rS,rS]
 split
 ·rename_i Z;exact Gz Z.2
 ·exact Nat.div_le_self _ _
theorem Ls{a bA:Nat}(c0:bA ≠ 0):iB a bA≤a:=by
 unfold iB
 split
 ·rename_i Z;exact Gz (by omega)
 ·exact Nat.div_le_self _ _
theorem Lt{a K:Int}(a3:K ≠ 0):(mG a K).natAbs≤a.natAbs:=by
 unfold mG;rw [rS];exact Ls (by omega)
theorem Lu{a K:Int}:mG (-a) K=-mG a K:=by
 by_cases Z:a=0
 ·subst Z
  unfold mG
  have:iB (0:Int).natAbs K.natAbs=0:=by
   unfold iB;simp
  simp only [Int.neg_zero,this,qX]
 ·unfold mG
  rw [Int.natAbs_neg,C0]
  congr 1
  have:decide (-a < 0)=!decide (a < 0):=by
   by_cases b:a < 0
   ·simp [b];omega
   ·simp [b];omega
  rw [this];cases decide (a < 0) <;> cases decide (K < 0) <;> rfl
theorem Lv(O aD:Int):decide (hZ O aD > 0)=decide (O > aD):=by
 unfold hZ
 rcases Int.lt_trichotomy O aD with Z | Z | Z
 ·rw [if_pos Z];simp;omega
 ·subst Z;simp
 ·rw [if_neg (by omega),if_neg (by omega)];simp;omega
theorem Lw(O:Int):(hZ O 0 == 0)=decide (O=0):=by
 unfold hZ
 rcases Int.lt_trichotomy O 0 with Z | Z | Z
 ·rw [if_pos Z];have:O ≠ 0:=by omega
  simp [this]
 ·subst Z;simp
 ·rw [if_neg (by omega),if_neg (by omega)];have:O ≠ 0:=by omega
  simp [this]
section
variable {a:S} {c l:Nat} {aC:List Nat} {Z:U} {L:Int} {p:Bool}
end
theorem GA(Z:U)(a:S)(c:Nat):cL cA Z a c (D.aN 0):=by rw [D.e0];exact cL.nil _ _ _
theorem vL(a2 Z:U):cX cA a2 Z none 0 (D.aN 0):=by rw [D.e0];exact cX.nil _ _
theorem _root_.Go.Gv.eM.GB{Z:U}{K R:Nat}{b8:List Value}(aQ:eM Z K (b8.set R (.slice none 0 0))):eM Z K (b8.set R (.slice none (D.aN 0).length 0)):=by rw [D.e0];exact aQ
theorem pA{a7 bQ:Nat}(Z:a7≤bQ):(D.aN a7).length≤(D.aN bQ).length:=D.o1 Z
theorem y9(a7 bQ:Nat):(D.aN (a7*bQ)).length≤(D.aN a7).length+(D.aN bQ).length:=by
 have a:=(D.gZ (n:=a7)).mp (Nat.le_refl _)
 have b:=(D.gZ (n:=bQ)).mp (Nat.le_refl _)
 rw [D.gZ,Nat.mul_add,Nat.pow_add]
 exact Nat.mul_lt_mul'' a b
theorem zA(a7 bQ:Nat):(D.aN (a7+bQ)).length≤(D.aN a7).length+(D.aN bQ).length+1:=by
 have a:=(D.gZ (n:=a7)).mp (Nat.le_refl _)
 have b:=(D.gZ (n:=bQ)).mp (Nat.le_refl _)
 rw [D.gZ]
 generalize (D.aN a7).length=aD at *
 generalize (D.aN bQ).length=R at *
 have a1:2 ^ (32*aD)≤2 ^ (32*(aD+R)):=Nat.pow_le_pow_right (by decide) (by omega)
 have c:2 ^ (32*R)≤2 ^ (32*(aD+R)):=Nat.pow_le_pow_right (by decide) (by omega)
 have d:2*2 ^ (32*(aD+R))≤2 ^ (32*(aD+R+1)):=by
  have:(2:Nat)*2 ^ (32*(aD+R))=2 ^ (32*(aD+R)+1):=by rw [Nat.pow_succ];omega
  rw [this];exact Nat.pow_le_pow_right (by decide) (by omega)
 omega
theorem Lx{L:Int}(O:In .u64 L):(D.aN L.toNat).length≤2:=by
 rw [u2] at O
 exact D.gZ.mpr (by show L.toNat < 2 ^ 64;omega)
theorem Ly(a7 bQ:Nat):(D.aN (oH a7 bQ).1).length≤(D.aN a7).length:=by
 unfold oH;split
 ·exact pA (Nat.zero_le _)
 ·exact pA (Nat.div_le_self _ _)
theorem Lz(a7 bQ:Nat):(D.aN (oH a7 bQ).2).length≤(D.aN a7).length:=by
 unfold oH;split
 ·exact pA (Nat.zero_le _)
 ·exact pA (Nat.mod_le _ _)
theorem rU(K:Bool)(a7:Nat):(c7 (K,a7)).natAbs=a7:=rS K a7
theorem tA{O:Int}{n:Nat}(Z:O.natAbs≤n):(D.aN (dV O).2).length≤(D.aN n).length:=D.o1 Z
theorem mH(K:Bool)(a7:Nat):(D.aN (dV (dK K a7)).2).length≤(D.aN a7).length:=tA (by rw [rS];exact Nat.le_refl _)
theorem C6{L:Int}(O:In .i64 L):(D.aN (dV L).2).length≤2:=by
 rw [sP] at O
 exact D.gZ.mpr (by show L.natAbs < 2 ^ 64;omega)
theorem C7(K:Bool)(a7:Nat):(D.aN (dV (-c7 (K,a7))).2).length≤(D.aN a7).length:=tA (by rw [Int.natAbs_neg,rU];exact Nat.le_refl _)
theorem C8(K:Bool)(a7:Nat)(c:Bool)(bQ:Nat):(D.aN (dV (c7 (K,a7)+c7 (c,bQ))).2).length≤(D.aN a7).length+(D.aN bQ).length+1:=
 Nat.le_trans (tA (n:=a7+bQ) (by have:=Int.natAbs_add_le (c7 (K,a7)) (c7 (c,bQ));rw [rU,rU] at this;exact this)) (zA a7 bQ)
theorem GC(K:Bool)(a7:Nat)(c:Bool)(bQ:Nat):(D.aN (dV (c7 (K,a7) - c7 (c,bQ))).2).length≤(D.aN a7).length+(D.aN bQ).length+1:=
 Nat.le_trans (tA (n:=a7+bQ) (by have:=Int.natAbs_sub_le (c7 (K,a7)) (c7 (c,bQ));rw [rU,rU] at this;exact this)) (zA a7 bQ)
theorem LA(K:Bool)(a7:Nat):(D.aN (dV (c7 (K,a7)*2 ^ (Int.toNat (1:Int)))).2).length≤(D.aN a7).length+1:=by
 refine Nat.le_trans (tA (n:=a7*2) (by rw [Int.natAbs_mul,rU];exact Nat.le_refl _)) (Nat.le_trans (y9 a7 2) ?_)
 have:(D.aN 2).length≤1:=D.gZ.mpr (by decide)
 omega
def oM(a K:Int):xI × xI:=if K≤0 then((false,0),(false,0)) else(dV (a / K),dV (a % K))
theorem GD{a K:Int}(Z:0 < K):h2 a K=a / K:=by unfold h2;rw [if_neg (by omega)]
theorem LB(a K:Int):(h2 a K).natAbs≤a.natAbs:=by
 by_cases Z:K=0
 ·subst Z;unfold h2;simp
 ·exact Lr Z
theorem C9(n:Nat):(D.aN 0).length≤n:=by simp [D.e0]
theorem LC(K:Bool)(a7:Nat)(c:Bool)(bQ:Nat):(D.aN (oM (c7 (K,a7)) (c7 (c,bQ))).1.2).length≤(D.aN a7).length:=by
 unfold oM;split
 ·exact C9 _
 ·rename_i Z
  have:=LB (c7 (K,a7)) (c7 (c,bQ))
  rw [GD (by omega),rU] at this
  exact tA this
theorem LD(K:Bool)(a7:Nat)(c:Bool)(bQ:Nat):(D.aN (oM (c7 (K,a7)) (c7 (c,bQ))).2.2).length≤(D.aN bQ).length:=by
 unfold oM;split
 ·exact C9 _
 ·rename_i Z
  refine tA ?_
  have a1:=Int.emod_lt_of_pos (c7 (K,a7)) (show 0 < c7 (c,bQ) by omega)
  have a:=Int.emod_nonneg (c7 (K,a7)) (show c7 (c,bQ) ≠ 0 by omega)
  have b:=rU c bQ
  omega
def oN(a K:Int):xI:=if K < 0 then dV 1 else if K=0 then(false,0) else dV (mG a K)
def xJ(a K:Int):xI:=if K=0 then(false,0) else dV (mG a K)
theorem LF(K:Bool)(a7:Nat)(c:Bool)(bQ:Nat):(D.aN (oN (c7 (K,a7)) (c7 (c,bQ))).2).length≤(D.aN a7).length+1:=by
 unfold oN;split
 ·have:(D.aN (dV 1).2).length≤1:=D.gZ.mpr (by decide)
  omega
 ·split
  ·exact C9 _
  ·exact Nat.le_succ_of_le (tA (by have:=Lt (a:=c7 (K,a7)) (K:=c7 (c,bQ)) (by omega);rw [rU] at this;exact this))
section
variable {a K:S} {c aZ l m a7 bQ:Nat} {aC aX:List Nat} {Z:U} {L aT:Int}
theorem gN.b5(O:In .u64 L):a4 gN.id #[.int .u64 L] Z fun v aB=>bK Z aB∧gX Z aB v L.toNat:=o5 (F4 O).1 (F4 O).2 Z
theorem g0.b5(r:cL cA Z a c (D.aN a7))(N:l=(D.aN a7).length)(aG:cL cA Z K aZ (D.aN bQ))(f:m=(D.aN bQ).length)(b:(D.aN a7).length≤100000000)(b:(D.aN bQ).length≤100000000):a4 g0.id #[.slice a l c,.slice K m aZ] Z fun v aB=>bK Z aB∧gX Z aB v (a7+bQ):=CF r aG N f (by omega) (by omega)
theorem hE.b5(r:cL cA Z a c (D.aN a7))(N:l=(D.aN a7).length)(aG:cL cA Z K aZ (D.aN bQ))(f:m=(D.aN bQ).length):a4 hE.id #[.slice a l c,.slice K m aZ] Z fun v aB=>bK Z aB∧gX Z aB v (a7 - bQ):=FF r aG N f
theorem hS.b5(r:cL cA Z a c (D.aN a7))(N:l=(D.aN a7).length)(aG:cL cA Z K aZ (D.aN bQ))(f:m=(D.aN bQ).length)(b:(D.aN a7).length≤100000000)(b:(D.aN bQ).length≤100000000):a4 hS.id #[.slice a l c,.slice K m aZ] Z fun v aB=>bK Z aB∧gX Z aB v (a7*bQ):=Fz r aG N f (by omega) (by omega)
theorem jN.b5(r:cL cA Z a c (D.aN a7))(N:l=(D.aN a7).length)(aG:cL cA Z K aZ (D.aN bQ))(f:m=(D.aN bQ).length):a4 jN.id #[.slice a l c,.slice K m aZ] Z fun v aB=>bK Z aB∧n8 .i64 Z aB v (fU a7 bQ):=F3 (AP r aG N f) fun v aG=>⟨aG,KJ _ _⟩
theorem hY.b5(r:cL cA Z a c (D.aN a7))(N:l=(D.aN a7).length)(aG:cL cA Z K aZ (D.aN bQ))(f:m=(D.aN bQ).length)(b:(D.aN a7).length≤100000000):a4 hY.id #[.slice a l c,.slice K m aZ] Z fun v aB=>bK Z aB∧s2 gX gX Z aB v (oH a7 bQ):=FM r aG N f (by omega)
theorem pU.b5(r:cL cA Z a c (D.aN a7))(N:l=(D.aN a7).length)(O:In .i64 L):a4 pU.id #[.slice a l c,.int .i64 L] Z fun v aB=>bK Z aB∧n8 .i64 Z aB v (u7 a7 L):=F3 (Kb r N O) fun v aG=>⟨aG,by unfold u7;split <;> rw [sP] <;> omega⟩
theorem lK.b5(r:cL cA Z a c (D.aN a7))(N:l=(D.aN a7).length)(O:In .i64 L)(aE:0≤L):a4 lK.id #[.slice a l c,.int .i64 L] Z fun v aB=>bK Z aB∧gX Z aB v (a7 / 2 ^ L.toNat):=by
 rw [sP] at O;exact CK r N (n:=L.toNat) (by omega) (by omega)
theorem kG.b5(r:cL cA Z a c (D.aN a7))(N:l=(D.aN a7).length)(O:In .i64 L)(aE:0≤L)(b:(D.aN a7).length≤100000000):a4 kG.id #[.slice a l c,.int .i64 L] Z fun v aB=>bK Z aB∧gX Z aB v (a7 % 2 ^ L.toNat):=by
 rw [sP] at O;exact FC r N (n:=L.toNat) (by omega) (by omega) (by omega)
theorem lA.b5(r:cL cA Z a c (D.aN a7))(N:l=(D.aN a7).length)(O:In .i64 L)(aE:0≤L)(b:L≤35184372088832∨a7=0)(i:(D.aN a7).length≤100000000):a4 lA.id #[.slice a l c,.int .i64 L] Z fun v aB=>bK Z aB∧gX Z aB v (a7*2 ^ L.toNat):=by
 by_cases a2:L≤35184372088832
 ·exact AS r N (n:=L.toNat) (by omega) (by omega) (by omega)
 ·have d:a7=0:=by rcases b with b | b;exact absurd b a2;exact b
  subst d;subst N
  rw [Nat.zero_mul]
  refine lA.ok ?_
  unfold lA.t lA.aP.t
  have f:(D.aN 0).length=0:=by simp [D.e0]
  refine cE (fun a1=>absurd a1 (by omega)) fun a1=>?_
  refine gL (fun e=>?_) fun e=>absurd (by rw [f];rfl) e
  have d:D.val (D.aN 0)=0:=D.e9 0
  refine cD (oF r rfl) fun v aB ⟨g,aG⟩=>?_
  rw [d] at aG
  exact aG.elim fun bO bN h=>⟨g,bO,bN,rfl,h⟩
end
namespace lD
def aP.v(a:Bool)(b:Nat):Int:=
 bif (((((D.aN b).length:Nat):Int)) == (0:Int)) then
  (0:Int)
 else
  bif a then
   (-1:Int)
  else
   (1:Int)
theorem aP.b5{Y:aF}{a2 Z:U}(a:bK a2 Z){f:Bool}{h:S}{i j:Nat}{b:Nat}(n:cL cA Z h i (D.aN b))(k:j=(D.aN b).length)(g:h6 (n8 .i64) a2 Y (aP.v f b)):aP.t Y f h j i Z:=by
 subst k
 have c:=bK.refl Z
 unfold aP.v at g
 unfold aP.t
 refine fJ fun o d e=>?_
 have p:a2.size≤Z.size:=a.le
 have q:Z.size≤Z.size:=c.le
 have r:=d.lt
 have s:=e.c2
 have a:=a.trans e
 have c:=c.trans e
 refine dJ d (cB _ _) rfl ?_
 refine bL rfl ?_
 refine Cv g (fun l g=>?_) (fun l g=>?_)
 ·exact g _ _ a ⟨rfl,(show In .i64 (0:Int) by decide)⟩
 ·refine dJ d (cB _ _) rfl ?_
  refine dB rfl ?_
  refine yS g (fun m g=>?_) (fun m g=>?_)
  ·exact g _ _ a ⟨rfl,(show In .i64 (-1:Int) by decide)⟩
  ·exact g _ _ a ⟨rfl,(show In .i64 (1:Int) by decide)⟩
def v(a:Bool)(b:Nat):Int:=aP.v a b
theorem b5{Z:U}{a:Bool}{b:S}{c d:Nat}{e:Nat}(f:cL cA Z b c (D.aN e))(g:d=(D.aN e).length):a4 id #[.agg #[.bool a,.slice b d c]] Z fun b c=>bK Z c∧(n8 .i64) Z c b (v a e):=
 ok (aP.b5 (bK.refl _) f g fun v aB R aG=>⟨R,aG⟩)
end lD
namespace nQ
def aP.v(a:Bool)(b:Nat):(Bool × Nat):=
 gB (dV (dK (!a) b)) fun a=>
 (a.1,a.2)
theorem aP.b5{Y:aF}{a2 Z:U}(a:bK a2 Z){h:Bool}{q:S}{r s:Nat}{e:Nat}(y:cL cA Z q r (D.aN e))(z:s=(D.aN e).length)(g:h6 g5 a2 Y (aP.v h e)):aP.t Y h q s r Z:=by
 subst z
 have b:=bK.refl Z
 unfold aP.v at g
 unfold aP.t
 refine fJ fun i c k=>?_
 have H:a2.size≤Z.size:=a.le
 have I:Z.size≤Z.size:=b.le
 have J:=c.lt
 have A:=k.c2
 have a:=a.trans k
 have b:=b.trans k
 refine fJ fun B d j=>?_
 have u:Z.size ≠ i.size:=Nat.ne_of_lt c.lt
 have d:eM B (i.size) [.bool false,.slice none (D.aN 0).length 0]:=by rw [D.e0];exact d
 have w:a2.size≤i.size:=a.le
 have x:Z.size≤i.size:=b.le
 have P:=d.lt
 have C:=j.c2
 have c:=c.aU j
 have a:=a.trans j
 have b:=b.trans j
 refine dJ c (cB _ _) rfl ?_
 refine dB rfl ?_
 refine dJ c (cB _ _) rfl ?_
 refine bL rfl ?_
 refine cD (gE.bH (y.c2 (A.trans C)) rfl) fun v Q ⟨f,aG⟩=>?_
 obtain⟨T,l⟩:∃ p,p=dV (dK (!h) e):=⟨_,rfl⟩
 rw [← l] at aG
 replace g:=gR l g
 have E:=mH (!h) e
 rw [← l] at E
 obtain⟨V,Qx,rfl,m⟩:=aG
 refine fH rfl (cS (dB rfl (cS (bL rfl (eG (?_))))))
 have m:=m.from a.le
 have Qy:=f.c2
 have c:=c.aU f
 have d:=d.aU f
 have a:=a.trans f
 have b:=b.trans f
 refine e8 d (cB _ _) rfl fun Qz d n F=>?_
 have c:=c.cR u n
 have a:=cG.aU a n w
 have b:=cG.aU b n x
 refine e8 d (cB _ _) rfl fun QA d o G=>?_
 have c:=c.cR u o
 have a:=cG.aU a o w
 have b:=cG.aU b o x
 refine dJ d (cB _ _) rfl ?_
 refine dB rfl ?_
 refine dJ d (cB _ _) rfl ?_
 refine bL rfl ?_
 exact g _ _ a ⟨_,_,rfl,(m.c2 (F.trans G))⟩
def v(a:Bool)(b:Nat):(Bool × Nat):=aP.v a b
theorem b5{Z:U}{a:Bool}{b:S}{c d:Nat}{e:Nat}(f:cL cA Z b c (D.aN e))(g:d=(D.aN e).length):a4 id #[.agg #[.bool a,.slice b d c]] Z fun b c=>bK Z c∧g5 Z c b (v a e):=
 ok (aP.b5 (bK.refl _) f g fun v aB R aG=>⟨R,aG⟩)
end nQ
namespace mI
def aP.v(a:Bool)(b:Nat)(c:Bool)(d:Nat):(Bool × Nat):=
 bif (a == c) then
  gB (b+d) fun e=>
  gB (dV (dK a e)) fun e=>
  (e.1,e.2)
 else
  bif (decide ((fU b d)≥(0:Int))) then
   gB (b - d) fun e=>
   gB (dV (dK a e)) fun a=>
   (a.1,a.2)
  else
   gB (d - b) fun a=>
   gB (dV (dK c a)) fun a=>
   (a.1,a.2)
theorem aP.b5{Y:aF}{a2 Z:U}(a:bK a2 Z){s:Bool}{QJ:S}{QK QL:Nat}{n:Nat}(E:cL cA Z QJ QK (D.aN n))(QV:QL=(D.aN n).length)(Q8:(D.aN n).length≤1000000){F:Bool}{QM:S}{QN QO:Nat}{o:Nat}(G:cL cA Z QM QN (D.aN o))(QW:QO=(D.aN o).length)(Q9:(D.aN o).length≤1000000)(g:h6 g5 a2 Y (aP.v s n F o)):aP.t Y s QJ QL QK F QM QO QN Z:=by
 subst QV QW
 have d:=bK.refl Z
 have Ra:(D.aN 0).length=0:=by simp [D.e0]
 unfold aP.v at g
 unfold aP.t
 refine fJ fun H b Q=>?_
 have Rb:a2.size≤Z.size:=a.le
 have Rc:Z.size≤Z.size:=d.le
 have z:=b.lt
 have r:=Q.c2
 have a:=a.trans Q
 have d:=d.trans Q
 refine fJ fun A c I=>?_
 have Rd:Z.size ≠ H.size:=Nat.ne_of_lt b.lt
 have Re:a2.size≤H.size:=a.le
 have Rf:Z.size≤H.size:=d.le
 have J:=c.lt
 have l:=I.c2
 have b:=b.aU I
 have a:=a.trans I
 have d:=d.trans I
 refine fJ fun QX e B=>?_
 have u:Z.size ≠ A.size:=Nat.ne_of_lt b.lt
 have w:H.size ≠ A.size:=Nat.ne_of_lt c.lt
 have e:eM QX (A.size) [.bool false,.slice none (D.aN 0).length 0]:=by rw [D.e0];exact e
 have x:a2.size≤A.size:=a.le
 have y:Z.size≤A.size:=d.le
 have Rg:=e.lt
 have i:=B.c2
 have b:=b.aU B
 have c:=c.aU B
 have a:=a.trans B
 have d:=d.trans B
 refine dJ b (cB _ _) rfl ?_
 refine dB rfl ?_
 refine dJ c (cB _ _) rfl ?_
 refine dB rfl ?_
 refine yS g (fun QY g=>?_) (fun QY g=>?_)
 ·refine⟨iV (cB _ _) ((l.trans i).lt z),?_⟩
  refine dJ b (cB _ _) rfl ?_
  refine dB rfl ?_
  refine⟨iV (cB _ _) ((l.trans i).lt z),?_⟩
  refine dJ b (cB _ _) rfl ?_
  refine bL rfl ?_
  refine⟨iV (cB _ _) ((i).lt J),?_⟩
  refine dJ c (cB _ _) rfl ?_
  refine bL rfl ?_
  refine cD (g0.b5 (E.c2 (r.trans (l.trans i))) rfl (G.c2 (r.trans (l.trans i))) rfl (by first | assumption | decide | omega) (by first | assumption | decide | omega)) fun v QZ ⟨j,aG⟩=>?_
  obtain⟨QP,T⟩:∃ p,p=n+o:=⟨_,rfl⟩
  rw [← T] at aG
  replace g:=gR T g
  have Q0:=zA n o
  rw [← T] at Q0
  obtain⟨Rh,Ri,rfl,V⟩:=aG
  refine bL rfl (?_)
  have V:=V.from a.le
  have m:=j.c2
  have b:=b.aU j
  have c:=c.aU j
  have e:=e.aU j
  have a:=a.trans j
  have d:=d.trans j
  refine⟨j.gI (Nat.le_refl _),?_⟩
  refine cD (gE.bH V.rd rfl) fun v QQ ⟨f,aG⟩=>?_
  obtain⟨Rj,Qx⟩:∃ p,p=dV (dK s QP):=⟨_,rfl⟩
  rw [← Qx] at aG
  replace g:=gR Qx g
  have Q1:=mH s QP
  rw [← Qx] at Q1
  obtain⟨Rk,Rl,rfl,Qy⟩:=aG
  refine fH rfl (cS (dB rfl (cS (bL rfl (eG (?_))))))
  have Qy:=Qy.from a.le
  have P:=f.c2
  have b:=b.aU f
  have c:=c.aU f
  have e:=e.aU f
  have a:=a.trans f
  have d:=d.trans f
  refine⟨f.gI (m).le,?_⟩
  refine e8 e (cB _ _) rfl fun QR e h Qz=>?_
  have b:=b.cR u h
  have c:=c.cR w h
  have a:=cG.aU a h x
  have d:=cG.aU d h y
  refine e8 e (cB _ _) rfl fun QS e k C=>?_
  have b:=b.cR u k
  have c:=c.cR w k
  have a:=cG.aU a k x
  have d:=cG.aU d k y
  refine dJ e (cB _ _) rfl ?_
  refine dB rfl ?_
  refine dJ e (cB _ _) rfl ?_
  refine bL rfl ?_
  exact g _ _ a ⟨_,_,rfl,(Qy.c2 (Qz.trans C))⟩
 ·refine dJ b (cB _ _) rfl ?_
  refine bL rfl ?_
  refine dJ c (cB _ _) rfl ?_
  refine bL rfl ?_
  refine cD (jN.b5 (E.c2 (r.trans (l.trans i))) rfl (G.c2 (r.trans (l.trans i))) rfl) fun v QZ ⟨j,aG⟩=>?_
  obtain⟨rfl,Rm⟩:=aG
  refine b0 rfl (?_)
  have m:=j.c2
  have b:=b.aU j
  have c:=c.aU j
  have e:=e.aU j
  have a:=a.trans j
  have d:=d.trans j
  refine yT g (fun Q2 g=>?_) (fun Q2 g=>?_)
  ·refine⟨iV (cB _ _) ((l.trans (i.trans m)).lt z),?_⟩
   refine dJ b (cB _ _) rfl ?_
   refine dB rfl ?_
   refine⟨iV (cB _ _) ((l.trans (i.trans m)).lt z),?_⟩
   refine dJ b (cB _ _) rfl ?_
   refine bL rfl ?_
   refine⟨iV (cB _ _) ((i.trans m).lt J),?_⟩
   refine dJ c (cB _ _) rfl ?_
   refine bL rfl ?_
   refine cD (hE.b5 (E.c2 (r.trans (l.trans (i.trans m)))) rfl (G.c2 (r.trans (l.trans (i.trans m)))) rfl) fun v QQ ⟨f,aG⟩=>?_
   obtain⟨QT,QA⟩:∃ p,p=n - o:=⟨_,rfl⟩
   rw [← QA] at aG
   replace g:=gR QA g
   have Q3:=pA (Nat.sub_le n o)
   rw [← QA] at Q3
   obtain⟨Rn,Ro,rfl,QB⟩:=aG
   refine bL rfl (?_)
   have QB:=QB.from a.le
   have P:=f.c2
   have b:=b.aU f
   have c:=c.aU f
   have e:=e.aU f
   have a:=a.trans f
   have d:=d.trans f
   refine⟨f.gI (Nat.le_refl _),?_⟩
   refine cD (gE.bH QB.rd rfl) fun v QR ⟨h,aG⟩=>?_
   obtain⟨Rp,QC⟩:∃ p,p=dV (dK s QT):=⟨_,rfl⟩
   rw [← QC] at aG
   replace g:=gR QC g
   have Q4:=mH s QT
   rw [← QC] at Q4
   obtain⟨Rq,Rr,rfl,QD⟩:=aG
   refine fH rfl (cS (dB rfl (cS (bL rfl (eG (?_))))))
   have QD:=QD.from a.le
   have Qz:=h.c2
   have b:=b.aU h
   have c:=c.aU h
   have e:=e.aU h
   have a:=a.trans h
   have d:=d.trans h
   refine⟨h.gI (P).le,?_⟩
   refine e8 e (cB _ _) rfl fun QS e k C=>?_
   have b:=b.cR u k
   have c:=c.cR w k
   have a:=cG.aU a k x
   have d:=cG.aU d k y
   refine e8 e (cB _ _) rfl fun Q5 e q QE=>?_
   have b:=b.cR u q
   have c:=c.cR w q
   have a:=cG.aU a q x
   have d:=cG.aU d q y
   refine dJ e (cB _ _) rfl ?_
   refine dB rfl ?_
   refine dJ e (cB _ _) rfl ?_
   refine bL rfl ?_
   exact g _ _ a ⟨_,_,rfl,(QD.c2 (C.trans QE))⟩
  ·refine⟨iV (cB _ _) ((i.trans m).lt J),?_⟩
   refine dJ c (cB _ _) rfl ?_
   refine dB rfl ?_
   refine⟨iV (cB _ _) ((i.trans m).lt J),?_⟩
   refine dJ c (cB _ _) rfl ?_
   refine bL rfl ?_
   refine⟨iV (cB _ _) ((l.trans (i.trans m)).lt z),?_⟩
   refine dJ b (cB _ _) rfl ?_
   refine bL rfl ?_
   refine cD (hE.b5 (G.c2 (r.trans (l.trans (i.trans m)))) rfl (E.c2 (r.trans (l.trans (i.trans m)))) rfl) fun v QQ ⟨f,aG⟩=>?_
   obtain⟨QU,QF⟩:∃ p,p=o - n:=⟨_,rfl⟩
   rw [← QF] at aG
   replace g:=gR QF g
   have Q6:=pA (Nat.sub_le o n)
   rw [← QF] at Q6
   obtain⟨Rs,Rt,rfl,QG⟩:=aG
   refine bL rfl (?_)
   have QG:=QG.from a.le
   have P:=f.c2
   have b:=b.aU f
   have c:=c.aU f
   have e:=e.aU f
   have a:=a.trans f
   have d:=d.trans f
   refine⟨f.gI (Nat.le_refl _),?_⟩
   refine cD (gE.bH QG.rd rfl) fun v QR ⟨h,aG⟩=>?_
   obtain⟨Ru,QH⟩:∃ p,p=dV (dK F QU):=⟨_,rfl⟩
   rw [← QH] at aG
   replace g:=gR QH g
   have Q7:=mH F QU
   rw [← QH] at Q7
   obtain⟨Rv,Rw,rfl,QI⟩:=aG
   refine fH rfl (cS (dB rfl (cS (bL rfl (eG (?_))))))
   have QI:=QI.from a.le
   have Qz:=h.c2
   have b:=b.aU h
   have c:=c.aU h
   have e:=e.aU h
   have a:=a.trans h
   have d:=d.trans h
   refine⟨h.gI (P).le,?_⟩
   refine e8 e (cB _ _) rfl fun QS e k C=>?_
   have b:=b.cR u k
   have c:=c.cR w k
   have a:=cG.aU a k x
   have d:=cG.aU d k y
   refine e8 e (cB _ _) rfl fun Q5 e q QE=>?_
   have b:=b.cR u q
   have c:=c.cR w q
   have a:=cG.aU a q x
   have d:=cG.aU d q y
   refine dJ e (cB _ _) rfl ?_
   refine dB rfl ?_
   refine dJ e (cB _ _) rfl ?_
   refine bL rfl ?_
   exact g _ _ a ⟨_,_,rfl,(QI.c2 (C.trans QE))⟩
def v(a:Bool)(b:Nat)(c:Bool)(d:Nat):(Bool × Nat):=aP.v a b c d
theorem b5{Z:U}{a:Bool}{b:S}{c d:Nat}{e:Nat}(f:cL cA Z b c (D.aN e))(g:d=(D.aN e).length)(h:(D.aN e).length≤1000000){i:Bool}{j:S}{k l:Nat}{m:Nat}(n:cL cA Z j k (D.aN m))(o:l=(D.aN m).length)(p:(D.aN m).length≤1000000):a4 id #[.agg #[.bool a,.slice b d c],.agg #[.bool i,.slice j l k]] Z fun b c=>bK Z c∧g5 Z c b (v a e i m):=
 ok (aP.b5 (bK.refl _) f g h n o p fun v aB R aG=>⟨R,aG⟩)
end mI
namespace p0
def aP.v(a:Bool)(b:Nat)(c:Bool)(d:Nat):(Bool × Nat):=
 gB (b*d) fun b=>
 gB (dV (dK ((!(a == c))) b)) fun a=>
 (a.1,a.2)
theorem aP.b5{Y:aF}{a2 Z:U}(a:bK a2 Z){n:Bool}{C:S}{E F:Nat}{i:Nat}(QA:cL cA Z C E (D.aN i))(QB:F=(D.aN i).length)(QK:(D.aN i).length≤1000000){o:Bool}{G:S}{H I:Nat}{j:Nat}(QC:cL cA Z G H (D.aN j))(QD:I=(D.aN j).length)(QL:(D.aN j).length≤1000000)(g:h6 g5 a2 Y (aP.v n i o j)):aP.t Y n C F E o G I H Z:=by
 subst QB QD
 have b:=bK.refl Z
 have QM:(D.aN 0).length=0:=by simp [D.e0]
 unfold aP.v at g
 unfold aP.t
 refine fJ fun q c x=>?_
 have QN:a2.size≤Z.size:=a.le
 have QO:Z.size≤Z.size:=b.le
 have J:=c.lt
 have P:=x.c2
 have a:=a.trans x
 have b:=b.trans x
 refine fJ fun l d r=>?_
 have QP:Z.size ≠ q.size:=Nat.ne_of_lt c.lt
 have QQ:a2.size≤q.size:=a.le
 have QR:Z.size≤q.size:=b.le
 have Q:=d.lt
 have s:=r.c2
 have c:=c.aU r
 have a:=a.trans r
 have b:=b.trans r
 refine fJ fun QE e m=>?_
 have T:Z.size ≠ l.size:=Nat.ne_of_lt c.lt
 have V:q.size ≠ l.size:=Nat.ne_of_lt d.lt
 have e:eM QE (l.size) [.bool false,.slice none (D.aN 0).length 0]:=by rw [D.e0];exact e
 have Qx:a2.size≤l.size:=a.le
 have Qy:Z.size≤l.size:=b.le
 have QS:=e.lt
 have k:=m.c2
 have c:=c.aU m
 have d:=d.aU m
 have a:=a.trans m
 have b:=b.trans m
 refine⟨iV (cB _ _) ((s.trans k).lt J),?_⟩
 refine dJ c (cB _ _) rfl ?_
 refine dB rfl ?_
 refine⟨iV (cB _ _) ((k).lt Q),?_⟩
 refine dJ d (cB _ _) rfl ?_
 refine dB rfl ?_
 refine⟨iV (cB _ _) ((s.trans k).lt J),?_⟩
 refine dJ c (cB _ _) rfl ?_
 refine bL rfl ?_
 refine⟨iV (cB _ _) ((k).lt Q),?_⟩
 refine dJ d (cB _ _) rfl ?_
 refine bL rfl ?_
 refine cD (hS.b5 (QA.c2 (P.trans (s.trans k))) rfl (QC.c2 (P.trans (s.trans k))) rfl (by first | assumption | decide | omega) (by first | assumption | decide | omega)) fun v QT ⟨f,aG⟩=>?_
 obtain⟨Qz,y⟩:∃ p,p=i*j:=⟨_,rfl⟩
 rw [← y] at aG
 replace g:=gR y g
 have QF:=y9 i j
 rw [← y] at QF
 obtain⟨QU,QV,rfl,z⟩:=aG
 refine bL rfl (?_)
 have z:=z.from a.le
 have QG:=f.c2
 have c:=c.aU f
 have d:=d.aU f
 have e:=e.aU f
 have a:=a.trans f
 have b:=b.trans f
 refine⟨f.gI (Nat.le_refl _),?_⟩
 refine cD (gE.bH z.rd rfl) fun v QW ⟨h,aG⟩=>?_
 obtain⟨QX,A⟩:∃ p,p=dV (dK ((!(n == o))) Qz):=⟨_,rfl⟩
 rw [← A] at aG
 replace g:=gR A g
 have QH:=mH ((!(n == o))) Qz
 rw [← A] at QH
 obtain⟨QY,QZ,rfl,B⟩:=aG
 refine fH rfl (cS (dB rfl (cS (bL rfl (eG (?_))))))
 have B:=B.from a.le
 have Q0:=h.c2
 have c:=c.aU h
 have d:=d.aU h
 have e:=e.aU h
 have a:=a.trans h
 have b:=b.trans h
 refine⟨h.gI (QG).le,?_⟩
 refine e8 e (cB _ _) rfl fun Q1 e u QI=>?_
 have c:=c.cR T u
 have d:=d.cR V u
 have a:=cG.aU a u Qx
 have b:=cG.aU b u Qy
 refine e8 e (cB _ _) rfl fun Q2 e w QJ=>?_
 have c:=c.cR T w
 have d:=d.cR V w
 have a:=cG.aU a w Qx
 have b:=cG.aU b w Qy
 refine dJ e (cB _ _) rfl ?_
 refine dB rfl ?_
 refine dJ e (cB _ _) rfl ?_
 refine bL rfl ?_
 exact g _ _ a ⟨_,_,rfl,(B.c2 (QI.trans QJ))⟩
def v(a:Bool)(b:Nat)(c:Bool)(d:Nat):(Bool × Nat):=aP.v a b c d
theorem b5{Z:U}{a:Bool}{b:S}{c d:Nat}{e:Nat}(f:cL cA Z b c (D.aN e))(g:d=(D.aN e).length)(h:(D.aN e).length≤1000000){i:Bool}{j:S}{k l:Nat}{m:Nat}(n:cL cA Z j k (D.aN m))(o:l=(D.aN m).length)(p:(D.aN m).length≤1000000):a4 id #[.agg #[.bool a,.slice b d c],.agg #[.bool i,.slice j l k]] Z fun b c=>bK Z c∧g5 Z c b (v a e i m):=
 ok (aP.b5 (bK.refl _) f g h n o p fun v aB R aG=>⟨R,aG⟩)
end p0
namespace lZ
def aP.v(a:Bool)(b:Nat)(aS:Int):(Bool × Nat):=
 gB (b*2 ^ (Int.toNat aS)) fun b=>
 gB (dV (dK a b)) fun a=>
 (a.1,a.2)
theorem aP.b5{Y:aF}{a2 Z:U}(a:bK a2 Z){i:Bool}{u:S}{w x:Nat}{e:Nat}(F:cL cA Z u w (D.aN e))(G:x=(D.aN e).length)(Qx:(D.aN e).length≤1000000){aS:Int}(H:In .i64 aS)(Qy:0≤aS)(Qz:aS≤35184372088832∨e=0)(g:h6 g5 a2 Y (aP.v i e aS)):aP.t Y i u x w aS Z:=by
 subst G
 have b:=bK.refl Z
 have QA:(D.aN 0).length=0:=by simp [D.e0]
 unfold aP.v at g
 unfold aP.t
 refine fJ fun j c l=>?_
 have QB:a2.size≤Z.size:=a.le
 have QC:Z.size≤Z.size:=b.le
 have y:=c.lt
 have I:=l.c2
 have a:=a.trans l
 have b:=b.trans l
 refine fJ fun J d k=>?_
 have z:Z.size ≠ j.size:=Nat.ne_of_lt c.lt
 have d:eM J (j.size) [.bool false,.slice none (D.aN 0).length 0]:=by rw [D.e0];exact d
 have A:a2.size≤j.size:=a.le
 have B:Z.size≤j.size:=b.le
 have QD:=d.lt
 have m:=k.c2
 have c:=c.aU k
 have a:=a.trans k
 have b:=b.trans k
 refine⟨iV (cB _ _) ((m).lt y),?_⟩
 refine dJ c (cB _ _) rfl ?_
 refine dB rfl ?_
 refine⟨iV (cB _ _) ((m).lt y),?_⟩
 refine dJ c (cB _ _) rfl ?_
 refine bL rfl ?_
 refine cD (lA.b5 (F.c2 (I.trans m)) rfl H (by first | assumption | decide | omega) (by first | assumption | decide | omega) (by first | assumption | decide | omega)) fun v QE ⟨f,aG⟩=>?_
 obtain⟨C,E⟩:∃ p,p=e*2 ^ (Int.toNat aS):=⟨_,rfl⟩
 rw [← E] at aG
 replace g:=gR E g
 obtain⟨QF,QG,rfl,n⟩:=aG
 refine bL rfl (?_)
 have n:=n.from a.le
 have P:=f.c2
 have c:=c.aU f
 have d:=d.aU f
 have a:=a.trans f
 have b:=b.trans f
 refine⟨f.gI (Nat.le_refl _),?_⟩
 refine cD (gE.bH n.rd rfl) fun v QH ⟨h,aG⟩=>?_
 obtain⟨QI,o⟩:∃ p,p=dV (dK i C):=⟨_,rfl⟩
 rw [← o] at aG
 replace g:=gR o g
 have Q:=mH i C
 rw [← o] at Q
 obtain⟨QJ,QK,rfl,q⟩:=aG
 refine fH rfl (cS (dB rfl (cS (bL rfl (eG (?_))))))
 have q:=q.from a.le
 have QL:=h.c2
 have c:=c.aU h
 have d:=d.aU h
 have a:=a.trans h
 have b:=b.trans h
 refine⟨h.gI (P).le,?_⟩
 refine e8 d (cB _ _) rfl fun QM d r T=>?_
 have c:=c.cR z r
 have a:=cG.aU a r A
 have b:=cG.aU b r B
 refine e8 d (cB _ _) rfl fun QN d s V=>?_
 have c:=c.cR z s
 have a:=cG.aU a s A
 have b:=cG.aU b s B
 refine dJ d (cB _ _) rfl ?_
 refine dB rfl ?_
 refine dJ d (cB _ _) rfl ?_
 refine bL rfl ?_
 exact g _ _ a ⟨_,_,rfl,(q.c2 (T.trans V))⟩
def v(a:Bool)(b:Nat)(aS:Int):(Bool × Nat):=aP.v a b aS
theorem b5{Z:U}{a:Bool}{b:S}{c d:Nat}{e:Nat}(f:cL cA Z b c (D.aN e))(g:d=(D.aN e).length)(h:(D.aN e).length≤1000000){aS:Int}(i:In .i64 aS)(j:0≤aS)(k:aS≤35184372088832∨e=0):a4 id #[.agg #[.bool a,.slice b d c],.int .i64 aS] Z fun b c=>bK Z c∧g5 Z c b (v a e aS):=
 ok (aP.b5 (bK.refl _) f g h i j k fun v aB R aG=>⟨R,aG⟩)
end lZ
namespace pB
def a5.v(a:Bool)(a:Nat)(b:Bool)(b:Nat)(b:Bool)(b:Nat)(b:Nat)(c:Nat):((Bool × Nat) × (Bool × Nat)):=
 gB (Int.toNat (1:Int)) fun d=>
 gB (b+d) fun b=>
 gB (dV (dK true b)) fun b=>
 gB (a - c) fun a=>
 gB (dV (dK false a)) fun a=>
 ((b.1,b.2),(a.1,a.2))
theorem a5.b5{Y:aF}{a2 Z:U}(a:bK a2 Z){V:Bool}{Qx:S}{Qy:Nat}{m:Nat}(QT:cL cA Z Qx Qy (D.aN m))(Q5:(D.aN m).length≤10000000){q:Nat}(d:eM Z q [.bool V,.slice Qx (D.aN m).length Qy])(Q6:a2.size≤q){Qz:Bool}{QA:S}{QB:Nat}{s:Nat}(Q7:cX cA a2 Z QA QB (D.aN s))(Q8:(D.aN s).length≤10000000){fQ:Nat}(b:eM Z fQ [.bool Qz,.slice QA (D.aN s).length QB])(QC:a2.size≤fQ){QD:Bool}{QE:S}{QF:Nat}{u:Nat}(Q9:cX cA a2 Z QE QF (D.aN u))(Ra:(D.aN u).length≤10000000){hV:Nat}(c:eM Z hV [.bool QD,.slice QE (D.aN u).length QF])(QG:a2.size≤hV){bG:S}{bI QH:Nat}{n:Nat}(QU:cX cA a2 Z bG bI (D.aN n))(QV:QH=(D.aN n).length)(Rb:(D.aN n).length≤10000000){bX:S}{bY QI:Nat}{o:Nat}(QW:cX cA a2 Z bX bY (D.aN o))(QX:QI=(D.aN o).length)(Rc:(D.aN o).length≤10000000)(QJ:q ≠ fQ)(QK:q ≠ hV)(w:fQ ≠ hV)(g:h6 (s2 g5 g5) a2 Y (a5.v V m Qz s QD u n o)):a5.t Y (⟨q,0,none⟩:Addr) (⟨fQ,0,none⟩:Addr) (⟨hV,0,none⟩:Addr) bG QH bI bX QI bY Z:=by
 subst QV QX
 have e:=bK.refl Z
 have QY:=d.lt
 have Rd:=b.lt
 have Re:=c.lt
 have Rf:(D.aN 0).length=0:=by simp [D.e0]
 unfold a5.v at g
 unfold a5.t
 refine cD (gN.b5 (show In .u64 (1:Int) by decide)) fun v Rg ⟨f,aG⟩=>?_
 obtain⟨QL,y⟩:∃ p,p=Int.toNat (1:Int):=⟨_,rfl⟩
 rw [← y] at aG
 replace g:=gR y g
 have QZ:=Lx (show In .u64 (1:Int) by decide)
 rw [← y] at QZ
 obtain⟨Rh,Ri,rfl,z⟩:=aG
 refine bL rfl (?_)
 have z:=z.from a.le
 have h:=f.c2
 have d:=d.aU f
 have b:=b.aU f
 have c:=c.aU f
 have a:=a.trans f
 have e:=e.trans f
 refine⟨f.gI (Nat.le_refl _),?_⟩
 refine cD (g0.b5 (QU.c2 (h)).rd rfl z.rd rfl (by first | assumption | decide | omega) (by first | assumption | decide | omega)) fun v Rj ⟨i,aG⟩=>?_
 obtain⟨QM,A⟩:∃ p,p=n+QL:=⟨_,rfl⟩
 rw [← A] at aG
 replace g:=gR A g
 have Q0:=zA n QL
 rw [← A] at Q0
 obtain⟨Rk,Rl,rfl,B⟩:=aG
 refine bL rfl (?_)
 have B:=B.from a.le
 have r:=i.c2
 have d:=d.aU i
 have b:=b.aU i
 have c:=c.aU i
 have a:=a.trans i
 have e:=e.trans i
 refine⟨i.gI (h).le,?_⟩
 refine cD (gE.bH B.rd rfl) fun v Rm ⟨j,aG⟩=>?_
 obtain⟨Rn,C⟩:∃ p,p=dV (dK true QM):=⟨_,rfl⟩
 rw [← C] at aG
 replace g:=gR C g
 have Q1:=mH true QM
 rw [← C] at Q1
 obtain⟨Ro,Rp,rfl,E⟩:=aG
 refine fH rfl (cS (dB rfl (cS (bL rfl (eG (?_))))))
 have E:=E.from a.le
 have x:=j.c2
 have d:=d.aU j
 have b:=b.aU j
 have c:=c.aU j
 have a:=a.trans j
 have e:=e.trans j
 refine⟨j.gI (h.trans r).le,?_⟩
 refine⟨iV (cB _ _) (QY),?_⟩
 refine dJ d (cB _ _) rfl ?_
 refine bL rfl ?_
 refine cD (hE.b5 (QT.c2 (h.trans (r.trans x))) rfl (QW.c2 (h.trans (r.trans x))).rd rfl) fun v Rq ⟨k,aG⟩=>?_
 obtain⟨QN,F⟩:∃ p,p=m - o:=⟨_,rfl⟩
 rw [← F] at aG
 replace g:=gR F g
 have Q2:=pA (Nat.sub_le m o)
 rw [← F] at Q2
 obtain⟨Rr,Rs,rfl,G⟩:=aG
 refine bL rfl (?_)
 have G:=G.from a.le
 have QO:=k.c2
 have d:=d.aU k
 have b:=b.aU k
 have c:=c.aU k
 have a:=a.trans k
 have e:=e.trans k
 refine⟨k.gI (h.trans (r.trans x)).le,?_⟩
 refine cD (gE.bH G.rd rfl) fun v Rt ⟨l,aG⟩=>?_
 obtain⟨Ru,H⟩:∃ p,p=dV (dK false QN):=⟨_,rfl⟩
 rw [← H] at aG
 replace g:=gR H g
 have Q3:=mH false QN
 rw [← H] at Q3
 obtain⟨Rv,Rw,rfl,I⟩:=aG
 refine fH rfl (cS (dB rfl (cS (bL rfl (eG (?_))))))
 have I:=I.from a.le
 have Q4:=l.c2
 have d:=d.aU l
 have b:=b.aU l
 have c:=c.aU l
 have a:=a.trans l
 have e:=e.trans l
 refine⟨l.gI (h.trans (r.trans (x.trans QO))).le,?_⟩
 refine e8 b (cB _ _) rfl fun Rx b J QP=>?_
 have d:=d.cR QJ J
 have c:=c.cR (Ne.symm w) J
 have a:=cG.aU a J QC
 refine e8 b (cB _ _) rfl fun Ry b P QQ=>?_
 have d:=d.cR QJ P
 have c:=c.cR (Ne.symm w) P
 have a:=cG.aU a P QC
 refine e8 c (cB _ _) rfl fun Rz c Q QR=>?_
 have d:=d.cR QK Q
 have b:=b.cR w Q
 have a:=cG.aU a Q QG
 refine e8 c (cB _ _) rfl fun RA c T QS=>?_
 have d:=d.cR QK T
 have b:=b.cR w T
 have a:=cG.aU a T QG
 refine dJ b (cB _ _) rfl ?_
 refine dB rfl ?_
 refine dJ b (cB _ _) rfl ?_
 refine bL rfl ?_
 refine dJ c (cB _ _) rfl ?_
 refine dB rfl ?_
 refine dJ c (cB _ _) rfl ?_
 refine bL rfl ?_
 exact g _ _ a ⟨_,_,rfl,⟨_,_,rfl,(E.c2 (QO.trans (Q4.trans (QP.trans (QQ.trans (QR.trans QS))))))⟩,⟨_,_,rfl,(I.c2 (QP.trans (QQ.trans (QR.trans QS))))⟩⟩
def aP.v(a:Bool)(b:Nat)(c:Bool)(d:Nat):((Bool × Nat) × (Bool × Nat)):=
 gB (lD.v c d) fun e=>
 bif (decide (e≤(0:Int))) then
  ((false,0),(false,0))
 else
  gB (oH b d) fun b=>
  bif (!a) then
   gB (dV (dK a b.1)) fun e=>
   gB (dV (dK false b.2)) fun f=>
   ((e.1,e.2),(f.1,f.2))
  else
   bif (((((D.aN b.2).length:Nat):Int)) == (0:Int)) then
    gB (dV (dK a b.1)) fun a=>
    gB (dV (dK false b.2)) fun e=>
    ((a.1,a.2),(e.1,e.2))
   else
    a5.v c d false 0 false 0 b.1 b.2
theorem aP.b5{Y:aF}{a2 Z:U}(a:bK a2 Z){B:Bool}{QU:S}{QV QW:Nat}{s:Nat}(Q5:cL cA Z QU QV (D.aN s))(Q6:QW=(D.aN s).length)(Rn:(D.aN s).length≤1000000){QI:Bool}{QX:S}{QY QZ:Nat}{q:Nat}(QJ:cL cA Z QX QY (D.aN q))(Q7:QZ=(D.aN q).length)(Ro:(D.aN q).length≤1000000)(g:h6 (s2 g5 g5) a2 Y (aP.v B s QI q)):aP.t Y B QU QW QV QI QX QZ QY Z:=by
 subst Q6 Q7
 have d:=bK.refl Z
 have Rp:(D.aN 0).length=0:=by simp [D.e0]
 unfold aP.v at g
 unfold aP.t
 refine fJ fun P c QK=>?_
 have Rq:a2.size≤Z.size:=a.le
 have Rr:Z.size≤Z.size:=d.le
 have Rs:=c.lt
 have QA:=QK.c2
 have a:=a.trans QK
 have d:=d.trans QK
 refine fJ fun C f QB=>?_
 have Rt:Z.size ≠ P.size:=Nat.ne_of_lt c.lt
 have Q8:a2.size≤P.size:=a.le
 have Ru:Z.size≤P.size:=d.le
 have Rv:=f.lt
 have QC:=QB.c2
 have c:=c.aU QB
 have a:=a.trans QB
 have d:=d.trans QB
 refine fJ fun u b Q=>?_
 have E:Z.size ≠ C.size:=Nat.ne_of_lt c.lt
 have w:P.size ≠ C.size:=Nat.ne_of_lt f.lt
 have b:eM u (C.size) [.bool false,.slice none (D.aN 0).length 0]:=by rw [D.e0];exact b
 have x:a2.size≤C.size:=a.le
 have F:Z.size≤C.size:=d.le
 have Rw:=b.lt
 have QD:=Q.c2
 have c:=c.aU Q
 have f:=f.aU Q
 have a:=a.trans Q
 have d:=d.trans Q
 refine fJ fun Q9 e G=>?_
 have H:Z.size ≠ u.size:=Nat.ne_of_lt c.lt
 have y:P.size ≠ u.size:=Nat.ne_of_lt f.lt
 have k:C.size ≠ u.size:=Nat.ne_of_lt b.lt
 have e:eM Q9 (u.size) [.bool false,.slice none (D.aN 0).length 0]:=by rw [D.e0];exact e
 have z:a2.size≤u.size:=a.le
 have I:Z.size≤u.size:=d.le
 have Rx:=e.lt
 have QE:=G.c2
 have c:=c.aU G
 have f:=f.aU G
 have b:=b.aU G
 have a:=a.trans G
 have d:=d.trans G
 refine dJ f (cB _ _) rfl ?_
 refine dB rfl ?_
 refine dJ f (cB _ _) rfl ?_
 refine bL rfl ?_
 refine cD (lD.b5 (QJ.c2 (QA.trans (QC.trans (QD.trans QE)))) rfl) fun v Ry ⟨A,aG⟩=>?_
 obtain⟨Rz,Q0⟩:∃ p,p=lD.v QI q:=⟨_,rfl⟩
 rw [← Q0] at aG
 replace g:=gR Q0 g
 obtain⟨rfl,RA⟩:=aG
 refine b0 rfl (?_)
 have QL:=A.c2
 have c:=c.aU A
 have f:=f.aU A
 have b:=b.aU A
 have e:=e.aU A
 have a:=a.trans A
 have d:=d.trans A
 refine yT g (fun Ra g=>?_) (fun Ra g=>?_)
 ·refine e8 b (cB _ _) rfl fun Rb b l Q1=>?_
  have c:=c.cR E l
  have f:=f.cR w l
  have e:=e.cR (Ne.symm k) l
  have a:=cG.aU a l x
  have d:=cG.aU d l F
  refine e8 b (cB _ _) rfl fun Q2 b h QF=>?_
  have b:=b.GB
  have c:=c.cR E h
  have f:=f.cR w h
  have e:=e.cR (Ne.symm k) h
  have a:=cG.aU a h x
  have d:=cG.aU d h F
  refine e8 e (cB _ _) rfl fun Q3 e i QG=>?_
  have c:=c.cR H i
  have f:=f.cR y i
  have b:=b.cR k i
  have a:=cG.aU a i z
  have d:=cG.aU d i I
  refine e8 e (cB _ _) rfl fun Q4 e j J=>?_
  have e:=e.GB
  have c:=c.cR H j
  have f:=f.cR y j
  have b:=b.cR k j
  have a:=cG.aU a j z
  have d:=cG.aU d j I
  refine dJ b (cB _ _) rfl ?_
  refine dB rfl ?_
  refine dJ b (cB _ _) rfl ?_
  refine bL rfl ?_
  refine dJ e (cB _ _) rfl ?_
  refine dB rfl ?_
  refine dJ e (cB _ _) rfl ?_
  refine bL rfl ?_
  exact g _ _ a ⟨_,_,rfl,⟨_,_,rfl,(vL _ _)⟩,⟨_,_,rfl,(vL _ _)⟩⟩
 ·refine dJ c (cB _ _) rfl ?_
  refine bL rfl ?_
  refine dJ f (cB _ _) rfl ?_
  refine bL rfl ?_
  refine cD (hY.b5 (Q5.c2 (QA.trans (QC.trans (QD.trans (QE.trans QL))))) rfl (QJ.c2 (QA.trans (QC.trans (QD.trans (QE.trans QL))))) rfl (by first | assumption | decide | omega)) fun v Rb ⟨l,aG⟩=>?_
  obtain⟨r,QH⟩:∃ p,p=oH s q:=⟨_,rfl⟩
  rw [← QH] at aG
  replace g:=gR QH g
  have Rc:=Ly s q
  rw [← QH] at Rc
  have Rd:=Lz s q
  rw [← QH] at Rd
  obtain⟨_,_,rfl,⟨RB,RC,rfl,T⟩,⟨RD,RE,rfl,V⟩⟩:=aG
  refine gY rfl (cS (bL rfl (cS (bL rfl (eG (?_))))))
  have T:=T.from a.le
  have V:=V.from a.le
  have Q1:=l.c2
  have c:=c.aU l
  have f:=f.aU l
  have b:=b.aU l
  have e:=e.aU l
  have a:=a.trans l
  have d:=d.trans l
  refine dJ c (cB _ _) rfl ?_
  refine dB rfl ?_
  refine Fc g (fun Re g=>?_) (fun Re g=>?_)
  ·refine dJ c (cB _ _) rfl ?_
   refine dB rfl ?_
   refine cD (gE.bH T.rd rfl) fun v Q2 ⟨h,aG⟩=>?_
   obtain⟨RF,QM⟩:∃ p,p=dV (dK B r.1):=⟨_,rfl⟩
   rw [← QM] at aG
   replace g:=gR QM g
   have Rf:=mH B r.1
   rw [← QM] at Rf
   obtain⟨RG,RH,rfl,QN⟩:=aG
   refine fH rfl (cS (dB rfl (cS (bL rfl (eG (?_))))))
   have QN:=QN.from a.le
   have QF:=h.c2
   have c:=c.aU h
   have f:=f.aU h
   have b:=b.aU h
   have e:=e.aU h
   have a:=a.trans h
   have d:=d.trans h
   refine cD (gE.bH (V.c2 (QF)).rd rfl) fun v Q3 ⟨i,aG⟩=>?_
   obtain⟨RI,QO⟩:∃ p,p=dV (dK false r.2):=⟨_,rfl⟩
   rw [← QO] at aG
   replace g:=gR QO g
   have Rg:=mH false r.2
   rw [← QO] at Rg
   obtain⟨RJ,RK,rfl,QP⟩:=aG
   refine fH rfl (cS (dB rfl (cS (bL rfl (eG (?_))))))
   have QP:=QP.from a.le
   have QG:=i.c2
   have c:=c.aU i
   have f:=f.aU i
   have b:=b.aU i
   have e:=e.aU i
   have a:=a.trans i
   have d:=d.trans i
   refine e8 b (cB _ _) rfl fun Q4 b j J=>?_
   have c:=c.cR E j
   have f:=f.cR w j
   have e:=e.cR (Ne.symm k) j
   have a:=cG.aU a j x
   have d:=cG.aU d j F
   refine e8 b (cB _ _) rfl fun Rh b m Qx=>?_
   have c:=c.cR E m
   have f:=f.cR w m
   have e:=e.cR (Ne.symm k) m
   have a:=cG.aU a m x
   have d:=cG.aU d m F
   refine e8 e (cB _ _) rfl fun Ri e n Qy=>?_
   have c:=c.cR H n
   have f:=f.cR y n
   have b:=b.cR k n
   have a:=cG.aU a n z
   have d:=cG.aU d n I
   refine e8 e (cB _ _) rfl fun Rj e o Qz=>?_
   have c:=c.cR H o
   have f:=f.cR y o
   have b:=b.cR k o
   have a:=cG.aU a o z
   have d:=cG.aU d o I
   refine dJ b (cB _ _) rfl ?_
   refine dB rfl ?_
   refine dJ b (cB _ _) rfl ?_
   refine bL rfl ?_
   refine dJ e (cB _ _) rfl ?_
   refine dB rfl ?_
   refine dJ e (cB _ _) rfl ?_
   refine bL rfl ?_
   exact g _ _ a ⟨_,_,rfl,⟨_,_,rfl,(QN.c2 (QG.trans (J.trans (Qx.trans (Qy.trans Qz)))))⟩,⟨_,_,rfl,(QP.c2 (J.trans (Qx.trans (Qy.trans Qz))))⟩⟩
  ·refine Cv g (fun Rk g=>?_) (fun Rk g=>?_)
   ·refine dJ c (cB _ _) rfl ?_
    refine dB rfl ?_
    refine cD (gE.bH T.rd rfl) fun v Q2 ⟨h,aG⟩=>?_
    obtain⟨RL,QQ⟩:∃ p,p=dV (dK B r.1):=⟨_,rfl⟩
    rw [← QQ] at aG
    replace g:=gR QQ g
    have Rl:=mH B r.1
    rw [← QQ] at Rl
    obtain⟨RM,RN,rfl,QR⟩:=aG
    refine fH rfl (cS (dB rfl (cS (bL rfl (eG (?_))))))
    have QR:=QR.from a.le
    have QF:=h.c2
    have c:=c.aU h
    have f:=f.aU h
    have b:=b.aU h
    have e:=e.aU h
    have a:=a.trans h
    have d:=d.trans h
    refine cD (gE.bH (V.c2 (QF)).rd rfl) fun v Q3 ⟨i,aG⟩=>?_
    obtain⟨RO,QS⟩:∃ p,p=dV (dK false r.2):=⟨_,rfl⟩
    rw [← QS] at aG
    replace g:=gR QS g
    have Rm:=mH false r.2
    rw [← QS] at Rm
    obtain⟨RP,RQ,rfl,QT⟩:=aG
    refine fH rfl (cS (dB rfl (cS (bL rfl (eG (?_))))))
    have QT:=QT.from a.le
    have QG:=i.c2
    have c:=c.aU i
    have f:=f.aU i
    have b:=b.aU i
    have e:=e.aU i
    have a:=a.trans i
    have d:=d.trans i
    refine e8 b (cB _ _) rfl fun Q4 b j J=>?_
    have c:=c.cR E j
    have f:=f.cR w j
    have e:=e.cR (Ne.symm k) j
    have a:=cG.aU a j x
    have d:=cG.aU d j F
    refine e8 b (cB _ _) rfl fun Rh b m Qx=>?_
    have c:=c.cR E m
    have f:=f.cR w m
    have e:=e.cR (Ne.symm k) m
    have a:=cG.aU a m x
    have d:=cG.aU d m F
    refine e8 e (cB _ _) rfl fun Ri e n Qy=>?_
    have c:=c.cR H n
    have f:=f.cR y n
    have b:=b.cR k n
    have a:=cG.aU a n z
    have d:=cG.aU d n I
    refine e8 e (cB _ _) rfl fun Rj e o Qz=>?_
    have c:=c.cR H o
    have f:=f.cR y o
    have b:=b.cR k o
    have a:=cG.aU a o z
    have d:=cG.aU d o I
    refine dJ b (cB _ _) rfl ?_
    refine dB rfl ?_
    refine dJ b (cB _ _) rfl ?_
    refine bL rfl ?_
    refine dJ e (cB _ _) rfl ?_
    refine dB rfl ?_
    refine dJ e (cB _ _) rfl ?_
    refine bL rfl ?_
    exact g _ _ a ⟨_,_,rfl,⟨_,_,rfl,(QR.c2 (QG.trans (J.trans (Qx.trans (Qy.trans Qz)))))⟩,⟨_,_,rfl,(QT.c2 (J.trans (Qx.trans (Qy.trans Qz))))⟩⟩
   ·exact a5.b5 a (QJ.c2 (QA.trans (QC.trans (QD.trans (QE.trans (QL.trans Q1)))))) (by first | assumption | decide | omega) f Q8 (vL _ _) (by first | assumption | decide | omega) b x (vL _ _) (by first | assumption | decide | omega) e z T rfl (by first | assumption | decide | omega) V rfl (by first | assumption | decide | omega) w y k g
def v(a:Bool)(b:Nat)(c:Bool)(d:Nat):((Bool × Nat) × (Bool × Nat)):=aP.v a b c d
theorem b5{Z:U}{a:Bool}{b:S}{c d:Nat}{e:Nat}(f:cL cA Z b c (D.aN e))(g:d=(D.aN e).length)(h:(D.aN e).length≤1000000){i:Bool}{j:S}{k l:Nat}{m:Nat}(n:cL cA Z j k (D.aN m))(o:l=(D.aN m).length)(p:(D.aN m).length≤1000000):a4 id #[.agg #[.bool a,.slice b d c],.agg #[.bool i,.slice j l k]] Z fun b c=>bK Z c∧(s2 g5 g5) Z c b (v a e i m):=
 ok (aP.b5 (bK.refl _) f g h n o p fun v aB R aG=>⟨R,aG⟩)
end pB
namespace pC
def aP.v(a:Bool)(a:Nat):Bool:=
 (((u7 a (0:Int))) == (0:Int))
theorem aP.b5{Y:aF}{a2 Z:U}(a:bK a2 Z){h:Bool}{i:S}{j k:Nat}{e:Nat}(l:cL cA Z i j (D.aN e))(m:k=(D.aN e).length)(g:h6 AJ a2 Y (aP.v h e)):aP.t Y h i k j Z:=by
 subst m
 have b:=bK.refl Z
 unfold aP.v at g
 unfold aP.t
 refine fJ fun o c f=>?_
 have p:a2.size≤Z.size:=a.le
 have q:Z.size≤Z.size:=b.le
 have r:=c.lt
 have n:=f.c2
 have a:=a.trans f
 have b:=b.trans f
 refine dJ c (cB _ _) rfl ?_
 refine bL rfl ?_
 refine cD (pU.b5 (l.c2 (n)) rfl (show In .i64 (0:Int) by decide)) fun v s ⟨d,aG⟩=>?_
 obtain⟨rfl,u⟩:=aG
 refine b0 rfl (?_)
 have w:=d.c2
 have c:=c.aU d
 have a:=a.trans d
 have b:=b.trans d
 exact g _ _ a rfl
def v(a:Bool)(b:Nat):Bool:=aP.v a b
theorem b5{Z:U}{a:Bool}{b:S}{c d:Nat}{e:Nat}(f:cL cA Z b c (D.aN e))(g:d=(D.aN e).length):a4 id #[.agg #[.bool a,.slice b d c]] Z fun b c=>bK Z c∧AJ Z c b (v a e):=
 ok (aP.b5 (bK.refl _) f g fun v aB R aG=>⟨R,aG⟩)
end pC
theorem nR(K:Bool)(a7:Nat):c7 (K,a7)=dK K a7:=rfl
theorem GF(K:Bool)(a7:Nat):lD.v K a7=hZ (c7 (K,a7)) 0:=by
 unfold lD.v lD.aP.v
 rw [nR]
 by_cases Z:a7=0
 ·have N:(((D.aN a7).length:Int) == 0)=true:=by have:=(s9 a7).mpr Z;rw [this];rfl
  rw [N,Z,qX];rfl
 ·have N:(((D.aN a7).length:Int) == 0)=false:=by
   have:=mt (s9 a7).mp Z
   simp only [beq_eq_false_iff_ne,ne_eq];omega
  rw [N]
  cases K
  ·have:¬ dK false a7 < 0:=by unfold dK;simp
   have a:dK false a7 ≠ 0:=fun N=>Z (C2.mp N)
   simp [hZ,this,a]
  ·have:dK true a7 < 0:=by unfold dK;simp;omega
   simp [hZ,this]
theorem LG(K:Bool)(a7:Nat):nQ.v K a7=dV (-c7 (K,a7)):=by
 rw [nR,C0];rfl
theorem LH{m n:Nat}:decide (fU m n≥0)=decide (n≤m):=by
 unfold fU
 by_cases Z:m < n
 ·simp [Z]
 ·rw [if_neg Z];split <;> simp <;> omega
theorem LI(K c:Bool)(a7 bQ:Nat):mI.v K a7 c bQ=dV (c7 (K,a7)+c7 (c,bQ)):=by
 rw [nR,nR]
 unfold mI.v mI.aP.v
 by_cases Z:K=c
 ·subst Z
  rw [Lk];simp only [beq_self_eq_true,cond_true];rfl
 ·have N:(K == c)=false:=by simp [Z]
  rw [N,cond_false,LH]
  by_cases a:bQ≤a7
  ·rw [Gu Z a];simp only [a,decide_true,cond_true];rfl
  ·rw [Int.add_comm,Gu (fun N=>Z N.symm) (by omega)];simp only [a,decide_false,cond_false];rfl
theorem LJ(K c:Bool)(a7 bQ:Nat):p0.v K a7 c bQ=dV (c7 (K,a7)*c7 (c,bQ)):=by
 rw [nR,nR,C1]
 have:xor K c=(!(K == c)):=by cases K <;> cases c <;> rfl
 rw [this];rfl
theorem LK(K:Bool)(a7:Nat)(n:Int):lZ.v K a7 n=dV (c7 (K,a7)*2 ^ n.toNat):=by
 rw [nR,Lm];rfl
theorem GG{a K:Int}(Z:0 < K):oM a K=(dV (h2 a K),dV (rT a K)):=by
 unfold oM rT
 rw [if_neg (by omega),GD Z,Int.emod_def]
theorem LL(K c:Bool)(a7 bQ:Nat):pB.v K a7 c bQ=oM (c7 (K,a7)) (c7 (c,bQ)):=by
 unfold pB.v pB.aP.v
 rw [GF,nR,nR]
 simp only [gB]
 by_cases Z:dK c bQ≤0
 ·have:decide (hZ (dK c bQ) 0≤0)=true:=by
   apply decide_eq_true;unfold hZ;split
   ·decide
   ·rw [if_pos (by omega)];decide
  rw [this,cond_true]
  unfold oM;rw [if_pos Z]
 ·have:decide (hZ (dK c bQ) 0≤0)=false:=by
   apply decide_eq_false;unfold hZ;rw [if_neg (by omega),if_neg (by omega)];decide
  rw [this,cond_false,GG (by omega)]
  have f:c=false:=by
   cases c
   ·rfl
   ·exfalso;apply Z;unfold dK;simp
  subst f
  have d:bQ ≠ 0:=fun N=>Z (by subst N;rw [qX];exact Int.le_refl _)
  have g:oH a7 bQ=(a7 / bQ,a7 % bQ):=by unfold oH;rw [if_neg d]
  rw [g]
  by_cases e:a7=0
  ·subst e
   rw [qX,C4,Lp,Nat.zero_div,Nat.zero_mod]
   have b:(((D.aN 0).length:Int) == 0)=true:=by rw [(s9 0).mpr rfl];rfl
   cases K
   ·simp only [Bool.not_false,cond_true,qX]
   ·simp only [Bool.not_true,cond_false,b,cond_true,qX]
  ·rw [y8 d fun _=>e,Gy d fun _=>e,Bool.xor_false]
   cases K
   ·simp only [Bool.not_false,cond_true,Bool.false_eq_true,false_and,if_false]
   ·simp only [Bool.not_true,cond_false,true_and]
    by_cases a:a7 % bQ=0
    ·have b:(((D.aN (a7 % bQ)).length:Int) == 0)=true:=by rw [(s9 _).mpr a];rfl
     rw [b,cond_true,if_neg (by simp [a]),if_neg (by simp [a])]
    ·have b:(((D.aN (a7 % bQ)).length:Int) == 0)=false:=by
      have:=mt (s9 (a7 % bQ)).mp a
      simp only [beq_eq_false_iff_ne,ne_eq];omega
     rw [b,cond_false,if_pos a,if_pos a]
     rfl
theorem LM(K:Bool)(a7:Nat):pC.v K a7=decide (a7 % 2=0):=by
 unfold pC.v pC.aP.v u7
 rw [if_neg (by decide)]
 simp only [Int.toNat_zero,Nat.pow_zero,Nat.div_one]
 rcases Nat.mod_two_eq_zero_or_one a7 with Z | Z <;> rw [Z] <;> rfl
section
variable {a K:S} {c aZ l m a7 bQ:Nat} {aC aX:List Nat} {Z:U} {L aT:Int} {p aI:Bool}
theorem lD.bH(r:cL cA Z a c (D.aN a7))(N:l=(D.aN a7).length):a4 lD.id #[.agg #[.bool p,.slice a l c]] Z fun v aB=>bK Z aB∧n8 .i64 Z aB v (hZ (c7 (p,a7)) 0):=by rw [← GF];exact lD.b5 r N
theorem nQ.bH(r:cL cA Z a c (D.aN a7))(N:l=(D.aN a7).length):a4 nQ.id #[.agg #[.bool p,.slice a l c]] Z fun v aB=>bK Z aB∧g5 Z aB v (dV (-c7 (p,a7))):=by rw [← LG];exact nQ.b5 r N
theorem mI.bH(r:cL cA Z a c (D.aN a7))(N:l=(D.aN a7).length)(aG:cL cA Z K aZ (D.aN bQ))(f:m=(D.aN bQ).length)(b:(D.aN a7).length≤1000000)(d:(D.aN bQ).length≤1000000):a4 mI.id #[.agg #[.bool p,.slice a l c],.agg #[.bool aI,.slice K m aZ]] Z fun v aB=>bK Z aB∧g5 Z aB v (dV (c7 (p,a7)+c7 (aI,bQ))):=by rw [← LI];exact mI.b5 r N b aG f d
theorem p0.bH(r:cL cA Z a c (D.aN a7))(N:l=(D.aN a7).length)(aG:cL cA Z K aZ (D.aN bQ))(f:m=(D.aN bQ).length)(b:(D.aN a7).length≤1000000)(d:(D.aN bQ).length≤1000000):a4 p0.id #[.agg #[.bool p,.slice a l c],.agg #[.bool aI,.slice K m aZ]] Z fun v aB=>bK Z aB∧g5 Z aB v (dV (c7 (p,a7)*c7 (aI,bQ))):=by rw [← LJ];exact p0.b5 r N b aG f d
theorem lZ.bH(r:cL cA Z a c (D.aN a7))(N:l=(D.aN a7).length)(O:In .i64 L)(b:(D.aN a7).length≤1000000)(d:0≤L)(e:L≤35184372088832∨hZ (c7 (p,a7)) 0=0):a4 lZ.id #[.agg #[.bool p,.slice a l c],.int .i64 L] Z fun v aB=>bK Z aB∧g5 Z aB v (dV (c7 (p,a7)*2 ^ L.toNat)):=by rw [← LK];exact lZ.b5 r N b O d (e.imp (fun bS=>bS) fun bS=>by
  have:(hZ (c7 (p,a7)) 0 == 0)=true:=by rw [bS];rfl
  rw [Lw] at this
  exact C2.mp (of_decide_eq_true this))
theorem pB.bH(r:cL cA Z a c (D.aN a7))(N:l=(D.aN a7).length)(aG:cL cA Z K aZ (D.aN bQ))(f:m=(D.aN bQ).length)(b:(D.aN a7).length≤1000000)(d:(D.aN bQ).length≤1000000):a4 pB.id #[.agg #[.bool p,.slice a l c],.agg #[.bool aI,.slice K m aZ]] Z fun v aB=>bK Z aB∧s2 g5 g5 Z aB v (oM (c7 (p,a7)) (c7 (aI,bQ))):=by rw [← LL];exact pB.b5 r N b aG f d
theorem pC.bH(r:cL cA Z a c (D.aN a7))(N:l=(D.aN a7).length):a4 pC.id #[.agg #[.bool p,.slice a l c]] Z fun v aB=>bK Z aB∧AJ Z aB v (decide (a7 % 2=0)):=by rw [← LM p];exact pC.b5 r N
end
namespace l0
def aP.v(a:Bool)(b:Nat)(c:Bool)(d:Nat):(Bool × Nat):=
 gB (dV (-c7 (c,d))) fun c=>
 gB (dV (c7 (a,b)+c7 (c.1,c.2))) fun a=>
 (a.1,a.2)
theorem aP.b5{Y:aF}{a2 Z:U}(a:bK a2 Z){m:Bool}{E:S}{F G:Nat}{i:Nat}(Qz:cL cA Z E F (D.aN i))(QA:G=(D.aN i).length)(QK:(D.aN i).length≤1000000){n:Bool}{H:S}{I J:Nat}{j:Nat}(QB:cL cA Z H I (D.aN j))(QC:J=(D.aN j).length)(QL:(D.aN j).length≤1000000)(g:h6 g5 a2 Y (aP.v m i n j)):aP.t Y m E G F n H J I Z:=by
 subst QA QC
 have b:=bK.refl Z
 have QM:(D.aN 0).length=0:=by simp [D.e0]
 unfold aP.v at g
 unfold aP.t
 refine fJ fun o c x=>?_
 have QN:a2.size≤Z.size:=a.le
 have QO:Z.size≤Z.size:=b.le
 have QD:=c.lt
 have P:=x.c2
 have a:=a.trans x
 have b:=b.trans x
 refine fJ fun k d q=>?_
 have QP:Z.size ≠ o.size:=Nat.ne_of_lt c.lt
 have QQ:a2.size≤o.size:=a.le
 have QR:Z.size≤o.size:=b.le
 have QE:=d.lt
 have y:=q.c2
 have c:=c.aU q
 have a:=a.trans q
 have b:=b.trans q
 refine fJ fun QF e l=>?_
 have Q:Z.size ≠ k.size:=Nat.ne_of_lt c.lt
 have T:o.size ≠ k.size:=Nat.ne_of_lt d.lt
 have e:eM QF (k.size) [.bool false,.slice none (D.aN 0).length 0]:=by rw [D.e0];exact e
 have V:a2.size≤k.size:=a.le
 have Qx:Z.size≤k.size:=b.le
 have QS:=e.lt
 have r:=l.c2
 have c:=c.aU l
 have d:=d.aU l
 have a:=a.trans l
 have b:=b.trans l
 refine⟨iV rfl ((y.trans r).lt QD),?_⟩
 refine dJ c (cB _ _) rfl ?_
 refine dB rfl ?_
 refine dJ c (cB _ _) rfl ?_
 refine bL rfl ?_
 refine⟨iV rfl ((r).lt QE),?_⟩
 refine dJ d (cB _ _) rfl ?_
 refine dB rfl ?_
 refine dJ d (cB _ _) rfl ?_
 refine bL rfl ?_
 refine cD (nQ.bH (QB.c2 (P.trans (y.trans r))) rfl) fun v QT ⟨f,aG⟩=>?_
 obtain⟨s,z⟩:∃ p,p=dV (-c7 (n,j)):=⟨_,rfl⟩
 rw [← z] at aG
 replace g:=gR z g
 have QG:=C7 n j
 rw [← z] at QG
 obtain⟨QU,QV,rfl,A⟩:=aG
 refine fH rfl (cS (dB rfl (cS (bL rfl (eG (?_))))))
 have A:=A.from a.le
 have Qy:=f.c2
 have c:=c.aU f
 have d:=d.aU f
 have e:=e.aU f
 have a:=a.trans f
 have b:=b.trans f
 refine⟨f.gI (Nat.le_refl _),?_⟩
 refine cD (mI.bH (Qz.c2 (P.trans (y.trans (r.trans Qy)))) rfl A.rd rfl (by first | assumption | decide | omega) (by first | assumption | decide | omega)) fun v QW ⟨h,aG⟩=>?_
 obtain⟨QX,B⟩:∃ p,p=dV (c7 (m,i)+c7 (s.1,s.2)):=⟨_,rfl⟩
 rw [← B] at aG
 replace g:=gR B g
 have QH:=C8 m i s.1 s.2
 rw [← B] at QH
 obtain⟨QY,QZ,rfl,C⟩:=aG
 refine fH rfl (cS (dB rfl (cS (bL rfl (eG (?_))))))
 have C:=C.from a.le
 have Q0:=h.c2
 have c:=c.aU h
 have d:=d.aU h
 have e:=e.aU h
 have a:=a.trans h
 have b:=b.trans h
 refine⟨h.gI (Qy).le,?_⟩
 refine e8 e (cB _ _) rfl fun Q1 e u QI=>?_
 have c:=c.cR Q u
 have d:=d.cR T u
 have a:=cG.aU a u V
 have b:=cG.aU b u Qx
 refine e8 e (cB _ _) rfl fun Q2 e w QJ=>?_
 have c:=c.cR Q w
 have d:=d.cR T w
 have a:=cG.aU a w V
 have b:=cG.aU b w Qx
 refine dJ e (cB _ _) rfl ?_
 refine dB rfl ?_
 refine dJ e (cB _ _) rfl ?_
 refine bL rfl ?_
 exact g _ _ a ⟨_,_,rfl,(C.c2 (QI.trans QJ))⟩
def v(a:Bool)(b:Nat)(c:Bool)(d:Nat):(Bool × Nat):=aP.v a b c d
theorem b5{Z:U}{a:Bool}{b:S}{c d:Nat}{e:Nat}(f:cL cA Z b c (D.aN e))(g:d=(D.aN e).length)(h:(D.aN e).length≤1000000){i:Bool}{j:S}{k l:Nat}{m:Nat}(n:cL cA Z j k (D.aN m))(o:l=(D.aN m).length)(p:(D.aN m).length≤1000000):a4 id #[.agg #[.bool a,.slice b d c],.agg #[.bool i,.slice j l k]] Z fun b c=>bK Z c∧g5 Z c b (v a e i m):=
 ok (aP.b5 (bK.refl _) f g h n o p fun v aB R aG=>⟨R,aG⟩)
end l0
theorem LN(K c:Bool)(a7 bQ:Nat):l0.v K a7 c bQ=dV (c7 (K,a7) - c7 (c,bQ)):=by
 unfold l0.v l0.aP.v
 simp only [gB]
 have N:c7 ((dV (-c7 (c,bQ))).1,(dV (-c7 (c,bQ))).2)=-c7 (c,bQ):=y7 _
 rw [N,← Int.sub_eq_add_neg]
theorem LO:dV 0=(false,0):=rfl
section
variable {a K:S} {c aZ l m a7 bQ:Nat} {aC aX:List Nat} {Z:U} {L aT:Int} {p aI:Bool}
theorem l0.bH(r:cL cA Z a c (D.aN a7))(N:l=(D.aN a7).length)(aG:cL cA Z K aZ (D.aN bQ))(f:m=(D.aN bQ).length)(b:(D.aN a7).length≤1000000)(d:(D.aN bQ).length≤1000000):a4 l0.id #[.agg #[.bool p,.slice a l c],.agg #[.bool aI,.slice K m aZ]] Z fun v aB=>bK Z aB∧g5 Z aB v (dV (c7 (p,a7) - c7 (aI,bQ))):=by rw [← LN];exact l0.b5 r N b aG f d
end
namespace m2
def aP.v(a:Bool)(b:Nat)(c:Bool)(d:Nat):Int:=
 gB (dV (c7 (a,b) - c7 (c,d))) fun a=>
 (hZ (c7 (a.1,a.2)) 0)
theorem aP.b5{Y:aF}{a2 Z:U}(a:bK a2 Z){j:Bool}{r:S}{s u:Nat}{e:Nat}(B:cL cA Z r s (D.aN e))(C:u=(D.aN e).length)(I:(D.aN e).length≤700000){k:Bool}{w:S}{x y:Nat}{f:Nat}(E:cL cA Z w x (D.aN f))(F:y=(D.aN f).length)(J:(D.aN f).length≤700000)(g:h6 (n8 .i64) a2 Y (aP.v j e k f)):aP.t Y j r u s k w y x Z:=by
 subst C F
 have b:=bK.refl Z
 have P:(D.aN 0).length=0:=by simp [D.e0]
 unfold aP.v at g
 unfold aP.t
 refine fJ fun m c n=>?_
 have Q:a2.size≤Z.size:=a.le
 have T:Z.size≤Z.size:=b.le
 have V:=c.lt
 have z:=n.c2
 have a:=a.trans n
 have b:=b.trans n
 refine fJ fun Qx d l=>?_
 have Qy:Z.size ≠ m.size:=Nat.ne_of_lt c.lt
 have Qz:a2.size≤m.size:=a.le
 have QA:Z.size≤m.size:=b.le
 have QB:=d.lt
 have A:=l.c2
 have c:=c.aU l
 have a:=a.trans l
 have b:=b.trans l
 refine dJ c (cB _ _) rfl ?_
 refine dB rfl ?_
 refine dJ c (cB _ _) rfl ?_
 refine bL rfl ?_
 refine dJ d (cB _ _) rfl ?_
 refine dB rfl ?_
 refine dJ d (cB _ _) rfl ?_
 refine bL rfl ?_
 refine cD (l0.bH (B.c2 (z.trans A)) rfl (E.c2 (z.trans A)) rfl (by first | assumption | decide | omega) (by first | assumption | decide | omega)) fun v QC ⟨h,aG⟩=>?_
 obtain⟨QD,o⟩:∃ p,p=dV (c7 (j,e) - c7 (k,f)):=⟨_,rfl⟩
 rw [← o] at aG
 replace g:=gR o g
 have G:=GC j e k f
 rw [← o] at G
 obtain⟨QE,QF,rfl,q⟩:=aG
 refine fH rfl (cS (dB rfl (cS (bL rfl (eG (?_))))))
 have q:=q.from a.le
 have QG:=h.c2
 have c:=c.aU h
 have d:=d.aU h
 have a:=a.trans h
 have b:=b.trans h
 refine cD (lD.bH q.rd rfl) fun v QH ⟨i,aG⟩=>?_
 obtain⟨rfl,H⟩:=aG
 refine b0 rfl (?_)
 have QI:=i.c2
 have c:=c.aU i
 have d:=d.aU i
 have a:=a.trans i
 have b:=b.trans i
 exact g _ _ a ⟨rfl,H⟩
def v(a:Bool)(b:Nat)(c:Bool)(d:Nat):Int:=aP.v a b c d
theorem b5{Z:U}{a:Bool}{b:S}{c d:Nat}{e:Nat}(f:cL cA Z b c (D.aN e))(g:d=(D.aN e).length)(h:(D.aN e).length≤700000){i:Bool}{j:S}{k l:Nat}{m:Nat}(n:cL cA Z j k (D.aN m))(o:l=(D.aN m).length)(p:(D.aN m).length≤700000):a4 id #[.agg #[.bool a,.slice b d c],.agg #[.bool i,.slice j l k]] Z fun b c=>bK Z c∧(n8 .i64) Z c b (v a e i m):=
 ok (aP.b5 (bK.refl _) f g h n o p fun v aB R aG=>⟨R,aG⟩)
end m2
namespace m3
def a5.v(aS:Int)(a:Bool)(b:Nat)(c:Bool)(c:Nat)(c:Bool)(d:Nat):(Bool × Nat):=
 bif a then
  gB (b % 2 ^ (Int.toNat aS)) fun a=>
  bif (decide (((((D.aN a).length:Nat):Int)) > (0:Int))) then
   gB (dV (1:Int)) fun a=>
   gB (dV (c7 (c,d) - c7 (a.1,a.2))) fun a=>
   (a.1,a.2)
  else
   (c,d)
 else
  (c,d)
theorem a5.b5{Y:aF}{a2 Z:U}(c:bK a2 Z){aS:Int}(QA:In .i64 aS){G:Bool}{H:S}{I:Nat}{i:Nat}(QB:cL cA Z H I (D.aN i))(QM:(D.aN i).length≤700000){q:Nat}(d:eM Z q [.bool G,.slice H (D.aN i).length I])(QN:a2.size≤q){J:Bool}{P:S}{Q:Nat}{s:Nat}(QO:cX cA a2 Z P Q (D.aN s))(QP:(D.aN s).length≤700000){fQ:Nat}(a:eM Z fQ [.bool J,.slice P (D.aN s).length Q])(j:a2.size≤fQ){u:Bool}{T:S}{V:Nat}{k:Nat}(x:cX cA a2 Z T V (D.aN k))(QQ:(D.aN k).length≤700000){hV:Nat}(b:eM Z hV [.bool u,.slice T (D.aN k).length V])(QR:a2.size≤hV)(l:q ≠ fQ)(QS:q ≠ hV)(m:fQ ≠ hV)(QT:0≤aS)(g:h6 g5 a2 Y (a5.v aS G i J s u k)):a5.t Y aS (⟨q,0,none⟩:Addr) (⟨fQ,0,none⟩:Addr) (⟨hV,0,none⟩:Addr) Z:=by
 have n:=bK.refl Z
 have QU:=d.lt
 have QV:=a.lt
 have QC:=b.lt
 have QW:(D.aN 0).length=0:=by simp [D.e0]
 unfold a5.v at g
 unfold a5.t
 refine dJ d (cB _ _) rfl ?_
 refine dB rfl ?_
 refine yS g (fun QD g=>?_) (fun QD g=>?_)
 ·refine dJ d (cB _ _) rfl ?_
  refine bL rfl ?_
  refine cD (kG.b5 QB rfl QA (by first | assumption | decide | omega) (by first | assumption | decide | omega)) fun v QE ⟨h,aG⟩=>?_
  obtain⟨QX,y⟩:∃ p,p=i % 2 ^ (Int.toNat aS):=⟨_,rfl⟩
  rw [← y] at aG
  replace g:=gR y g
  have QF:=pA (Nat.mod_le i (2 ^ (Int.toNat aS)))
  rw [← y] at QF
  obtain⟨QY,QZ,rfl,Qx⟩:=aG
  refine bL rfl (?_)
  have Qx:=Qx.from c.le
  have r:=h.c2
  have d:=d.aU h
  have a:=a.aU h
  have b:=b.aU h
  have c:=c.trans h
  have n:=n.trans h
  refine yT g (fun QG g=>?_) (fun QG g=>?_)
  ·refine⟨iV rfl ((r).lt QC),?_⟩
   refine dJ b (cB _ _) rfl ?_
   refine dB rfl ?_
   refine dJ b (cB _ _) rfl ?_
   refine bL rfl ?_
   refine cD (oL.bH (show In .i64 (1:Int) by decide)) fun v Qy ⟨e,aG⟩=>?_
   obtain⟨w,z⟩:∃ p,p=dV (1:Int):=⟨_,rfl⟩
   rw [← z] at aG
   replace g:=gR z g
   have QH:=C6 (show In .i64 (1:Int) by decide)
   rw [← z] at QH
   obtain⟨Q0,Q1,rfl,A⟩:=aG
   refine fH rfl (cS (dB rfl (cS (bL rfl (eG (?_))))))
   have A:=A.from c.le
   have o:=e.c2
   have d:=d.aU e
   have a:=a.aU e
   have b:=b.aU e
   have c:=c.trans e
   have n:=n.trans e
   refine⟨e.gI (Nat.le_refl _),?_⟩
   refine cD (l0.bH (x.c2 (r.trans o)).rd rfl A.rd rfl (by first | assumption | decide | omega) (by first | assumption | decide | omega)) fun v QI ⟨f,aG⟩=>?_
   obtain⟨Q2,B⟩:∃ p,p=dV (c7 (u,k) - c7 (w.1,w.2)):=⟨_,rfl⟩
   rw [← B] at aG
   replace g:=gR B g
   have QJ:=GC u k w.1 w.2
   rw [← B] at QJ
   obtain⟨Q3,Q4,rfl,C⟩:=aG
   refine fH rfl (cS (dB rfl (cS (bL rfl (eG (?_))))))
   have C:=C.from c.le
   have Qz:=f.c2
   have d:=d.aU f
   have a:=a.aU f
   have b:=b.aU f
   have c:=c.trans f
   have n:=n.trans f
   refine⟨f.gI (o).le,?_⟩
   refine e8 a (cB _ _) rfl fun Q5 a E QK=>?_
   have d:=d.cR l E
   have b:=b.cR (Ne.symm m) E
   have c:=cG.aU c E j
   refine e8 a (cB _ _) rfl fun Q6 a F QL=>?_
   have d:=d.cR l F
   have b:=b.cR (Ne.symm m) F
   have c:=cG.aU c F j
   refine dJ a (cB _ _) rfl ?_
   refine dB rfl ?_
   refine dJ a (cB _ _) rfl ?_
   refine bL rfl ?_
   exact g _ _ c ⟨_,_,rfl,(C.c2 (QK.trans QL))⟩
  ·refine dJ b (cB _ _) rfl ?_
   refine dB rfl ?_
   refine dJ b (cB _ _) rfl ?_
   refine bL rfl ?_
   refine e8 a (cB _ _) rfl fun Qy a e o=>?_
   have d:=d.cR l e
   have b:=b.cR (Ne.symm m) e
   have c:=cG.aU c e j
   refine e8 a (cB _ _) rfl fun QI a f Qz=>?_
   have d:=d.cR l f
   have b:=b.cR (Ne.symm m) f
   have c:=cG.aU c f j
   refine dJ a (cB _ _) rfl ?_
   refine dB rfl ?_
   refine dJ a (cB _ _) rfl ?_
   refine bL rfl ?_
   exact g _ _ c ⟨_,_,rfl,(x.c2 (r.trans (o.trans Qz)))⟩
 ·refine dJ b (cB _ _) rfl ?_
  refine dB rfl ?_
  refine dJ b (cB _ _) rfl ?_
  refine bL rfl ?_
  refine e8 a (cB _ _) rfl fun QE a h r=>?_
  have d:=d.cR l h
  have b:=b.cR (Ne.symm m) h
  have c:=cG.aU c h j
  refine e8 a (cB _ _) rfl fun Qy a e o=>?_
  have d:=d.cR l e
  have b:=b.cR (Ne.symm m) e
  have c:=cG.aU c e j
  refine dJ a (cB _ _) rfl ?_
  refine dB rfl ?_
  refine dJ a (cB _ _) rfl ?_
  refine bL rfl ?_
  exact g _ _ c ⟨_,_,rfl,(x.c2 (r.trans o))⟩
def aP.v(a:Bool)(b:Nat)(aS:Int):(Bool × Nat):=
 bif (decide (aS≤(0:Int))) then
  gB (dV (dK a b)) fun c=>
  (c.1,c.2)
 else
  gB (b / 2 ^ (Int.toNat aS)) fun c=>
  gB (dV (dK a c)) fun c=>
  a5.v aS a b false 0 c.1 c.2
theorem aP.b5{Y:aF}{a2 Z:U}(a:bK a2 Z){n:Bool}{QR:S}{QS QT:Nat}{o:Nat}(B:cL cA Z QR QS (D.aN o))(Q2:QT=(D.aN o).length)(Ra:(D.aN o).length≤150000){aS:Int}(F:In .i64 aS)(g:h6 g5 a2 Y (aP.v n o aS)):aP.t Y n QR QT QS aS Z:=by
 subst Q2
 have d:=bK.refl Z
 have Rb:(D.aN 0).length=0:=by simp [D.e0]
 unfold aP.v at g
 unfold aP.t
 refine fJ fun A b T=>?_
 have V:a2.size≤Z.size:=a.le
 have Rc:Z.size≤Z.size:=d.le
 have QU:=b.lt
 have C:=T.c2
 have a:=a.trans T
 have d:=d.trans T
 refine fJ fun E c I=>?_
 have G:Z.size ≠ A.size:=Nat.ne_of_lt b.lt
 have c:eM E (A.size) [.bool false,.slice none (D.aN 0).length 0]:=by rw [D.e0];exact c
 have H:a2.size≤A.size:=a.le
 have QV:Z.size≤A.size:=d.le
 have Rd:=c.lt
 have s:=I.c2
 have b:=b.aU I
 have a:=a.trans I
 have d:=d.trans I
 refine yT g (fun Q3 g=>?_) (fun Q3 g=>?_)
 ·refine dJ b (cB _ _) rfl ?_
  refine dB rfl ?_
  refine dJ b (cB _ _) rfl ?_
  refine bL rfl ?_
  refine cD (gE.bH (B.c2 (C.trans s)) rfl) fun v u ⟨h,aG⟩=>?_
  obtain⟨Re,Qx⟩:∃ p,p=dV (dK n o):=⟨_,rfl⟩
  rw [← Qx] at aG
  replace g:=gR Qx g
  have Q4:=mH n o
  rw [← Qx] at Q4
  obtain⟨Rf,Rg,rfl,Qy⟩:=aG
  refine fH rfl (cS (dB rfl (cS (bL rfl (eG (?_))))))
  have Qy:=Qy.from a.le
  have k:=h.c2
  have b:=b.aU h
  have c:=c.aU h
  have a:=a.trans h
  have d:=d.trans h
  refine e8 c (cB _ _) rfl fun r c f m=>?_
  have b:=b.cR G f
  have a:=cG.aU a f H
  have d:=cG.aU d f QV
  refine e8 c (cB _ _) rfl fun J c e w=>?_
  have b:=b.cR G e
  have a:=cG.aU a e H
  have d:=cG.aU d e QV
  refine dJ c (cB _ _) rfl ?_
  refine dB rfl ?_
  refine dJ c (cB _ _) rfl ?_
  refine bL rfl ?_
  exact g _ _ a ⟨_,_,rfl,(Qy.c2 (m.trans w))⟩
 ·refine⟨iV (cB _ _) ((s).lt QU),?_⟩
  refine dJ b (cB _ _) rfl ?_
  refine dB rfl ?_
  refine⟨iV (cB _ _) ((s).lt QU),?_⟩
  refine dJ b (cB _ _) rfl ?_
  refine bL rfl ?_
  refine⟨?_,?_⟩
  ·refine cD (lK.b5 (B.c2 (C.trans s)) rfl F (by first | assumption | decide | omega)) fun v u ⟨h,aG⟩=>?_
   obtain⟨P,Qz⟩:∃ p,p=o / 2 ^ (Int.toNat aS):=⟨_,rfl⟩
   rw [← Qz] at aG
   replace g:=gR Qz g
   have Q5:=pA (Nat.div_le_self o (2 ^ (Int.toNat aS)))
   rw [← Qz] at Q5
   obtain⟨Rh,Ri,rfl,Q⟩:=aG
   refine bL rfl (?_)
   have Q:=Q.from a.le
   have k:=h.c2
   have b:=b.aU h
   have c:=c.aU h
   have a:=a.trans h
   have d:=d.trans h
   refine⟨h.gI (Nat.le_refl _),?_⟩
   refine⟨?_,?_⟩
   ·refine cD (gE.bH Q.rd rfl) fun v r ⟨f,aG⟩=>?_
    obtain⟨Rj,QA⟩:∃ p,p=dV (dK n P):=⟨_,rfl⟩
    rw [← QA] at aG
    replace g:=gR QA g
    have Q6:=mH n P
    rw [← QA] at Q6
    obtain⟨Rk,Rl,rfl,QB⟩:=aG
    refine fH rfl (cS (dB rfl (cS (bL rfl (eG (?_))))))
    have QB:=QB.from a.le
    have m:=f.c2
    have b:=b.aU f
    have c:=c.aU f
    have a:=a.trans f
    have d:=d.trans f
    refine⟨f.gI (k).le,?_⟩
    refine fJ fun J x e=>?_
    have QC:Z.size ≠ r.size:=Nat.ne_of_lt b.lt
    have QD:A.size ≠ r.size:=Nat.ne_of_lt c.lt
    have x:eM J (r.size) [.bool false,.slice none (D.aN 0).length 0]:=by rw [D.e0];exact x
    have QE:a2.size≤r.size:=a.le
    have QW:Z.size≤r.size:=d.le
    have Rm:=x.lt
    have w:=e.c2
    have b:=b.aU e
    have c:=c.aU e
    have a:=a.trans e
    have d:=d.trans e
    refine⟨e.gI (k.trans m).le,?_⟩
    refine e8 x (cB _ _) rfl fun QX x i y=>?_
    have b:=b.cR QC i
    have c:=c.cR QD i
    have a:=cG.aU a i QE
    have d:=cG.aU d i QW
    refine e8 x (cB _ _) rfl fun QY x j z=>?_
    have b:=b.cR QC j
    have c:=c.cR QD j
    have a:=cG.aU a j QE
    have d:=cG.aU d j QW
    exact a5.b5 a F (B.c2 (C.trans (s.trans (k.trans (m.trans (w.trans (y.trans z))))))) (by first | assumption | decide | omega) b V (vL _ _) (by first | assumption | decide | omega) c H (QB.c2 (w.trans (y.trans z))) (by first | assumption | decide | omega) x QE G QC QD (by first | assumption | decide | omega) g
   ·refine fJ fun r q f=>?_
    have QF:Z.size ≠ u.size:=Nat.ne_of_lt b.lt
    have QG:A.size ≠ u.size:=Nat.ne_of_lt c.lt
    have q:eM r (u.size) [.bool false,.slice none (D.aN 0).length 0]:=by rw [D.e0];exact q
    have QH:a2.size≤u.size:=a.le
    have QZ:Z.size≤u.size:=d.le
    have Rn:=q.lt
    have m:=f.c2
    have b:=b.aU f
    have c:=c.aU f
    have a:=a.trans f
    have d:=d.trans f
    refine⟨f.gI (k).le,?_⟩
    refine cD (gE.bH (Q.c2 (m)).rd rfl) fun v J ⟨e,aG⟩=>?_
    obtain⟨Ro,QI⟩:∃ p,p=dV (dK n P):=⟨_,rfl⟩
    rw [← QI] at aG
    replace g:=gR QI g
    have Q7:=mH n P
    rw [← QI] at Q7
    obtain⟨Rp,Rq,rfl,QJ⟩:=aG
    refine fH rfl (cS (dB rfl (cS (bL rfl (eG (?_))))))
    have QJ:=QJ.from a.le
    have w:=e.c2
    have b:=b.aU e
    have c:=c.aU e
    have q:=q.aU e
    have a:=a.trans e
    have d:=d.trans e
    refine⟨e.gI (k.trans m).le,?_⟩
    refine e8 q (cB _ _) rfl fun QX q i y=>?_
    have b:=b.cR QF i
    have c:=c.cR QG i
    have a:=cG.aU a i QH
    have d:=cG.aU d i QZ
    refine e8 q (cB _ _) rfl fun QY q j z=>?_
    have b:=b.cR QF j
    have c:=c.cR QG j
    have a:=cG.aU a j QH
    have d:=cG.aU d j QZ
    exact a5.b5 a F (B.c2 (C.trans (s.trans (k.trans (m.trans (w.trans (y.trans z))))))) (by first | assumption | decide | omega) b V (vL _ _) (by first | assumption | decide | omega) c H (QJ.c2 (y.trans z)) (by first | assumption | decide | omega) q QH G QF QG (by first | assumption | decide | omega) g
  ·refine fJ fun u l h=>?_
   have QK:Z.size ≠ E.size:=Nat.ne_of_lt b.lt
   have QL:A.size ≠ E.size:=Nat.ne_of_lt c.lt
   have l:eM u (E.size) [.bool false,.slice none (D.aN 0).length 0]:=by rw [D.e0];exact l
   have QM:a2.size≤E.size:=a.le
   have Q0:Z.size≤E.size:=d.le
   have Rr:=l.lt
   have k:=h.c2
   have b:=b.aU h
   have c:=c.aU h
   have a:=a.trans h
   have d:=d.trans h
   refine⟨h.gI (Nat.le_refl _),?_⟩
   refine cD (lK.b5 (B.c2 (C.trans (s.trans k))) rfl F (by first | assumption | decide | omega)) fun v r ⟨f,aG⟩=>?_
   obtain⟨Q1,QN⟩:∃ p,p=o / 2 ^ (Int.toNat aS):=⟨_,rfl⟩
   rw [← QN] at aG
   replace g:=gR QN g
   have Q8:=pA (Nat.div_le_self o (2 ^ (Int.toNat aS)))
   rw [← QN] at Q8
   obtain⟨Rs,Rt,rfl,QO⟩:=aG
   refine bL rfl (?_)
   have QO:=QO.from a.le
   have m:=f.c2
   have b:=b.aU f
   have c:=c.aU f
   have l:=l.aU f
   have a:=a.trans f
   have d:=d.trans f
   refine⟨f.gI (k).le,?_⟩
   refine cD (gE.bH QO.rd rfl) fun v J ⟨e,aG⟩=>?_
   obtain⟨Ru,QP⟩:∃ p,p=dV (dK n Q1):=⟨_,rfl⟩
   rw [← QP] at aG
   replace g:=gR QP g
   have Q9:=mH n Q1
   rw [← QP] at Q9
   obtain⟨Rv,Rw,rfl,QQ⟩:=aG
   refine fH rfl (cS (dB rfl (cS (bL rfl (eG (?_))))))
   have QQ:=QQ.from a.le
   have w:=e.c2
   have b:=b.aU e
   have c:=c.aU e
   have l:=l.aU e
   have a:=a.trans e
   have d:=d.trans e
   refine⟨e.gI (k.trans m).le,?_⟩
   refine e8 l (cB _ _) rfl fun QX l i y=>?_
   have b:=b.cR QK i
   have c:=c.cR QL i
   have a:=cG.aU a i QM
   have d:=cG.aU d i Q0
   refine e8 l (cB _ _) rfl fun QY l j z=>?_
   have b:=b.cR QK j
   have c:=c.cR QL j
   have a:=cG.aU a j QM
   have d:=cG.aU d j Q0
   exact a5.b5 a F (B.c2 (C.trans (s.trans (k.trans (m.trans (w.trans (y.trans z))))))) (by first | assumption | decide | omega) b V (vL _ _) (by first | assumption | decide | omega) c H (QQ.c2 (y.trans z)) (by first | assumption | decide | omega) l QM G QK QL (by first | assumption | decide | omega) g
def v(a:Bool)(b:Nat)(aS:Int):(Bool × Nat):=aP.v a b aS
theorem b5{Z:U}{a:Bool}{b:S}{c d:Nat}{e:Nat}(f:cL cA Z b c (D.aN e))(g:d=(D.aN e).length)(h:(D.aN e).length≤150000){aS:Int}(i:In .i64 aS):a4 id #[.agg #[.bool a,.slice b d c],.int .i64 aS] Z fun b c=>bK Z c∧g5 Z c b (v a e aS):=
 ok (aP.b5 (bK.refl _) f g h i fun v aB R aG=>⟨R,aG⟩)
end m3
theorem LP(O aD:Int):hZ (O - aD) 0=hZ O aD:=by
 unfold hZ
 rcases Int.lt_trichotomy O aD with Z | Z | Z
 ·rw [if_pos (by omega),if_pos Z]
 ·rw [if_neg (by omega),if_pos (by omega),if_neg (by omega),if_pos Z]
 ·rw [if_neg (by omega),if_neg (by omega),if_neg (by omega),if_neg (by omega)]
theorem LQ(K c:Bool)(a7 bQ:Nat):m2.v K a7 c bQ=hZ (c7 (K,a7)) (c7 (c,bQ)):=by
 unfold m2.v m2.aP.v
 simp only [gB]
 rw [show c7 ((dV (c7 (K,a7) - c7 (c,bQ))).1,(dV (c7 (K,a7) - c7 (c,bQ))).2)=c7 (K,a7) - c7 (c,bQ) from y7 _,LP]
theorem LR(a:Int):h2 a 1=a:=by unfold h2;rw [if_neg (by omega),Int.ediv_one]
theorem LS(K:Bool)(a7:Nat)(R:Int):m3.v K a7 R=dV (h2 (c7 (K,a7)) (2 ^ R.toNat)):=by
 unfold m3.v m3.aP.v
 simp only [gB]
 by_cases a:R≤0
 ·simp only [a,decide_true,cond_true]
  rw [show R.toNat=0 by omega,Int.pow_zero,LR];rfl
 ·simp only [a,decide_false,cond_false]
  unfold m3.a5.v
  generalize R.toNat=n
  rw [show c7 (K,a7)=dK K a7 from rfl,Gw]
  have aW:decide (((D.aN (a7 % 2 ^ n)).length:Int) > 0)=decide (a7 % 2 ^ n ≠ 0):=by
   rw [decide_eq_decide];have:=s9 (a7 % 2 ^ n);omega
  by_cases b:a7=0
  ·subst b
   simp only [Nat.zero_div,qX,C4,Nat.zero_mod,LO,gB,(s9 0).mpr rfl]
   cases K <;> rfl
  ·rw [y8 (Ll n) fun _=>b,Bool.xor_false]
   cases K
   ·simp only [cond_false,Bool.false_eq_true,false_and,if_false]
   ·simp only [cond_true,gB,true_and]
    rw [aW]
    by_cases c:a7 % 2 ^ n=0
    ·simp only [c,ne_eq,not_true_eq_false,decide_false,cond_false,if_false]
    ·simp only [c,ne_eq,not_false_eq_true,decide_true,cond_true,if_true]
     rw [show c7 ((dV (dK true (a7 / 2 ^ n))).1,(dV (dK true (a7 / 2 ^ n))).2)=dK true (a7 / 2 ^ n) from y7 _]
     rw [show c7 ((dV 1).1,(dV 1).2)=1 from rfl]
     have:dK true (a7 / 2 ^ n) - 1=dK true (a7 / 2 ^ n+1):=by unfold dK;simp only [if_true];omega
     rw [this]
section
variable {a K:S} {c aZ l m a7 bQ:Nat} {aC aX:List Nat} {Z:U} {L aT:Int} {p aI:Bool}
theorem m2.bH(r:cL cA Z a c (D.aN a7))(N:l=(D.aN a7).length)(aG:cL cA Z K aZ (D.aN bQ))(f:m=(D.aN bQ).length)(b:(D.aN a7).length≤700000)(d:(D.aN bQ).length≤700000):a4 m2.id #[.agg #[.bool p,.slice a l c],.agg #[.bool aI,.slice K m aZ]] Z fun v aB=>bK Z aB∧n8 .i64 Z aB v (hZ (c7 (p,a7)) (c7 (aI,bQ))):=by rw [← LQ];exact m2.b5 r N b aG f d
theorem m3.bH(r:cL cA Z a c (D.aN a7))(N:l=(D.aN a7).length)(O:In .i64 L)(b:(D.aN a7).length≤150000):a4 m3.id #[.agg #[.bool p,.slice a l c],.int .i64 L] Z fun v aB=>bK Z aB∧g5 Z aB v (dV (h2 (c7 (p,a7)) (2 ^ L.toNat))):=by rw [← LS];exact m3.b5 r N b O
end
namespace pD
def aP.v(a:Bool)(b:Nat)(c:Bool)(d:Nat):(Bool × Nat):=
 gB (oM (c7 (a,b)) (c7 (c,d))) fun a=>
 gB (dV (c7 (a.2.1,a.2.2)*2 ^ (Int.toNat (1:Int)))) fun b=>
 bif (decide (((hZ (c7 (b.1,b.2)) (c7 (c,d)))) > (0:Int))) then
  gB (dV (1:Int)) fun e=>
  gB (dV (c7 (a.1.1,a.1.2)+c7 (e.1,e.2))) fun e=>
  (e.1,e.2)
 else
  bif (((hZ (c7 (b.1,b.2)) (c7 (c,d)))) == (0:Int)) then
   bif (!(decide (a.1.2 % 2=0))) then
    gB (dV (1:Int)) fun b=>
    gB (dV (c7 (a.1.1,a.1.2)+c7 (b.1,b.2))) fun b=>
    (b.1,b.2)
   else
    (a.1.1,a.1.2)
  else
   (a.1.1,a.1.2)
theorem aP.b5{Y:aF}{a2 Z:U}(a:bK a2 Z){QH:Bool}{Q7:S}{Q8 Q9:Nat}{I:Nat}(Rq:cL cA Z Q7 Q8 (D.aN I))(Rr:Q9=(D.aN I).length)(RJ:(D.aN I).length≤300000){QI:Bool}{Ra:S}{Rb Rc:Nat}{J:Nat}(Rd:cL cA Z Ra Rb (D.aN J))(Rs:Rc=(D.aN J).length)(RK:(D.aN J).length≤300000)(g:h6 g5 a2 Y (aP.v QH I QI J)):aP.t Y QH Q7 Q9 Q8 QI Ra Rc Rb Z:=by
 subst Rr Rs
 have c:=bK.refl Z
 have RL:(D.aN 0).length=0:=by simp [D.e0]
 unfold aP.v at g
 unfold aP.t
 refine fJ fun Qz d QR=>?_
 have RM:a2.size≤Z.size:=a.le
 have RN:Z.size≤Z.size:=c.le
 have RO:=d.lt
 have QS:=QR.c2
 have a:=a.trans QR
 have c:=c.trans QR
 refine fJ fun P e QK=>?_
 have RP:Z.size ≠ Qz.size:=Nat.ne_of_lt d.lt
 have RQ:a2.size≤Qz.size:=a.le
 have RR:Z.size≤Qz.size:=c.le
 have Rt:=e.lt
 have QT:=QK.c2
 have d:=d.aU QK
 have a:=a.trans QK
 have c:=c.trans QK
 refine fJ fun Ru b QJ=>?_
 have A:Z.size ≠ P.size:=Nat.ne_of_lt d.lt
 have B:Qz.size ≠ P.size:=Nat.ne_of_lt e.lt
 have b:eM Ru (P.size) [.bool false,.slice none (D.aN 0).length 0]:=by rw [D.e0];exact b
 have C:a2.size≤P.size:=a.le
 have E:Z.size≤P.size:=c.le
 have RS:=b.lt
 have QL:=QJ.c2
 have d:=d.aU QJ
 have e:=e.aU QJ
 have a:=a.trans QJ
 have c:=c.trans QJ
 refine dJ d (cB _ _) rfl ?_
 refine dB rfl ?_
 refine dJ d (cB _ _) rfl ?_
 refine bL rfl ?_
 refine dJ e (cB _ _) rfl ?_
 refine dB rfl ?_
 refine dJ e (cB _ _) rfl ?_
 refine bL rfl ?_
 refine cD (pB.bH (Rq.c2 (QS.trans (QT.trans QL))) rfl (Rd.c2 (QS.trans (QT.trans QL))) rfl (by first | assumption | decide | omega) (by first | assumption | decide | omega)) fun v Q ⟨QA,aG⟩=>?_
 obtain⟨m,QM⟩:∃ p,p=oM (c7 (QH,I)) (c7 (QI,J)):=⟨_,rfl⟩
 rw [← QM] at aG
 replace g:=gR QM g
 have Rv:=LC QH I QI J
 rw [← QM] at Rv
 have Rw:=LD QH I QI J
 rw [← QM] at Rw
 obtain⟨_,_,rfl,⟨RT,RU,rfl,T⟩,⟨RV,RW,rfl,QU⟩⟩:=aG
 refine gY rfl (cS (fH rfl (cS (dB rfl (cS (bL rfl (eG (cS (fH rfl (cS (dB rfl (cS (bL rfl (eG (eG (?_))))))))))))))))
 have T:=T.from a.le
 have QU:=QU.from a.le
 have Re:=QA.c2
 have d:=d.aU QA
 have e:=e.aU QA
 have b:=b.aU QA
 have a:=a.trans QA
 have c:=c.trans QA
 refine fJ fun F f QB=>?_
 have Rf:Z.size ≠ Q.size:=Nat.ne_of_lt d.lt
 have Rg:Qz.size ≠ Q.size:=Nat.ne_of_lt e.lt
 have s:P.size ≠ Q.size:=Nat.ne_of_lt b.lt
 have f:eM F (Q.size) [.bool false,.slice none (D.aN 0).length 0]:=by rw [D.e0];exact f
 have Rh:a2.size≤Q.size:=a.le
 have Ri:Z.size≤Q.size:=c.le
 have Rj:=f.lt
 have G:=QB.c2
 have d:=d.aU QB
 have e:=e.aU QB
 have b:=b.aU QB
 have a:=a.trans QB
 have c:=c.trans QB
 refine fJ fun Rx h V=>?_
 have Rk:Z.size ≠ F.size:=Nat.ne_of_lt d.lt
 have Rl:Qz.size ≠ F.size:=Nat.ne_of_lt e.lt
 have u:P.size ≠ F.size:=Nat.ne_of_lt b.lt
 have QN:Q.size ≠ F.size:=Nat.ne_of_lt f.lt
 have h:eM Rx (F.size) [.bool false,.slice none (D.aN 0).length 0]:=by rw [D.e0];exact h
 have Rm:a2.size≤F.size:=a.le
 have Rn:Z.size≤F.size:=c.le
 have Ry:=h.lt
 have w:=V.c2
 have d:=d.aU V
 have e:=e.aU V
 have b:=b.aU V
 have f:=f.aU V
 have a:=a.trans V
 have c:=c.trans V
 refine e8 f (cB _ _) rfl fun RX f QC n=>?_
 have d:=d.cR Rf QC
 have e:=e.cR Rg QC
 have b:=b.cR s QC
 have h:=h.cR (Ne.symm QN) QC
 have a:=cG.aU a QC Rh
 have c:=cG.aU c QC Ri
 refine e8 f (cB _ _) rfl fun RY f QD o=>?_
 have d:=d.cR Rf QD
 have e:=e.cR Rg QD
 have b:=b.cR s QD
 have h:=h.cR (Ne.symm QN) QD
 have a:=cG.aU a QD Rh
 have c:=cG.aU c QD Ri
 refine e8 h (cB _ _) rfl fun RZ h QE q=>?_
 have d:=d.cR Rk QE
 have e:=e.cR Rl QE
 have b:=b.cR u QE
 have f:=f.cR QN QE
 have a:=cG.aU a QE Rm
 have c:=cG.aU c QE Rn
 refine e8 h (cB _ _) rfl fun R0 h QF r=>?_
 have d:=d.cR Rk QF
 have e:=e.cR Rl QF
 have b:=b.cR u QF
 have f:=f.cR QN QF
 have a:=cG.aU a QF Rm
 have c:=cG.aU c QF Rn
 refine⟨iV rfl ((n.trans (o.trans (q.trans r))).lt Ry),?_⟩
 refine dJ h (cB _ _) rfl ?_
 refine dB rfl ?_
 refine dJ h (cB _ _) rfl ?_
 refine bL rfl ?_
 refine cD (lZ.bH (QU.c2 (G.trans (w.trans (n.trans (o.trans (q.trans r)))))).rd rfl (show In .i64 (1:Int) by decide) (by first | assumption | decide | omega) (by first | assumption | decide | omega) (by first | assumption | decide | omega)) fun v R1 ⟨x,aG⟩=>?_
 obtain⟨R2,QV⟩:∃ p,p=dV (c7 (m.2.1,m.2.2)*2 ^ (Int.toNat (1:Int))):=⟨_,rfl⟩
 rw [← QV] at aG
 replace g:=gR QV g
 have Rz:=LA m.2.1 m.2.2
 rw [← QV] at Rz
 obtain⟨R3,R4,rfl,QW⟩:=aG
 refine fH rfl (cS (dB rfl (cS (bL rfl (eG (?_))))))
 have QW:=QW.from a.le
 have y:=x.c2
 have d:=d.aU x
 have e:=e.aU x
 have b:=b.aU x
 have f:=f.aU x
 have h:=h.aU x
 have a:=a.trans x
 have c:=c.trans x
 refine⟨x.gI (Nat.le_refl _),?_⟩
 refine⟨iV rfl ((QL.trans (Re.trans (G.trans (w.trans (n.trans (o.trans (q.trans r))))))).lt Rt),?_⟩
 refine dJ e (cB _ _) rfl ?_
 refine dB rfl ?_
 refine dJ e (cB _ _) rfl ?_
 refine bL rfl ?_
 refine cD (m2.bH QW.rd rfl (Rd.c2 (QS.trans (QT.trans (QL.trans (Re.trans (G.trans (w.trans (n.trans (o.trans (q.trans (r.trans y))))))))))) rfl (by first | assumption | decide | omega) (by first | assumption | decide | omega)) fun v R5 ⟨z,aG⟩=>?_
 obtain⟨rfl,R6⟩:=aG
 refine b0 rfl (?_)
 have Qx:=z.c2
 have d:=d.aU z
 have e:=e.aU z
 have b:=b.aU z
 have f:=f.aU z
 have h:=h.aU z
 have a:=a.trans z
 have c:=c.trans z
 refine⟨z.gI (y).le,?_⟩
 refine yT g (fun RA g=>?_) (fun RA g=>?_)
 ·refine⟨iV rfl ((w.trans (n.trans (o.trans (q.trans (r.trans (y.trans Qx)))))).lt Rj),?_⟩
  refine dJ f (cB _ _) rfl ?_
  refine dB rfl ?_
  refine dJ f (cB _ _) rfl ?_
  refine bL rfl ?_
  refine cD (oL.bH (show In .i64 (1:Int) by decide)) fun v Ro ⟨j,aG⟩=>?_
  obtain⟨QO,QX⟩:∃ p,p=dV (1:Int):=⟨_,rfl⟩
  rw [← QX] at aG
  replace g:=gR QX g
  have RB:=C6 (show In .i64 (1:Int) by decide)
  rw [← QX] at RB
  obtain⟨R7,R8,rfl,QY⟩:=aG
  refine fH rfl (cS (dB rfl (cS (bL rfl (eG (?_))))))
  have QY:=QY.from a.le
  have H:=j.c2
  have d:=d.aU j
  have e:=e.aU j
  have b:=b.aU j
  have f:=f.aU j
  have h:=h.aU j
  have a:=a.trans j
  have c:=c.trans j
  refine⟨j.gI (Nat.le_refl _),?_⟩
  refine cD (mI.bH (T.c2 (G.trans (w.trans (n.trans (o.trans (q.trans (r.trans (y.trans (Qx.trans H))))))))).rd rfl QY.rd rfl (by first | assumption | decide | omega) (by first | assumption | decide | omega)) fun v QZ ⟨i,aG⟩=>?_
  obtain⟨R9,Q0⟩:∃ p,p=dV (c7 (m.1.1,m.1.2)+c7 (QO.1,QO.2)):=⟨_,rfl⟩
  rw [← Q0] at aG
  replace g:=gR Q0 g
  have RC:=C8 m.1.1 m.1.2 QO.1 QO.2
  rw [← Q0] at RC
  obtain⟨Sa,Sb,rfl,Q1⟩:=aG
  refine fH rfl (cS (dB rfl (cS (bL rfl (eG (?_))))))
  have Q1:=Q1.from a.le
  have Qy:=i.c2
  have d:=d.aU i
  have e:=e.aU i
  have b:=b.aU i
  have f:=f.aU i
  have h:=h.aU i
  have a:=a.trans i
  have c:=c.trans i
  refine⟨i.gI (H).le,?_⟩
  refine e8 b (cB _ _) rfl fun Rp b k QP=>?_
  have d:=d.cR A k
  have e:=e.cR B k
  have f:=f.cR (Ne.symm s) k
  have h:=h.cR (Ne.symm u) k
  have a:=cG.aU a k C
  have c:=cG.aU c k E
  refine e8 b (cB _ _) rfl fun RD b l Q2=>?_
  have d:=d.cR A l
  have e:=e.cR B l
  have f:=f.cR (Ne.symm s) l
  have h:=h.cR (Ne.symm u) l
  have a:=cG.aU a l C
  have c:=cG.aU c l E
  refine dJ b (cB _ _) rfl ?_
  refine dB rfl ?_
  refine dJ b (cB _ _) rfl ?_
  refine bL rfl ?_
  exact g _ _ a ⟨_,_,rfl,(Q1.c2 (QP.trans Q2))⟩
 ·refine Cv g (fun RE g=>?_) (fun RE g=>?_)
  ·refine dJ f (cB _ _) rfl ?_
   refine dB rfl ?_
   refine dJ f (cB _ _) rfl ?_
   refine bL rfl ?_
   refine cD (pC.bH (T.c2 (G.trans (w.trans (n.trans (o.trans (q.trans (r.trans (y.trans Qx)))))))).rd rfl) fun v Ro ⟨j,aG⟩=>?_
   obtain rfl:=aG
   refine dB rfl (?_)
   have H:=j.c2
   have d:=d.aU j
   have e:=e.aU j
   have b:=b.aU j
   have f:=f.aU j
   have h:=h.aU j
   have a:=a.trans j
   have c:=c.trans j
   refine Fc g (fun RF g=>?_) (fun RF g=>?_)
   ·refine⟨iV rfl ((w.trans (n.trans (o.trans (q.trans (r.trans (y.trans (Qx.trans H))))))).lt Rj),?_⟩
    refine dJ f (cB _ _) rfl ?_
    refine dB rfl ?_
    refine dJ f (cB _ _) rfl ?_
    refine bL rfl ?_
    refine cD (oL.bH (show In .i64 (1:Int) by decide)) fun v QZ ⟨i,aG⟩=>?_
    obtain⟨QQ,Q3⟩:∃ p,p=dV (1:Int):=⟨_,rfl⟩
    rw [← Q3] at aG
    replace g:=gR Q3 g
    have RG:=C6 (show In .i64 (1:Int) by decide)
    rw [← Q3] at RG
    obtain⟨Sc,Sd,rfl,Q4⟩:=aG
    refine fH rfl (cS (dB rfl (cS (bL rfl (eG (?_))))))
    have Q4:=Q4.from a.le
    have Qy:=i.c2
    have d:=d.aU i
    have e:=e.aU i
    have b:=b.aU i
    have f:=f.aU i
    have h:=h.aU i
    have a:=a.trans i
    have c:=c.trans i
    refine⟨i.gI (Nat.le_refl _),?_⟩
    refine cD (mI.bH (T.c2 (G.trans (w.trans (n.trans (o.trans (q.trans (r.trans (y.trans (Qx.trans (H.trans Qy)))))))))).rd rfl Q4.rd rfl (by first | assumption | decide | omega) (by first | assumption | decide | omega)) fun v Rp ⟨k,aG⟩=>?_
    obtain⟨Se,Q5⟩:∃ p,p=dV (c7 (m.1.1,m.1.2)+c7 (QQ.1,QQ.2)):=⟨_,rfl⟩
    rw [← Q5] at aG
    replace g:=gR Q5 g
    have RH:=C8 m.1.1 m.1.2 QQ.1 QQ.2
    rw [← Q5] at RH
    obtain⟨Sf,Sg,rfl,Q6⟩:=aG
    refine fH rfl (cS (dB rfl (cS (bL rfl (eG (?_))))))
    have Q6:=Q6.from a.le
    have QP:=k.c2
    have d:=d.aU k
    have e:=e.aU k
    have b:=b.aU k
    have f:=f.aU k
    have h:=h.aU k
    have a:=a.trans k
    have c:=c.trans k
    refine⟨k.gI (Qy).le,?_⟩
    refine e8 b (cB _ _) rfl fun RD b l Q2=>?_
    have d:=d.cR A l
    have e:=e.cR B l
    have f:=f.cR (Ne.symm s) l
    have h:=h.cR (Ne.symm u) l
    have a:=cG.aU a l C
    have c:=cG.aU c l E
    refine e8 b (cB _ _) rfl fun Sh b QG RI=>?_
    have d:=d.cR A QG
    have e:=e.cR B QG
    have f:=f.cR (Ne.symm s) QG
    have h:=h.cR (Ne.symm u) QG
    have a:=cG.aU a QG C
    have c:=cG.aU c QG E
    refine dJ b (cB _ _) rfl ?_
    refine dB rfl ?_
    refine dJ b (cB _ _) rfl ?_
    refine bL rfl ?_
    exact g _ _ a ⟨_,_,rfl,(Q6.c2 (Q2.trans RI))⟩
   ·refine dJ f (cB _ _) rfl ?_
    refine dB rfl ?_
    refine dJ f (cB _ _) rfl ?_
    refine bL rfl ?_
    refine e8 b (cB _ _) rfl fun QZ b i Qy=>?_
    have d:=d.cR A i
    have e:=e.cR B i
    have f:=f.cR (Ne.symm s) i
    have h:=h.cR (Ne.symm u) i
    have a:=cG.aU a i C
    have c:=cG.aU c i E
    refine e8 b (cB _ _) rfl fun Rp b k QP=>?_
    have d:=d.cR A k
    have e:=e.cR B k
    have f:=f.cR (Ne.symm s) k
    have h:=h.cR (Ne.symm u) k
    have a:=cG.aU a k C
    have c:=cG.aU c k E
    refine dJ b (cB _ _) rfl ?_
    refine dB rfl ?_
    refine dJ b (cB _ _) rfl ?_
    refine bL rfl ?_
    exact g _ _ a ⟨_,_,rfl,(T.c2 (G.trans (w.trans (n.trans (o.trans (q.trans (r.trans (y.trans (Qx.trans (H.trans (Qy.trans QP)))))))))))⟩
  ·refine dJ f (cB _ _) rfl ?_
   refine dB rfl ?_
   refine dJ f (cB _ _) rfl ?_
   refine bL rfl ?_
   refine e8 b (cB _ _) rfl fun Ro b j H=>?_
   have d:=d.cR A j
   have e:=e.cR B j
   have f:=f.cR (Ne.symm s) j
   have h:=h.cR (Ne.symm u) j
   have a:=cG.aU a j C
   have c:=cG.aU c j E
   refine e8 b (cB _ _) rfl fun QZ b i Qy=>?_
   have d:=d.cR A i
   have e:=e.cR B i
   have f:=f.cR (Ne.symm s) i
   have h:=h.cR (Ne.symm u) i
   have a:=cG.aU a i C
   have c:=cG.aU c i E
   refine dJ b (cB _ _) rfl ?_
   refine dB rfl ?_
   refine dJ b (cB _ _) rfl ?_
   refine bL rfl ?_
   exact g _ _ a ⟨_,_,rfl,(T.c2 (G.trans (w.trans (n.trans (o.trans (q.trans (r.trans (y.trans (Qx.trans (H.trans Qy))))))))))⟩
def v(a:Bool)(b:Nat)(c:Bool)(d:Nat):(Bool × Nat):=aP.v a b c d
theorem b5{Z:U}{a:Bool}{b:S}{c d:Nat}{e:Nat}(f:cL cA Z b c (D.aN e))(g:d=(D.aN e).length)(h:(D.aN e).length≤300000){i:Bool}{j:S}{k l:Nat}{m:Nat}(n:cL cA Z j k (D.aN m))(o:l=(D.aN m).length)(p:(D.aN m).length≤300000):a4 id #[.agg #[.bool a,.slice b d c],.agg #[.bool i,.slice j l k]] Z fun b c=>bK Z c∧g5 Z c b (v a e i m):=
 ok (aP.b5 (bK.refl _) f g h n o p fun v aB R aG=>⟨R,aG⟩)
end pD
theorem xK(O:Int):c7 ((dV O).1,(dV O).2)=O:=y7 O
theorem GH{O aD:Int}:decide (hZ O aD > 0)=decide (aD < O):=by rw [Lv]
theorem GI{O aD:Int}:(hZ O aD == 0)=decide (O=aD):=by
 unfold hZ
 rcases Int.lt_trichotomy O aD with Z | Z | Z
 ·rw [if_pos Z];have:O ≠ aD:=by omega
  simp [this]
 ·subst Z;simp
 ·rw [if_neg (by omega),if_neg (by omega)];have:O ≠ aD:=by omega
  simp [this]
theorem LU{p:Bool}{a bA:Nat}(c0:bA ≠ 0)(b:p=true→a ≠ 0):
  mG (dK p a) (dK false bA)=if (bA:Int) < rT (dK p a) (dK false bA)*2∨(rT (dK p a) (dK false bA)*2=(bA:Int)∧(h2 (dK p a) (dK false bA)).natAbs % 2=1) then h2 (dK p a) (dK false bA)+1 else h2 (dK p a) (dK false bA):=by
 rw [Ln c0 b,y8 c0 b,Gy c0 b,Bool.xor_false,rS]
 unfold iB
 have e:=Nat.mod_lt a (show 0 < bA by omega)
 generalize a % bA=r at *
 generalize a / bA=Q at *
 cases p
 ·simp only [Bool.false_eq_true,false_and,if_false,C3]
  by_cases c:bA < 2*r∨(2*r=bA∧Q % 2=1)
  ·rw [if_pos c,if_pos (by omega)];omega
  ·rw [if_neg c,if_neg (by omega)]
 ·by_cases d:r=0
  ·subst d
   simp only [ne_eq,not_true_eq_false,and_false,if_false,qX]
   rw [if_neg (by omega),if_neg (by omega)]
  ·simp only [ne_eq,d,not_false_eq_true,and_self,if_true,C3]
   have N:dK true (Q+1)+1=dK true Q:=by unfold dK;simp only [if_true];omega
   by_cases c:bA < 2*r∨(2*r=bA∧Q % 2=1)
   ·rw [if_pos c,if_neg (by omega)]
   ·rw [if_neg c,if_pos (by omega),N]
theorem LV(K c:Bool)(a7 bQ:Nat):pD.v K a7 c bQ=oN (c7 (K,a7)) (c7 (c,bQ)):=by
 unfold pD.v pD.aP.v
 by_cases Z:c7 (c,bQ)≤0
 ·have N:oM (c7 (K,a7)) (c7 (c,bQ))=((false,0),(false,0)):=by unfold oM;rw [if_pos Z]
  rw [N]
  simp only [gB]
  have a:c7 (false,0)*2 ^ Int.toNat 1=0:=by rw [nR,qX,Int.zero_mul]
  rw [a,xK,GH,GI]
  unfold oN
  by_cases b:c7 (c,bQ) < 0
  ·simp only [b,decide_true,cond_true,if_true];rfl
  ·have d:(0:Int)=c7 (c,bQ):=by omega
   rw [if_neg b,if_pos d.symm]
   simp only [b,d.symm,decide_false,decide_true,cond_false,cond_true];rfl
 ·have f:c=false:=by
   cases c
   ·rfl
   ·exfalso;apply Z;rw [nR];unfold dK;simp
  subst f
  rw [GG (by omega)]
  simp only [gB]
  have a:(2:Int) ^ Int.toNat 1=2:=rfl
  rw [xK,a,xK,GH,GI]
  have g:oN (c7 (K,a7)) (c7 (false,bQ))=dV (mG (c7 (K,a7)) (c7 (false,bQ))):=by unfold oN;rw [if_neg (by omega),if_neg (by omega)]
  rw [g]
  have h:bQ ≠ 0:=fun N=>Z (by subst N;rw [nR,qX];exact Int.le_refl _)
  obtain⟨p,e,i,j,_⟩:=C5 (c7 (K,a7))
  have k:c7 (false,bQ)=dK false bQ:=rfl
  rw [i,k,LU h j]
  generalize rT (dK p e) (dK false bQ)=cI
  generalize h2 (dK p e) (dK false bQ)=F
  have l:c7 ((dV F).1,(dV F).2)+c7 ((dV 1).1,(dV 1).2)=F+1:=by rw [xK,xK]
  have m:decide ((dV F).2 % 2=0)=decide (F.natAbs % 2=0):=rfl
  have n:dK false bQ=(bQ:Int):=rfl
  simp only [l,m,n]
  by_cases aK:(bQ:Int) < cI*2
  ·simp only [aK,decide_true,cond_true,true_or,if_true]
  ·simp only [aK,decide_false,cond_false,false_or]
   by_cases bN:cI*2=(bQ:Int)
   ·simp only [bN,decide_true,cond_true,true_and]
    rcases Nat.mod_two_eq_zero_or_one F.natAbs with N | N
    ·simp only [N];rfl
    ·simp only [N];rfl
   ·simp only [bN,decide_false,cond_false,false_and,if_false]
section
variable {a K:S} {c aZ l m a7 bQ:Nat} {aC aX:List Nat} {Z:U} {L aT:Int} {p aI:Bool}
theorem pD.bH(r:cL cA Z a c (D.aN a7))(N:l=(D.aN a7).length)(aG:cL cA Z K aZ (D.aN bQ))(f:m=(D.aN bQ).length)(b:(D.aN a7).length≤300000)(d:(D.aN bQ).length≤300000):a4 pD.id #[.agg #[.bool p,.slice a l c],.agg #[.bool aI,.slice K m aZ]] Z fun v aB=>bK Z aB∧g5 Z aB v (oN (c7 (p,a7)) (c7 (aI,bQ))):=by rw [← LV];exact pD.b5 r N b aG f d
end
namespace mJ
def a5.v(a:Bool)(b:Nat)(c:Bool)(d:Nat)(e:Bool)(e:Nat):(Bool × Nat):=
 gB (oN (c7 (a,b)) (c7 (c,d))) fun a=>
 (a.1,a.2)
theorem a5.b5{Y:aF}{a2 Z:U}(d:bK a2 Z){k:Bool}{s:S}{u:Nat}{e:Nat}(G:cL cA Z s u (D.aN e))(Q:(D.aN e).length≤300000){i:Nat}(a:eM Z i [.bool k,.slice s (D.aN e).length u])(T:a2.size≤i){l:Bool}{w:S}{x:Nat}{f:Nat}(H:cL cA Z w x (D.aN f))(V:(D.aN f).length≤300000){j:Nat}(b:eM Z j [.bool l,.slice w (D.aN f).length x])(Qx:a2.size≤j){y:Bool}{z:S}{A:Nat}{m:Nat}(Qy:cL cA Z z A (D.aN m))(Qz:(D.aN m).length≤300000){fQ:Nat}(c:eM Z fQ [.bool y,.slice z (D.aN m).length A])(B:a2.size≤fQ)(QA:i ≠ j)(C:i ≠ fQ)(E:j ≠ fQ)(g:h6 g5 a2 Y (a5.v k e l f y m)):a5.t Y (⟨i,0,none⟩:Addr) (⟨j,0,none⟩:Addr) (⟨fQ,0,none⟩:Addr) Z:=by
 have F:=bK.refl Z
 have QB:=a.lt
 have QC:=b.lt
 have QD:=c.lt
 have QE:(D.aN 0).length=0:=by simp [D.e0]
 unfold a5.v at g
 unfold a5.t
 refine dJ a (cB _ _) rfl ?_
 refine dB rfl ?_
 refine dJ a (cB _ _) rfl ?_
 refine bL rfl ?_
 refine dJ b (cB _ _) rfl ?_
 refine dB rfl ?_
 refine dJ b (cB _ _) rfl ?_
 refine bL rfl ?_
 refine cD (pD.bH G rfl H rfl (by first | assumption | decide | omega) (by first | assumption | decide | omega)) fun v QF ⟨h,aG⟩=>?_
 obtain⟨QG,n⟩:∃ p,p=oN (c7 (k,e)) (c7 (l,f)):=⟨_,rfl⟩
 rw [← n] at aG
 replace g:=gR n g
 have I:=LF k e l f
 rw [← n] at I
 obtain⟨QH,QI,rfl,o⟩:=aG
 refine fH rfl (cS (dB rfl (cS (bL rfl (eG (?_))))))
 have o:=o.from d.le
 have QJ:=h.c2
 have a:=a.aU h
 have b:=b.aU h
 have c:=c.aU h
 have d:=d.trans h
 have F:=F.trans h
 refine e8 c (cB _ _) rfl fun QK c q J=>?_
 have a:=a.cR C q
 have b:=b.cR E q
 have d:=cG.aU d q B
 refine e8 c (cB _ _) rfl fun QL c r P=>?_
 have a:=a.cR C r
 have b:=b.cR E r
 have d:=cG.aU d r B
 refine dJ c (cB _ _) rfl ?_
 refine dB rfl ?_
 refine dJ c (cB _ _) rfl ?_
 refine bL rfl ?_
 exact g _ _ d ⟨_,_,rfl,(o.c2 (J.trans P))⟩
def aP.v(a:Bool)(b:Nat)(c:Bool)(d:Nat):(Bool × Nat):=
 bif c then
  gB (dV (-c7 (a,b))) fun e=>
  gB (dV (-c7 (c,d))) fun f=>
  a5.v e.1 e.2 f.1 f.2 false 0
 else
  a5.v a b c d false 0
theorem aP.b5{Y:aF}{a2 Z:U}(a:bK a2 Z){q:Bool}{Q:S}{T V:Nat}{i:Nat}(Qx:cL cA Z Q T (D.aN i))(QK:V=(D.aN i).length)(QT:(D.aN i).length≤150000){r:Bool}{Qy:S}{Qz QA:Nat}{j:Nat}(QB:cL cA Z Qy Qz (D.aN j))(QL:QA=(D.aN j).length)(QU:(D.aN j).length≤150000)(g:h6 g5 a2 Y (aP.v q i r j)):aP.t Y q Q V T r Qy QA Qz Z:=by
 subst QK QL
 have c:=bK.refl Z
 have QV:(D.aN 0).length=0:=by simp [D.e0]
 unfold aP.v at g
 unfold aP.t
 refine fJ fun s b G=>?_
 have u:a2.size≤Z.size:=a.le
 have QC:Z.size≤Z.size:=c.le
 have QM:=b.lt
 have w:=G.c2
 have a:=a.trans G
 have c:=c.trans G
 refine fJ fun m d x=>?_
 have k:Z.size ≠ s.size:=Nat.ne_of_lt b.lt
 have y:a2.size≤s.size:=a.le
 have QD:Z.size≤s.size:=c.le
 have QN:=d.lt
 have n:=x.c2
 have b:=b.aU x
 have a:=a.trans x
 have c:=c.trans x
 refine fJ fun QO e o=>?_
 have z:Z.size ≠ m.size:=Nat.ne_of_lt b.lt
 have A:s.size ≠ m.size:=Nat.ne_of_lt d.lt
 have e:eM QO (m.size) [.bool false,.slice none (D.aN 0).length 0]:=by rw [D.e0];exact e
 have QE:a2.size≤m.size:=a.le
 have QW:Z.size≤m.size:=c.le
 have QX:=e.lt
 have l:=o.c2
 have b:=b.aU o
 have d:=d.aU o
 have a:=a.trans o
 have c:=c.trans o
 refine dJ d (cB _ _) rfl ?_
 refine dB rfl ?_
 refine yS g (fun QP g=>?_) (fun QP g=>?_)
 ·refine⟨iV rfl ((n.trans l).lt QM),?_⟩
  refine dJ b (cB _ _) rfl ?_
  refine dB rfl ?_
  refine dJ b (cB _ _) rfl ?_
  refine bL rfl ?_
  refine cD (nQ.bH (Qx.c2 (w.trans (n.trans l))) rfl) fun v QY ⟨f,aG⟩=>?_
  obtain⟨QZ,H⟩:∃ p,p=dV (-c7 (q,i)):=⟨_,rfl⟩
  rw [← H] at aG
  replace g:=gR H g
  have QQ:=C7 q i
  rw [← H] at QQ
  obtain⟨Q0,Q1,rfl,I⟩:=aG
  refine fH rfl (cS (dB rfl (cS (bL rfl (eG (?_))))))
  have I:=I.from a.le
  have QF:=f.c2
  have b:=b.aU f
  have d:=d.aU f
  have e:=e.aU f
  have a:=a.trans f
  have c:=c.trans f
  refine⟨f.gI (Nat.le_refl _),?_⟩
  refine⟨iV rfl ((l).lt QN),?_⟩
  refine dJ d (cB _ _) rfl ?_
  refine dB rfl ?_
  refine dJ d (cB _ _) rfl ?_
  refine bL rfl ?_
  refine cD (nQ.bH (QB.c2 (w.trans (n.trans (l.trans QF)))) rfl) fun v Q2 ⟨h,aG⟩=>?_
  obtain⟨Q3,J⟩:∃ p,p=dV (-c7 (r,j)):=⟨_,rfl⟩
  rw [← J] at aG
  replace g:=gR J g
  have QR:=C7 r j
  rw [← J] at QR
  obtain⟨Q4,Q5,rfl,P⟩:=aG
  refine fH rfl (cS (dB rfl (cS (bL rfl (eG (?_))))))
  have P:=P.from a.le
  have QS:=h.c2
  have b:=b.aU h
  have d:=d.aU h
  have e:=e.aU h
  have a:=a.trans h
  have c:=c.trans h
  refine⟨h.gI (QF).le,?_⟩
  refine e8 b (cB _ _) rfl fun Q6 b B QG=>?_
  have d:=d.cR (Ne.symm k) B
  have e:=e.cR (Ne.symm z) B
  have a:=cG.aU a B u
  have c:=cG.aU c B QC
  refine e8 b (cB _ _) rfl fun Q7 b C QH=>?_
  have d:=d.cR (Ne.symm k) C
  have e:=e.cR (Ne.symm z) C
  have a:=cG.aU a C u
  have c:=cG.aU c C QC
  refine e8 d (cB _ _) rfl fun Q8 d E QI=>?_
  have b:=b.cR k E
  have e:=e.cR (Ne.symm A) E
  have a:=cG.aU a E y
  have c:=cG.aU c E QD
  refine e8 d (cB _ _) rfl fun Q9 d F QJ=>?_
  have b:=b.cR k F
  have e:=e.cR (Ne.symm A) F
  have a:=cG.aU a F y
  have c:=cG.aU c F QD
  exact a5.b5 a (I.c2 (QS.trans (QG.trans (QH.trans (QI.trans QJ))))).rd (by first | assumption | decide | omega) b u (P.c2 (QG.trans (QH.trans (QI.trans QJ)))).rd (by first | assumption | decide | omega) d y (GA _ _ _) (by first | assumption | decide | omega) e QE k z A g
 ·exact a5.b5 a (Qx.c2 (w.trans (n.trans l))) (by first | assumption | decide | omega) b u (QB.c2 (w.trans (n.trans l))) (by first | assumption | decide | omega) d y (GA _ _ _) (by first | assumption | decide | omega) e QE k z A g
def v(a:Bool)(b:Nat)(c:Bool)(d:Nat):(Bool × Nat):=aP.v a b c d
theorem b5{Z:U}{a:Bool}{b:S}{c d:Nat}{e:Nat}(f:cL cA Z b c (D.aN e))(g:d=(D.aN e).length)(h:(D.aN e).length≤150000){i:Bool}{j:S}{k l:Nat}{m:Nat}(n:cL cA Z j k (D.aN m))(o:l=(D.aN m).length)(p:(D.aN m).length≤150000):a4 id #[.agg #[.bool a,.slice b d c],.agg #[.bool i,.slice j l k]] Z fun b c=>bK Z c∧g5 Z c b (v a e i m):=
 ok (aP.b5 (bK.refl _) f g h n o p fun v aB R aG=>⟨R,aG⟩)
end mJ
theorem LW{a K:Int}(a3:K ≠ 0):mG (-a) (-K)=mG a K:=by
 rw [Lu]
 unfold mG
 rw [C0,Int.natAbs_neg]
 have:decide (-K < 0)=!decide (K < 0):=by
  by_cases b:K < 0
  ·simp [b];omega
  ·simp [b];omega
 rw [this];congr 1
 cases decide (a < 0) <;> cases decide (K < 0) <;> rfl
theorem LX(K c:Bool)(a7 bQ:Nat):mJ.v K a7 c bQ=xJ (c7 (K,a7)) (c7 (c,bQ)):=by
 unfold mJ.v mJ.aP.v mJ.a5.v
 simp only [gB,xK]
 cases c
 ·rw [cond_false]
  have Z:¬ c7 (false,bQ) < 0:=by rw [nR];unfold dK;simp
  show oN (c7 (K,a7)) (c7 (false,bQ))=_
  unfold oN xJ;rw [if_neg Z]
 ·rw [cond_true]
  have Z:¬ -c7 (true,bQ) < 0:=by rw [nR];unfold dK;simp
  show oN (-c7 (K,a7)) (-c7 (true,bQ))=_
  unfold oN xJ;rw [if_neg Z]
  by_cases a2:c7 (true,bQ)=0
  ·rw [if_pos (by omega),if_pos a2]
  ·rw [if_neg (by omega),if_neg a2,LW a2]
section
variable {a K:S} {c aZ l m a7 bQ:Nat} {aC aX:List Nat} {Z:U} {L aT:Int} {p aI:Bool}
theorem mJ.bH(r:cL cA Z a c (D.aN a7))(N:l=(D.aN a7).length)(aG:cL cA Z K aZ (D.aN bQ))(f:m=(D.aN bQ).length)(b:(D.aN a7).length≤150000)(d:(D.aN bQ).length≤150000):a4 mJ.id #[.agg #[.bool p,.slice a l c],.agg #[.bool aI,.slice K m aZ]] Z fun v aB=>bK Z aB∧g5 Z aB v (xJ (c7 (p,a7)) (c7 (aI,bQ))):=by rw [← LX];exact mJ.b5 r N b aG f d
end
end Go.Proofs.YtjijdlkpmngolaaGreat.G
