import Derived.Test.YtelmicicapbgeaaKC0
import Derived.Test.YtelmicicapbgeaaKC1
import Derived.Test.YtelmicicapbgeaaKC2
import Derived.Test.YtelmicicapbgeaaKC3
import Derived.Test.YtelmicicapbgeaaKN0
import Derived.Test.YtelmicicapbgeaaKN1
import Derived.Test.YtelmicicapbgeaaKN2
import Derived.Test.YtelmicicapbgeaaKN3
import Derived.Test.YtelmicicapbgeaaKN4
import Derived.Test.YtelmicicapbgeaaKN5
import Derived.Test.YtelmicicapbgeaaKN6
import Derived.Test.YtelmicicapbgeaaKN7
namespace Go.Proofs.Ytelmicicapbgeaa.G
open Go.Gv
set_option linter.unusedVariables false
set_option maxRecDepth 100000
theorem oP{a6 n:Nat}(Z:nM a6 n=true){O:Nat}(aI:a6≤O)(d:O < a6+n):q9 O=true:=by
 have b:=sM Z (O - a6) (by omega)
 have a:q9 (Nat.add a6 (O - a6))=true:=b
 have c:Nat.add a6 (O - a6)=O:=by show a6+(O - a6)=O;omega
 rw [c] at a;exact a
theorem Cn{O:Nat}(a:O < 1036):q9 O=true:=by
 by_cases o:O < 130
 ·exact oP G5 (by omega) (by omega)
 by_cases aI:O < 260
 ·exact oP G6 (by omega) (by omega)
 by_cases b:O < 390
 ·exact oP G7 (by omega) (by omega)
 by_cases c:O < 520
 ·exact oP G8 (by omega) (by omega)
 by_cases d:O < 650
 ·exact oP G9 (by omega) (by omega)
 by_cases e:O < 780
 ·exact oP Ha (by omega) (by omega)
 by_cases f:O < 910
 ·exact oP Hb (by omega) (by omega)
 exact oP Hc (by omega) (by omega)
theorem Co{O:Nat}(Z:q9 O=true):(∀ N,N < 53→u6 (fU O) O N=true)∧Sep (fU O) (2 ^ 150):=by
 unfold q9 at Z
 rw [iW,iW] at Z
 have b:∀ {a N:Bool},cond a N false=true→a=true∧N=true:=by intro a N;cases a <;> cases N <;> decide
 obtain⟨aI,c⟩:=b Z
 obtain⟨d,e⟩:=b c
 exact⟨fun N f=>sM aI N f,GU d e⟩
noncomputable def xX(n O:Nat):Bool:=
 gA (fU O) fun a=>gA (Nat.div iD (Nat.pow 2 n)) fun P=>gA (Nat.pow 2 (Nat.add O 1657)) fun cG=>cond (Nat.ble (Nat.mul a P) cG) (cond (Nat.ble (Nat.succ cG) (Nat.mul (Nat.succ a) (Nat.succ P))) (Nat.ble (Nat.succ a) P) false) false
theorem Hd:pS (xX 3000) 1036=true:=by kernel_rfl
theorem He{n L O:Nat}(a:n=4400 - L)(Z:xX n O=true):sX (fU O) (dO L) (2 ^ (O+1657)):=by
 unfold xX at Z
 rw [iW,iW,iW,xP a,l9,l9,oO] at Z
 split at Z
 ·rename_i aI
  split at Z
  ·rename_i b
   exact⟨aI,b,Nat.le_of_ble_eq_true Z⟩
  ·cases Z
 ·cases Z
noncomputable def xY(n F g:Nat):Bool:=gA (Nat.div iD (Nat.pow 2 n)) fun P=>Nat.ble (Nat.add (Nat.mul bL (Nat.pow 2 g)) (Nat.mul 36028797018963968 P)) (Nat.mul (Nat.pow 2 F) P)
theorem Hf:xY 3000 150 1200=true:=by kernel_rfl
theorem Hg{n L F g:Nat}(a:n=4400 - L)(Z:xY n F g=true):bL*2 ^ g+36028797018963968*dO L≤2 ^ F*dO L:=by
 unfold xY at Z
 rw [iW,xP a,oO,oO] at Z
 exact Nat.le_of_ble_eq_true Z
theorem Cp{bW m F t n:Nat}(Z:2 ^ F=bW)(a:n+F=t):bW*(m*2 ^ n)=m*2 ^ t:=by
 rw [← Z,← a,Nat.pow_add,Nat.mul_left_comm,Nat.mul_comm (2 ^ F)]
theorem Hh{a6 aK a7 eY L F t b7:Nat}(aI:2 ^ a7≤a6)(e:a6 < aK)(b:a6 < 2 ^ (a7+1))(c:a7+eY=L+F)(d:a7+1+eY=L+t):2 ^ L*2 ^ F < aK*2 ^ eY∧a6*2 ^ eY < 2 ^ L*2 ^ t:=by
 have a:0 < 2 ^ eY:=Nat.pow_pos (by decide)
 rw [← Nat.pow_add,← Nat.pow_add,← c,← d,Nat.pow_add,Nat.pow_add]
 exact⟨Nat.mul_lt_mul_of_pos_right (by omega) a,Nat.mul_lt_mul_of_pos_right b a⟩
theorem Cq{n:Nat}(Z:n ≠ 0):∃ a7,dK n=a7+1∧2 ^ a7≤n∧n < 2 ^ (a7+1):=by
 refine⟨dK n - 1,by have:=lY Z;omega,?_,?_⟩
 ·refine Nat.le_of_not_lt fun a=>?_
  have:=hH.mpr a
  have:=lY Z;omega
 ·have:=lY Z
  rw [show dK n - 1+1=dK n by omega]
  exact hH.mp (Nat.le_refl _)
theorem Hi{n b7:Nat}(Z:2 ^ b7≤n):b7 < dK n:=by
 refine Nat.lt_of_not_le fun a=>?_
 have:=hH.mp a;omega
theorem Hj{Q P a c M:Nat}(b:M≤a+c)(Z:Q < 2 ^ M)(d:2 ^ c≤P):Q < 2 ^ a*P:=by
 refine Nat.lt_of_lt_of_le (Nat.lt_of_lt_of_le Z (Nat.pow_le_pow_right (by decide) b)) ?_
 rw [Nat.pow_add]
 exact Nat.mul_le_mul_left _ d
theorem Hk{Q P a c M:Nat}(b:0 < P)(d:M≤a+c)(Z:Q < 2 ^ M)(e:3*2 ^ c≤P):Q / P < 2 ^ a:=by
 rw [Nat.div_lt_iff_lt_mul b]
 exact Hj d Z (by omega)
theorem Hl{n x a c:Nat}(Z:a < c)(aI:n≤x+1)(b:x < 2 ^ a):max 1 n < 2 ^ c:=by
 have d:=m0 Z
 have e:0 < 2 ^ a:=Nat.pow_pos (by decide)
 exact Nat.max_lt.mpr ⟨by omega,by omega⟩
theorem Hm(aU aA aL aR a e6:Int)(U P:Nat):iV.aD.v aU aA aL aR a (z U) e6 (z P)=
  cond ((((D.z P).length:Nat):Int) == 0) false (cond (decide (e6≤(-70:Int))) false (cond (decide (e6 > (200:Int))) false (iV.bP.v aU aA aL aR a (z U) e6 false P (dQ.v a aL false U false P aR).1.1 (dQ.v a aL false U false P aR).1.2 (dQ.v a aL false U false P aR).2.1 (dQ.v a aL false U false P aR).2.2))):=by
 have c:∀ n,iK (false,z n)=(n:Int):=fun n=>by unfold iK;simp [dZ]
 unfold iV.aD.v iV.a4.v
 rw [c,c,p1,p1]
 generalize iV.bP.v=a3
 generalize dQ.v=g
 generalize D.z=d
 generalize z U=e
 have b:∀ {cS g8:Type} (Q:cS) (a3:cS→g8),dD Q a3=a3 Q:=fun _ _=>rfl
 rw [b,b,b]
structure Cr(N O:Nat)(m U:Nat)(up:Bool):Prop where
 pick:pV 80 (fU O) (2 ^ N) (2 ^ (N+1) - 1)=some (m,up)
 eT:U=gR (fU O) m up
 told:Told 1400 (m*2 ^ (O+1337)) U
 lR:2 ^ N≤m
 mD:m≤2 ^ (N+1) - 1
 cQ:1≤U
 d1:-70 < j4 1400 (m*2 ^ (O+1337)) U
 d2:j4 1400 (m*2 ^ (O+1337)) U≤200
theorem binade{N O:Nat}(c:N < 53)(e:O < 1036):∃ m U up,Cr N O m U up:=by
 obtain⟨aI,f⟩:=Co (Cn e)
 obtain⟨m,up,d,a⟩:=GO (aI N c)
 obtain⟨iM,gC,g⟩:=sW c
 obtain⟨aB,b,_,_⟩:=Ce d (by omega) iM (by omega) (Nat.pow_pos (by decide)) f
 refine⟨m,_,up,d,rfl,a,b.lR,b.mD,b.cQ,?_,?_⟩
 ·have:=hH.mpr (Nat.lt_of_le_of_lt a.GK (m0 (M:=1470) (U:=1471) (by decide)))
  unfold j4;omega
 ·have:=Hi a.low
  unfold j4;omega
theorem Hn{N O a5 m U:Nat}{up:Bool}(IA:N < 53)(IB:O < 1036)(IV:a5 < 18446744073709551616)(a7:Cr N O m U up):
  iV.aD.v (a5:Int) ((N+1:Nat):Int) ((O:Int) - 64) 1400 (m:Int) (z U) (j4 1400 (m*2 ^ (O+1337)) U) (z (dO 1400))=true:=by
 obtain⟨_,i⟩:=Co (Cn IB)
 obtain⟨iM,gC,Ji⟩:=sW IA
 obtain⟨aB,j,_,_⟩:=Ce a7.pick (by omega) iM (by omega) (Nat.pow_pos (by decide)) i
 rw [← a7.eT] at j
 have H:=He (n:=3000) (L:=1400) rfl (sM Hd O IB)
 have Iv:=Hg (n:=3000) (L:=1400) rfl Hf
 have IC:=Bz (L:=1400) (by decide)
 have ID:=a7.d1
 have IE:=a7.d2
 have side:=a7.told.side
 have bits:=a7.told.bits
 have b0:=a7.told.b0
 have cQ:=a7.cQ
 have Iw:=Cp (m:=m) (F:=320) (t:=O+1657) (n:=O+1337) pW (by omega)
 have h:Int.toNat (IntKind.i64.wrap (IntKind.i64.wrap ((1400:Int)+1)+((O:Int) - 64)))=O+1337:=by
  rw [wrap_i64 (Q:=(1400:Int)+1) (by decide) (by decide),wrap_i64 (by omega) (by omega)];omega
 have IW:Int.toNat (IntKind.i64.wrap ((1400:Int)+1))=1401:=by
  rw [wrap_i64 (Q:=(1400:Int)+1) (by decide) (by decide)];rfl
 have Ix:36028797018963969≤2 ^ 150:=Nat.le_trans (show 36028797018963969≤2 ^ 56 by decide) (Nat.pow_le_pow_right (by decide) (by decide))
 have IF:=GX j iM (by omega) Ix i H Iw
 obtain⟨e,IG,IH,II⟩:=Cq b0
 have IX:Int.toNat (IntKind.i64.wrap (j4 1400 (m*2 ^ (O+1337)) U+70))=1472 - (e+1)∧e+1≤1471:=by
  unfold j4 at ID IE ⊢
  rw [IG] at ID IE ⊢
  rw [wrap_i64 (by omega) (by omega)];omega
 obtain⟨s,IJ,IY,IK⟩:=G1 (a5:=a5) IV IA
 have IL:=Cp (m:=s) (F:=320) (t:=O+1657) (n:=O+1337) pW (by omega)
 have IZ:s*2 ^ (O+1337) < 2 ^ (53+(O+1338)):=rE (Nat.lt_of_le_of_lt IK (show 2 ^ (N+1) - 1 < 2 ^ 53 by rw [show(2:Nat) ^ 53=9007199254740992 by decide];omega)) (m0 (by omega))
 have IM:0 < dO 1400:=Nat.lt_of_lt_of_le (Nat.mul_pos (by decide) (Nat.pow_pos (by decide))) IC
 have I0:=Hl (a:=1100) (c:=1200) (by decide) (Cg (s*2 ^ (O+1337)) (dO 1400)) (Hk (a:=1100) (c:=1400) IM (show 53+(O+1338)≤1100+1400 by omega) IZ IC)
 obtain⟨G,IN⟩:∃ G,G=2 ^ 1200:=⟨_,rfl⟩
 rw [← IN] at Iv I0
 clear IN
 have p0:s ≠ m→eK (m*2 ^ (O+1337)) (U*dO 1400)+G≤eK (s*2 ^ (O+1337)) (max 1 (gZ (s*2 ^ (O+1337)) (dO 1400))*dO 1400):=fun d=>
  GV j iM (by omega) (Nat.le_trans (by decide) Ix) i H Iv Iw IL IY IK (by omega) d
 have IP:=GY (m:=s) (k:=(O:Int) - 64) h (Nat.ne_of_gt IM)
 have I1:=Ck (m:=m) (U:=U) (P:=dO 1400) (k:=(O:Int) - 64) h
 have jO:=Cl (m:=m) (U:=U) (P:=dO 1400) (k:=(O:Int) - 64) h cQ
 have I2:=Ck (m:=s) (U:=max 1 (gZ (s*2 ^ (O+1337)) (dO 1400))) (P:=dO 1400) (k:=(O:Int) - 64) h
 have I3:=Cl (m:=s) (U:=max 1 (gZ (s*2 ^ (O+1337)) (dO 1400))) (P:=dO 1400) (k:=(O:Int) - 64) h (by omega)
 obtain⟨I4,I5,IQ,IS⟩:=Cq a7.told.dF
 rw [← bits,IG] at I5
 obtain rfl:e=I4:=by omega
 have I6:=fun a6 aK (aI:2 ^ e≤a6) (g:a6 < aK) (I7:a6 < 2 ^ (e+1))=>Hh (eY:=1472 - (e+1)) (L:=1401) (F:=70) (t:=71) (b7:=0) aI g I7 (by omega) (by omega)
 have bP:=fun a6 aK aI g lK x I8 I9 Ja=>G4 (aU:=(a5:Int)) (aA:=((N+1:Nat):Int)) (aL:=(O:Int) - 64) (aR:=1400) (e6:=j4 1400 (m*2 ^ (O+1337)) U) (m:=m) (P:=dO 1400) (a6:=a6) (aK:=aK) (s:=s) (A:=max 1 (gZ (s*2 ^ (O+1337)) (dO 1400))) (lK:=lK) (U:=U) (x:=x) IJ IW IX.1 (F:=70) (t:=71) rfl rfl aI g IP I8 I9 Ja
 have Iy:s=m→max 1 (gZ (s*2 ^ (O+1337)) (dO 1400))=U:=fun Z=>by rw [Z];exact IF
 have Jb:s=m→s*2 ^ (O+1337)=m*2 ^ (O+1337):=fun Z=>by rw [Z]
 have Jc:((D.z (dO 1400)).length:Int) ≠ 0:=by
  intro o
  have o:(D.z (dO 1400)).length≤0:=by omega
  have:=D.e2.mp o
  rw [Nat.mul_zero,Nat.pow_zero] at this;omega
 clear a7 j H Iv Iw IL Ix IF i IJ IP
 rw [Hm]
 rw [beq_false_of_ne Jc,cond_false,decide_eq_false (by omega),cond_false,decide_eq_false (by omega),cond_false]
 generalize j4 1400 (m*2 ^ (O+1337)) U=D at *
 generalize dO 1400=P at *
 generalize max 1 (gZ (s*2 ^ (O+1337)) P)=A at *
 generalize s*2 ^ (O+1337)=b at *
 generalize m*2 ^ (O+1337)=aH at *
 have Jd:s ≠ m→(A*P+A≤b∨b≤A*P):=fun d=>by
  have aI:=p0 d
  by_cases g:b≤A*P
  ·exact Or.inr g
  ·left
   have:eK b (A*P)=b - A*P:=if_neg (by omega)
   omega
 have IT:∀ a6,a6≤eK aH (U*P)→(s ≠ m→(A*P+A≤b→a6 < b - A*P)∧(b≤A*P→a6 < A*P+A - b)):=fun a6 Iz d=>by
  have aI:=p0 d
  constructor <;> intro g
  ·have:eK b (A*P)=b - A*P:=if_neg (by omega)
   omega
  ·have:eK b (A*P)≤A*P - b:=by unfold eK;split <;> omega
   omega
 have fin:∀ a6 aK,a6≤eK aH (U*P)→2 ^ e≤a6→a6 < aK→a6 < 2 ^ (e+1)→(s=m→A*P+A≤b∨b≤A*P)→iV.bP.v (a5:Int) ((N+1:Nat):Int) ((O:Int) - 64) 1400 (m:Int) (z U) D false P false a6 false aK=true:=by
  intro a6 aK Iz Je Jf Jg l
  have E:=I6 a6 aK Je Jf Jg
  have f:A*P+A≤b∨b≤A*P:=by
   by_cases Z:s=m
   ·exact l Z
   ·exact Jd Z
  rcases f with f | f
  ·exact bP a6 aK E.1 E.2 _ _ (I2 f) Iy fun d=>(IT a6 Iz d).1 f
  ·exact bP a6 aK E.1 E.2 _ _ (I3 f) Iy fun d=>(IT a6 Iz d).2 f
 have l:s=m→A*P+A≤b∨b≤A*P:=fun Z=>by rw [Iy Z,Jb Z];omega
 rcases side with aZ | aZ
 ·rw [I1 (Nat.le_of_lt aZ)]
  have IU:eK aH (U*P)=aH - U*P:=if_neg (by omega)
  have Jh:eK aH (U*P+U)=aH - (U*P+U):=if_neg (by omega)
  rw [Jh] at IQ IS
  exact fin (aH - (U*P+U)) (aH - U*P) (by omega) IQ (by omega) IS l
 ·rw [jO (Nat.le_of_lt aZ)]
  have IU:eK aH (U*P)=U*P - aH:=if_pos aZ
  rw [IU] at IH II
  exact fin (U*P - aH) (U*P+U - aH) (by omega) IH (by omega) II l
end Go.Proofs.Ytelmicicapbgeaa.G
namespace Go.Gv
theorem wf_u16{n:Int}(Z:(Lit.int .u16 n).wf=true):0≤n∧n < 65536:=by
 simp only [Lit.wf,Bool.and_eq_true,decide_eq_true_eq,IntKind.min,IntKind.max,IntKind.signed,IntKind.bits,Bool.false_eq_true,if_false] at Z
 have a:(2:Int) ^ 16=65536:=by decide
 rw [a] at Z;omega
end Go.Gv
namespace Go.Proofs.Ytelmicicapbgeaa.G
open Go.Gv
set_option linter.unusedVariables false
set_option maxRecDepth 100000
theorem Cs{a a7:Prop}(g:a7):cond ((0:Int) != 0) a a7:=g
theorem Ho:(z (dO 1400)).length≤1000:=xC (U:=4403) (Nat.lt_of_le_of_lt (show dO 1400≤iD from Nat.div_le_self _ _) (Nat.le_of_ble_eq_true (by kernel_rfl))) (by omega)
theorem Hp{Q k a5:Int}{Z:V}(IX:0≤Q∧Q < 65536)(IY:0≤k∧k < 65536)(IZ:0≤a5∧a5 < 18446744073709551616):
  aG iV.id #[.int .u16 Q,.int .u16 k,.int .u64 a5] Z fun v K=>a2 Z K∧v=.bool true:=by
 obtain⟨n,rfl⟩:∃ n:Nat,Q=(n:Int):=⟨Q.toNat,by omega⟩
 obtain⟨M,rfl⟩:∃ n:Nat,k=(n:Int):=⟨k.toNat,by omega⟩
 obtain⟨L,rfl⟩:∃ n:Nat,a5=(n:Int):=⟨a5.toNat,by omega⟩
 have b:n % 53 < 53:=Nat.mod_lt _ (by decide)
 have d:M % 1036 < 1036:=Nat.mod_lt _ (by decide)
 refine iV.ok ?_
 unfold iV.t iV.u.t
 refine b9 (n:Int) rfl (by omega) (by omega) ?_
 refine⟨by decide,aN.mk ?_⟩
 rw [show(n:Int).tmod 53=((n % 53:Nat):Int) by rw [Int.tmod_eq_emod_of_nonneg (by omega)];omega]
 generalize n % 53=N at *
 refine b9 ((N+1:Nat):Int) (by omega) (by omega) (by omega) ?_
 refine b9 (M:Int) rfl (by omega) (by omega) ?_
 refine⟨by decide,aN.mk ?_⟩
 rw [show(M:Int).tmod 1036=((M % 1036:Nat):Int) by rw [Int.tmod_eq_emod_of_nonneg (by omega)];omega]
 generalize M % 1036=O at *
 refine b9 ((O:Int) - 64) rfl (by omega) (by omega) ?_
 obtain⟨m,U,up,a7⟩:=binade b d
 obtain⟨iM,gC,I0⟩:=sW b
 have aD:=Hn b d (show L < 18446744073709551616 by omega) a7
 have I1:=a7.lR
 have I2:=a7.mD
 have I3:=a7.cQ
 have I4:=a7.d1
 have I5:=a7.d2
 have Iz:U < 2 ^ 2000:=by
  have IA:=xR d
  have aI:=rE (rA (show m < 18446744073709551616 by omega)) IA
  have G:m*fU O / bL≤m*fU O:=Nat.div_le_self _ _
  obtain⟨e,IB,H⟩:∃ e,e < 2000∧m*fU O / bL+1 < 2 ^ e:=⟨64+1400+1,by decide,xN (Nat.lt_of_le_of_lt G aI)⟩
  have Iv:gR (fU O) m up≤m*fU O / bL+1:=by unfold gR;cases up <;> simp only [Nat.add_eq,u4,Nat.mul_eq,cond_true,cond_false] <;> omega
  rw [a7.eT]
  exact Nat.lt_of_le_of_lt Iv (Nat.lt_trans H (m0 (M:=e) (U:=2000) IB))
 have IC:(z U).length≤1000:=xC Iz (by omega)
 have told:=a7.told
 rw [a7.eT] at told
 have g:=GP Z b d a7.pick told
 rw [← a7.eT] at g
 refine bE g fun v aI ⟨h,a,c,cI,i⟩=>?_
 subst cI
 clear g told a7
 generalize j4 1400 (m*2 ^ (O+1337)) U=D at *
 refine fR rfl (a9 (cF rfl (a9 (bJ rfl (a9 (aQ rfl (a9 (bJ rfl (b3 ?_)))))))))
 refine a9 (bJ rfl (b3 ?_))
 refine dH fun G ID Iw=>?_
 refine qO ID (U:=0) (Nat.le_of_ble_eq_true rfl) fun H IE IF=>?_
 refine qO IE (U:=1) (Nat.le_of_ble_eq_true rfl) fun Iv IG IH=>?_
 refine qO IG (U:=2) (Nat.le_of_ble_eq_true rfl) fun f II IJ=>?_
 have Ix:=(IF.trans IH).trans IJ
 have Iy:a2 Z f:=aV.I (h.trans Iw) Ix h.le
 have IK:cH dB Z f a c (z U):=
  ⟨i.len,i.cap,i.here.imp id fun ⟨N,rest,IL,IM,s,IN⟩=>⟨N,rest,IL,IM,(s.I Iw).aJ (by have:=s.lt;omega) Ix,IN⟩⟩
 have IP:cY f aI.size [.int .u64 (m:Int),.slice a (z U).length c,.int .i64 D]:=II
 refine bE (BG f (y:=1400) (by decide) (by decide)) fun v I6 ⟨j,IQ⟩=>?_
 refine IQ.g9 fun I7 I8 IS I9=>?_
 refine Cs ?_
 refine Cs ?_
 have l:=IP.I j
 refine r6 l (U:=1) rfl ?_
 have IT:(z U).length ≠ 0:=fun E=>by have:=l7.mp E;omega
 refine fP (fun E=>absurd (by exact_mod_cast E) IT) fun _=>?_
 refine wU l (U:=0) rfl ?_
 refine b9 (N:Int) (by omega) (by omega) (by omega) ?_
 refine jS rfl N (2 ^ N) (by omega) rfl rfl ?_
 have IU:m / 2 ^ N=1:=by
  refine Nat.le_antisymm (Nat.le_of_lt_succ ((Nat.div_lt_iff_lt_mul iM).mpr (by omega))) ((Nat.le_div_iff_mul_le iM).mpr (by omega))
 rw [IU]
 refine r1 (fun IV=>absurd rfl IV) fun _=>?_
 have IW:=Ho
 generalize dO 1400=P at *
 refine iV.aD.a1 (o:=Z) (Iy.trans j) (r4.mpr ⟨by omega,by omega⟩) (o9.mpr ⟨by omega,by omega⟩) (o9.mpr ⟨by omega,by omega⟩) (by decide) (r4.mpr ⟨by omega,by omega⟩) (IK.I j) (o9.mpr ⟨by omega,by omega⟩) l h.le (IS.from Iy.le) rfl ?_ ?_ ?_ ?_ ?_ ?_ ?_ IC IW ?_
 ·rw [wrap_i64 (Q:=(1400:Int)+1) (by decide) (by decide),wrap_i64 (by omega) (by omega)];omega
 ·rw [wrap_i64 (Q:=(1400:Int)+1) (by decide) (by decide),wrap_i64 (by omega) (by omega)];omega
 ·decide
 ·decide
 ·rw [wrap_i64 (by omega) (by omega)];omega
 ·rw [wrap_i64 (by omega) (by omega)];omega
 ·rw [wrap_i64 (by omega) (by omega)];omega
 ·intro v K cD F
  have F:v=.bool _:=F
  rw [aD] at F
  exact⟨cD,F⟩
end Go.Proofs.Ytelmicicapbgeaa.G
