import Derived.Test.YtjijdlkpmngolaaGreatKM
import Derived.Test.YtjijdlkpmngolaaGreatKB
import Derived.Test.YtjijdlkpmngolaaGreatKC0
import Derived.Test.YtjijdlkpmngolaaGreatKC1
set_option linter.unusedVariables false
namespace Go.Proofs.YtjijdlkpmngolaaGreat.G
open Go.Gv
set_option linter.unusedVariables false
structure gT(Z:U)(p:Bool)(a:S)(l c:Nat)(O:Int):Prop where
 p:p=decide (O < 0)
 l:l=(D.aN O.natAbs).length
 r:cL cA Z a c (D.aN O.natAbs)
theorem gT.aU{Z aB:U}{p:Bool}{a:S}{l c:Nat}{O:Int}(bS:gT Z p a l c O)(R:bK Z aB):gT aB p a l c O:=⟨bS.p,bS.l,bS.r.aU R⟩
theorem gT.c7{Z:U}{p:Bool}{a:S}{l c:Nat}{O:Int}(bS:gT Z p a l c O):c7 (p,O.natAbs)=O:=by
 rw [bS.p];exact y7 O
def qY(v:Value)(Z:U)(aH:Bool→S→Nat→Nat→U→Prop):Prop:=
 eQ v fun aT=>cV aT fun b eK=>eU b fun K=>cV eK fun b d=>aR b fun a l c=>b9 d (aH K a l c Z)
theorem xL{a2 Z:U}{v:Value}{O:Int}{aH:Bool→S→Nat→Nat→U→Prop}(aG:g5 a2 Z v (dV O))(g:∀ p a l c,gT Z p a l c O→cX cA a2 Z a c (D.aN O.natAbs)→aH p a l c Z):qY v Z aH:=by
 obtain⟨a,c,N,r⟩:=aG
 subst N
 exact fH rfl (cS (dB rfl (cS (bL rfl (eG (g _ _ _ _ ⟨rfl,rfl,r.rd⟩ r))))))
theorem gI{Z aB:U}{n:Nat}(R:bK Z aB)(a:n≤Z.size):e4 n Z aB:=fun K a3=>R.pre K (Nat.lt_of_lt_of_le a3 a)
section
variable {a K:S} {c aZ l m L:Nat} {Z:U} {O aD:Int} {p aI:Bool} {aH:Bool→S→Nat→Nat→U→Prop}
theorem Ba(r:cL cA Z a c (D.aN L))(b:l=(D.aN L).length)(g:∀ p a l c aB,bK Z aB→gT aB p a l c (L:Int)→aH p a l c aB):
  a4 gE.id #[.bool false,.slice a l c] Z fun v aB=>qY v aB aH:=by
 refine cD (gE.bH r b) fun v aB ⟨R,aG⟩=>?_
 exact xL (O:=(L:Int)) aG fun p a l c bS _=>g p a l c aB R bS
theorem LY(r:gT Z p a l c O)(aG:gT Z aI K m aZ aD)(b:fX O.natAbs)(d:fX aD.natAbs)(g:∀ p a l c aB,bK Z aB→gT aB p a l c (O - aD)→aH p a l c aB):
  a4 l0.id #[.agg #[.bool p,.slice a l c],.agg #[.bool aI,.slice K m aZ]] Z fun v aB=>qY v aB aH:=by
 refine cD (l0.bH (p:=p) (aI:=aI) r.r r.l aG.r aG.l b d) fun v aB ⟨R,t⟩=>?_
 rw [r.c7,aG.c7] at t
 exact xL t fun p a l c bS _=>g p a l c aB R bS
theorem LZ{aH:Int→U→Prop}(r:gT Z p a l c O)(g:∀ aB,bK Z aB→aH (hZ O 0) aB):
  a4 lD.id #[.agg #[.bool p,.slice a l c]] Z fun v aB=>a0 .i64 v fun L=>aH L aB:=by
 refine cD (lD.bH (p:=p) r.r r.l) fun v aB ⟨R,t⟩=>?_
 rw [r.c7] at t
 exact b0 t.1 (g aB R)
theorem L0{aH:Int→U→Prop}(r:gT Z p a l c O)(aG:gT Z aI K m aZ aD)(b:(D.aN O.natAbs).length≤700000)(d:(D.aN aD.natAbs).length≤700000)(g:∀ aB,bK Z aB→aH (hZ O aD) aB):
  a4 m2.id #[.agg #[.bool p,.slice a l c],.agg #[.bool aI,.slice K m aZ]] Z fun v aB=>a0 .i64 v fun L=>aH L aB:=by
 refine cD (m2.bH (p:=p) (aI:=aI) r.r r.l aG.r aG.l b d) fun v aB ⟨R,t⟩=>?_
 rw [r.c7,aG.c7] at t
 exact b0 t.1 (g aB R)
end
theorem GJ{Z:U}{N:TypeId}{dR:List Value}(e:dR.length=2){p:Bool}{a:S}{l c:Nat}{aH:Addr→U→Prop}(g:∀ aI aB,bK Z aB→Z.size≤aI→eM aB aI [.bool p,.slice a l c]→aH ⟨aI,0,none⟩ aB):
  dX Z N dR fun aI a1=>cM a1 (aI.add 0) (.bool p) fun d=>cM d (aI.add 1) (.slice a l c) fun b=>aH aI b:=by
 match dR,e with
 | [m,n],_=>
  refine fJ fun a1 f cC=>?_
  refine j5 f (by exact(by decide:0 < 2)) fun d h i=>?_
  refine j5 h (by exact(by decide:1 < 2)) fun b j k=>?_
  exact g Z.size b (cG.aU (cG.aU cC i (Nat.le_refl _)) k (Nat.le_refl _)) (Nat.le_refl _) j
theorem nS{Z:U}{aI:Nat}{p:Bool}{a:S}{l c:Nat}{aH:Bool→S→Nat→Nat→Prop}(aQ:eM Z aI [.bool p,.slice a l c])(g:aH p a l c):
  fZ Z ((⟨aI,0,none⟩:Addr).add 0) fun b=>eU b fun K=>fZ Z ((⟨aI,0,none⟩:Addr).add 1) fun d=>aR d fun a l c=>aH K a l c:=
 nJ aQ rfl (dB rfl (nJ aQ rfl (bL rfl g)))
theorem L1:48*p1 (18*18) 530 (2 ^ 4400 / 18) 1 0 0+32*p1 (57*57) 380 (2 ^ 4400 / 57) 1 0 0 - 20*p1 (239*239) 280 (2 ^ 4400 / 239) 1 0 0=hW+560:=by kernel_rfl
theorem GK:fG 18 4400 530=0:=by kernel_rfl
theorem GL:fG 57 4400 380=0:=by kernel_rfl
theorem Da{n aE bR R aH:Nat}(a:aE≤bR)(a2:fG n bR R=0)(Z:aH=0∨fG n aE (aH - 1) ≠ 0):aH≤R:=by
 rcases Z with Z | Z
 ·omega
 ·refine Nat.le_of_not_lt fun b=>Z ?_
  have:fG n aE R=0:=by rw [vM n R a,a2,Nat.zero_div]
  exact GM this (aH - 1) (by omega)
theorem Db{n aE R m:Nat}(a:fG n aE R=0)(b:fG n aE m=0):eB n aE R=eB n aE m∧eC n aE R=eC n aE m:=by
 rcases Nat.le_total R m with Z | Z
 ·have:=Bb a m Z;exact⟨this.1.symm,this.2.symm⟩
 ·exact Bb b R Z
theorem L2{aE O aD R:Nat}(b:aE≤4400)(e:fG 18 aE O=0)(f:fG 57 aE aD=0)(g:fG 239 aE R=0):
  20*(eB 239 aE R - eC 239 aE R)≤48*(eB 18 aE O - eC 18 aE O)+32*(eB 57 aE aD - eC 57 aE aD)+44000
  ∧48*(eB 18 aE O - eC 18 aE O)+32*(eB 57 aE aD - eC 57 aE aD)≤dN aE+44000+20*(eB 239 aE R - eC 239 aE R)
  ∧dN aE+20*(eB 239 aE R - eC 239 aE R)≤48*(eB 18 aE O - eC 18 aE O)+32*(eB 57 aE aD - eC 57 aE aD)+44000:=by
 have h:fG 18 aE 530=0:=by rw [vM 18 530 b,GK,Nat.zero_div]
 have i:fG 57 aE 380=0:=by rw [vM 57 380 b,GL,Nat.zero_div]
 have j:fG 239 aE 280=0:=by rw [vM 239 280 b,Dc,Nat.zero_div]
 obtain⟨k,l⟩:=Db e h
 obtain⟨m,n⟩:=Db f i
 obtain⟨o,p⟩:=Db g j
 rw [k,l,m,n,o,p]
 have q:0 < 2 ^ (4400 - aE):=Nat.pow_pos (by decide)
 have eF:=zB 18 b 530
 have r:=zB 57 b 380
 have s:=zB 239 b 280
 have t:=qZ 18 aE 530
 have u:=qZ 57 aE 380
 have w:=qZ 239 aE 280
 have x:=qZ 18 4400 530
 have y:=qZ 57 4400 380
 have z:=qZ 239 4400 280
 have d:=L1
 rw [← zC 18 4400 530 rfl,← zC 57 4400 380 rfl,← zC 239 4400 280 rfl] at d
 have aW:=Nat.div_add_mod hW (2 ^ (4400 - aE))
 have A:=Nat.mod_lt hW q
 have B:20*(eB 239 4400 280 - eC 239 4400 280)≤48*(eB 18 4400 530 - eC 18 4400 530)+32*(eB 57 4400 380 - eC 57 4400 380):=by
  refine Nat.le_of_lt (Nat.lt_of_sub_pos ?_)
  rw [d];exact Nat.succ_pos _
 unfold dN
 generalize hW / 2 ^ (4400 - aE)=a7 at *
 generalize hW % 2 ^ (4400 - aE)=bQ at *
 generalize hW=P at *
 generalize 2 ^ (4400 - aE)=D at *
 generalize eB 18 4400 530=C at *
 generalize eC 18 4400 530=E at *
 generalize eB 57 4400 380=bA at *
 generalize eC 57 4400 380=hX at *
 generalize eB 239 4400 280=aO at *
 generalize eC 239 4400 280=F at *
 generalize eB 18 aE 530=a at *
 generalize eC 18 aE 530=G at *
 generalize eB 57 aE 380=K at *
 generalize eC 57 aE 380=H at *
 generalize eB 239 aE 280=c at *
 generalize eC 239 aE 280=dI at *
 obtain⟨cY,rfl⟩:=Nat.le.dest t
 obtain⟨v,rfl⟩:=Nat.le.dest u
 obtain⟨L,rfl⟩:=Nat.le.dest w
 rw [Nat.add_sub_cancel_left,Nat.add_sub_cancel_left,Nat.add_sub_cancel_left]
 simp only [Nat.mul_add] at eF r s
 have key:∀ L aT:Nat,D*L≤D*aT+(D - 1)→L≤aT:=by
  intro L aT Z
  refine Nat.le_of_not_lt fun I=>?_
  have:=Nat.mul_le_mul_left D (show aT+1≤L by omega)
  rw [Nat.mul_add] at this;omega
 refine⟨key _ _ ?_,key _ _ ?_,key _ _ ?_⟩ <;> (simp only [Nat.mul_add,Nat.mul_left_comm D];omega)
theorem L3{aE O aD R:Nat}(a:aE≤4400)(b:fG 18 aE O=0)(c:fG 57 aE aD=0)(d:fG 239 aE R=0)(a8:O≤530)(e:aD≤380)(f:R≤280):
  vN aE (48*(eB 18 aE O - eC 18 aE O)+32*(eB 57 aE aD - eC 57 aE aD) - 20*(eB 239 aE R - eC 239 aE R) - 4*(48*(O+2)+32*(aD+2)+20*(R+2)))
   (48*(eB 18 aE O - eC 18 aE O)+32*(eB 57 aE aD - eC 57 aE aD) - 20*(eB 239 aE R - eC 239 aE R)+4*(48*(O+2)+32*(aD+2)+20*(R+2))):=by
 obtain⟨a2,a1,g⟩:=L2 a b c d
 generalize 48*(eB 18 aE O - eC 18 aE O)=h at *
 generalize 32*(eB 57 aE aD - eC 57 aE aD)=bA at *
 generalize 20*(eB 239 aE R - eC 239 aE R)=aO at *
 exact⟨by omega,by omega,by omega,by omega,by omega⟩
def GN(p:Nat):Bool:=Nat.ble 262144 (hW / 2 ^ (4336 - p) % 18446744073709551616) && Nat.ble (hW / 2 ^ (4336 - p) % 18446744073709551616) 18446744073709289471
theorem L4:vO GN 4200=true:=by kernel_rfl
theorem L5{p bW a8:Nat}(a:p < 4200)(m:vN (p+64) bW a8):bW / 18446744073709551616=dN p∧a8 / 18446744073709551616=dN p:=by
 have Z:=zD L4 p a
 simp only [GN,Bool.and_eq_true,Nat.ble_eq] at Z
 have N:hW / 2 ^ (4336 - p)=dN (p+64):=by unfold dN;congr 2;omega
 rw [N] at Z
 have b:=Bc p 64 (by omega)
 rw [show(2:Nat) ^ 64=18446744073709551616 by decide] at b
 obtain⟨c,d,e,f,g⟩:=m
 omega
theorem L6{a:S}{c l L n:Nat}{Z:U}{aH:S→Nat→Nat→U→Prop}(r:cJ Z a c (aN L))(d:l=(aN L).length)(c4:n ≠ 0)(b:n < 65536)(g7:fK L)
  (g:∀ a c aB,bK Z aB→cX dL Z aB a c (aN (L / (n*n)))→aH a (aN (L / (n*n))).length c aB) :
  a4 rV.id #[.slice a l c,.int .u64 (n:Int)] Z fun v aB=>aR v fun a l c=>aH a l c aB:=by
 refine cD (c8:=fun v aB=>bK Z aB∧∃ a c,v=.slice a (aN (L / (n*n))).length c∧cX dL Z aB a c (aN (L / (n*n)))) ?_ fun v aB ⟨R,a,c,N,r⟩=>by subst N;exact g a c aB R r
 refine rV.ok ?_
 unfold rV.t rV.aP.t
 have dC:(n:Int) < 4294967296:=by omega
 rw [decide_eq_true dC]
 have f:n*n < 4294967296:=(Nat.mul_lt_mul'' b b:n*n < 65536*65536)
 have e:n*n ≠ 0:=Nat.ne_of_gt (Nat.mul_pos (by omega) (by omega))
 show bB _ _
 refine dM (n*n) (by rw [Int.natCast_mul]) (by omega) ?_
 exact CS r d e (by omega) g7 fun a c aB R r=>⟨R,a,c,rfl,r⟩
def Dd(n aE:Nat)(Z:U)(v:Value)(aB:U):Prop:=
 bK Z aB∧∃ R a c,fG n aE R=0∧2*R≤aE+1∧v=.tuple #[.slice a (aN (eB n aE R - eC n aE R)).length c,.int .u64 ((2+3*R:Nat):Int)]∧cX dL Z aB a c (aN (eB n aE R - eC n aE R))
theorem De(n aD:Nat){aE:Nat}(a:aE≤100000):fK (fG n aE aD):=
 jV (R:=aE+1) (Nat.lt_of_le_of_lt (Nat.div_le_self _ _) (Nat.pow_lt_pow_right (by decide) (by omega))) (by omega)
theorem Df(n:Nat){aD aE:Nat}(b:2*aD≤aE+1):eB n aE aD < 2 ^ (aE+aE+1)∧eC n aE aD < 2 ^ (aE+aE+1):=by
 have Z:=L7 n aE aD
 have a:aD*2 ^ aE < 2 ^ (aE+aE+1):=by
  rw [show aE+aE+1=(aE+1)+aE by omega,Nat.pow_add]
  exact Nat.mul_lt_mul_of_pos_right (Nat.lt_of_lt_of_le (show aD < aE+2 by omega) (by have:=@Nat.lt_two_pow_self (aE+1);omega)) (Nat.pow_pos (by decide))
 exact⟨Nat.lt_of_le_of_lt Z.1 a,Nat.lt_of_le_of_lt Z.2 a⟩
theorem Dg(n:Nat){aD aE:Nat}(b:aE≤100000)(a:2*aD≤aE+1):fK (eB n aE aD)∧fK (eC n aE aD):=by
 have Z:=Df n a
 exact⟨jV Z.1 (by omega),jV Z.2 (by omega)⟩
theorem GO(n:Nat){aD aE:Nat}(b:aE≤100000)(a:2*aD≤aE+1):fK (eB n aE aD - eC n aE aD)∧fK ((eB n aE aD - eC n aE aD)*16):=by
 have Z:=Df n a
 have N:2 ^ (aE+aE+5)=2 ^ (aE+aE+1)*16:=by rw [show aE+aE+5=(aE+aE+1)+4 by omega,Nat.pow_add]
 exact⟨jV (R:=aE+aE+1) (by omega) (by omega),jV (R:=aE+aE+5) (by rw [N];omega) (by omega)⟩
theorem q0{n:Nat}:(aN n).length=0↔n=0:=by
 constructor
 ·intro Z
  have:=e9 n
  rw [List.length_eq_zero_iff.mp Z] at this
  exact this.symm
 ·rintro rfl;rw [e0];rfl
theorem L8{n aE:Nat}{a2:U}(G:2≤n)(H:n < 65536)(k:aE≤100000):
  ∀ (f aD:Nat) (a K c:S) (aZ N g l m aQ:Nat) (Z:U),f+aD=aE+2→2*aD≤aE+1→bK a2 Z→cJ Z a aZ (aN (fG n aE aD))→l=(aN (fG n aE aD)).length→cJ Z K N (aN (eB n aE aD))→m=(aN (eB n aE aD)).length→
   cJ Z c g (aN (eC n aE aD))→aQ=(aN (eC n aE aD)).length→nT.bU.t (Dd n aE a2) (f+1) (n:Int) a l aZ K m N c aQ g ((2+3*aD:Nat):Int) ((2*aD+1:Nat):Int) Z:=by
 intro f
 induction f with
 | zero=>
  intro aD a K c aZ N g l m aQ Z I s;omega
 | succ f bZ=>
  intro aD a K c aZ N g l m aQ Z I s o r B aG u aI w
  unfold nT.bU.t nT.cH.t
  have C:=Dg n k s
  refine cE (fun a3=>?_) fun a3=>?_
  ·have J:fG n aE aD ≠ 0:=fun P=>by have:=q0.mpr P;omega
   have QA:=GP G J
   have D:=Dg n k (show 2*(aD+1)≤aE+1 by omega)
   refine CS r B (by omega) (by omega) (De n aD k) fun aM aK a1 cC E=>?_
   refine⟨by decide,?_⟩
   refine bB.mk ?_
   have fin:∀ (bO bN:S) (d2 p x y:Nat) (b:U),bK a2 b→cJ b a aZ (aN (fG n aE aD))→cJ b bO d2 (aN (eB n aE (aD+1)))→x=(aN (eB n aE (aD+1))).length→cJ b bN p (aN (eC n aE (aD+1)))→y=(aN (eC n aE (aD+1))).length→
     a4 rV.id #[.slice a l aZ,.int .u64 (n:Int)] b fun v aB=>aR v fun a l aZ=>bB (IntKind.u64.wrap (((2+3*aD:Nat):Int)+3)) fun Q=>bB (IntKind.u64.wrap (((2*aD+1:Nat):Int)+2)) fun T=>
      nT.bU.t (Dd n aE a2) (f+1) (n:Int) a l aZ bO x d2 bN y p Q T aB:=by
    intro bO bN d2 p x y b d e s2 V e7 Qx
    refine L6 e B (by omega) H (De n aD k) fun c9 cZ Qy z F=>?_
    refine dM (2+3*(aD+1)) (by omega) (by omega) ?_
    refine dM (2*(aD+1)+1) (by omega) (by omega) ?_
    rw [← zE] at F ⊢
    exact bZ (aD+1) c9 bO bN cZ d2 p _ _ _ Qy (by omega) (by omega) (d.trans z) F.eS rfl (s2.aU z) V (e7.aU z) Qx
   have h:eB n aE (aD+1)=eB n aE aD+if aD % 2=0 then iN n aE aD else 0:=rfl
   have i:eC n aE (aD+1)=eC n aE aD+if aD % 2=0 then 0 else iN n aE aD:=rfl
   refine gL (fun A=>?_) fun A=>?_
   ·have q:aD % 2=0:=by
     have:((2*aD+1:Nat):Int).tmod 4=1:=A
     rw [Int.tmod_eq_emod_of_nonneg (by omega)] at this;omega
    rw [if_pos q] at h i
    refine vE (L:=eB n aE aD) (aT:=iN n aE aD) (aG.aU cC) u E.eS rfl (by rw [← h];exact D.1) fun bO bN b d e=>?_
    have j:=e.eS
    rw [← h] at j ⊢
    exact fin _ _ _ _ _ _ b ((o.trans cC).trans d) ((r.aU cC).aU d) j rfl (by rw [i];exact(aI.aU cC).aU d) (by rw [i];exact w)
   ·have q:¬ aD % 2=0:=by
     intro q
     refine A ?_
     show((2*aD+1:Nat):Int).tmod 4=1
     rw [Int.tmod_eq_emod_of_nonneg (by omega)];omega
    rw [if_neg q] at h i
    refine vE (L:=eC n aE aD) (aT:=iN n aE aD) (aI.aU cC) w E.eS rfl (by rw [← i];exact D.2) fun bO bN b d e=>?_
    have j:=e.eS
    rw [← i] at j ⊢
    exact fin _ _ _ _ _ _ b ((o.trans cC).trans d) ((r.aU cC).aU d) (by rw [h];exact(aG.aU cC).aU d) (by rw [h];exact u) j rfl
  ·have Qz:fG n aE aD=0:=q0.mp (by omega)
   unfold nT.a5.t
   refine vF aG u aI w C.1 C.2 fun bO bN b d e=>?_
   exact⟨o.trans d,aD,bO,bN,Qz,s,rfl,e.from o.le⟩
theorem GQ{n aE:Nat}(Z:U)(e:2≤n)(f:n < 65536)(g:aE≤100000):a4 nT.id #[.int .u64 (n:Int),.int .i64 (aE:Int)] Z (Dd n aE Z):=by
 refine nT.ok ?_
 unfold nT.t nT.aP.t
 have a:fK (1*2 ^ aE):=by rw [Nat.one_mul];exact jV (R:=aE+1) (Nat.pow_lt_pow_right (by decide) (by omega)) (by omega)
 refine o6 (L:=1) (by decide) fun aM aK a1 cC h=>?_
 refine yZ rfl h.eS rfl (by omega) (pZ (by decide)) a fun bO bN m i j=>?_
 refine CS j.eS rfl (by omega) (by omega) a fun c9 cZ o k b=>?_
 refine rJ dL [] rfl (by simp) fun p _ c=>?_
 refine rJ dL [] rfl (by simp) fun l _ d=>?_
 unfold nT.bM.t
 have N:1*2 ^ aE / n=fG n aE 0:=by rw [Nat.one_mul,Dh]
 rw [N] at b ⊢
 refine⟨aE+2+1,L8 e f g (aE+2) 0 _ _ _ _ _ _ _ _ _ l (by omega) (by omega) ((((cC.trans i).trans k).trans c).trans d) ((b.eS.aU c).aU d) rfl ?_ ?_ ?_ ?_⟩
 ·show cJ _ _ _ (aN 0);rw [e0];exact cJ.nil _ _ _
 ·show _=(aN 0).length;rw [e0];rfl
 ·show cJ _ _ _ (aN 0);rw [e0];exact cJ.nil _ _ _
 ·show _=(aN 0).length;rw [e0];rfl
theorem L9{a:S}{c l L aQ:Nat}{Z:U}{aH:S→Nat→Nat→S→Nat→Nat→U→Prop}(r:cJ Z a c (aN L))(i:l=(aN L).length)(d:aQ < 18446744073709551616)(g7:fK (L+aQ))
  (g:∀ a c K aZ aB,bK Z aB→cX dL Z aB a c (aN (L - aQ))→cX dL Z aB K aZ (aN (L+aQ))→aH a (aN (L - aQ)).length c K (aN (L+aQ)).length aZ aB) :
  a4 vP.id #[.slice a l c,.int .u64 (aQ:Int)] Z fun v aB=>cW v fun aT=>cV aT fun k eK=>aR k fun a l c=>cV eK fun n o=>aR n fun K m aZ=>b9 o (aH a l c K m aZ aB):=by
 refine cD (c8:=fun v aB=>bK Z aB∧∃ a c K aZ,v=.tuple #[.slice a (aN (L - aQ)).length c,.slice K (aN (L+aQ)).length aZ]∧cX dL Z aB a c (aN (L - aQ))∧cX dL Z aB K aZ (aN (L+aQ))) ?_
  fun v aB ⟨R,a,c,K,aZ,N,e,f⟩=>by subst N;exact g a c K aZ aB R e f
 refine vP.ok ?_
 unfold vP.t vP.aP.t
 refine o6 d fun aM aK a1 cC e=>?_
 refine vF (r.aU cC) i e.eS rfl (kK (by omega) g7) (pZ d) fun bO bN s h f=>?_
 refine o6 d fun c9 cZ u b p=>?_
 refine vE (((r.aU cC).aU h).aU b) i p.eS rfl g7 fun eI eN w j q=>?_
 exact⟨((cC.trans h).trans b).trans j,_,_,_,_,rfl,((f.aU b).aU j).from cC.le,q.from ((cC.trans h).trans b).le⟩
theorem tB{aE L:Nat}(b:aE≤4400)(a:L≤dN aE+262144):fK L:=by
 refine jV (R:=4403) (Nat.lt_of_le_of_lt (Nat.le_trans a (Nat.add_le_add_right (show dN aE≤hW from Nat.div_le_self _ _) _)) ?_) (by omega)
 exact Nat.le_of_ble_eq_true (by kernel_rfl)
theorem GR{aE:Nat}{Z:U}{aH:S→Nat→Nat→S→Nat→Nat→U→Prop}(f:aE≤4400)
  (g:∀ bW a8 a c K aZ aB,vN aE bW a8→bK Z aB→cX dL Z aB a c (aN bW)→cX dL Z aB K aZ (aN a8)→aH a (aN bW).length c K (aN a8).length aZ aB) :
  a4 tC.id #[.int .i64 (aE:Int)] Z fun v aB=>cW v fun aT=>cV aT fun h eK=>aR h fun a l c=>cV eK fun i p=>aR i fun K m aZ=>b9 p (aH a l c K m aZ aB):=by
 refine cD (c8:=fun v aB=>bK Z aB∧∃ bW a8 a c K aZ,vN aE bW a8∧v=.tuple #[.slice a (aN bW).length c,.slice K (aN a8).length aZ]∧cX dL Z aB a c (aN bW)∧cX dL Z aB K aZ (aN a8)) ?_
  fun v aB ⟨R,bW,a8,a,c,K,aZ,m,N,b,d⟩=>by subst N;exact g bW a8 a c K aZ aB m R b d
 refine tC.ok ?_
 unfold tC.t tC.aP.t
 refine cD (GQ (n:=5) Z (by decide) (by decide) (by omega)) fun h a1 ⟨cC,O,aM,aK,q,aL,r,b⟩=>?_
 subst r
 refine gY rfl (cS (bL rfl (cS (b0 rfl (eG ?_)))))
 refine cD (GQ (n:=239) a1 (by decide) (by decide) (by omega)) fun i D ⟨j,aD,bO,bN,s,b3,u,d⟩=>?_
 subst u
 refine gY rfl (cS (bL rfl (cS (b0 rfl (eG ?_)))))
 obtain⟨E,m⟩:=Ma f q s aL b3
 have e:=GO 5 (show aE≤100000 by omega) aL
 have s2:=GO 239 (show aE≤100000 by omega) b3
 refine vG (aE:=16) (b.eS.aU j) rfl (by decide) e.1 e.2 fun c9 cZ F k w=>?_
 refine vG (aE:=4) (d.eS.aU k) rfl (by decide) s2.1 (kK (by omega) s2.2) fun eI eN G o x=>?_
 refine vF (w.eS.aU o) rfl x.eS rfl e.2 (kK (by omega) s2.2) fun bE bD H y z=>?_
 refine dM (16*(2+3*O)) (by omega) (by omega) ?_
 refine dM (4*(2+3*aD)) (by omega) (by omega) ?_
 refine dM (16*(2+3*O)+4*(2+3*aD)) (by omega) (by omega) ?_
 rw [Nat.mul_comm 16,Nat.mul_comm 4 (eB 239 aE aD - eC 239 aE aD)] at m
 refine L9 z.eS rfl (by omega) (tB f m.y6) fun bG bI I d6 J A B C=>?_
 have eR:=(((cC.trans j).trans k).trans o).trans y
 exact⟨eR.trans A,_,_,_,_,_,_,m,rfl,B.from eR.le,C.from eR.le⟩
theorem GS{p:Nat}(Z:U)(a1:1≤p)(d:p < 4200):a4 p2.id #[.int .i64 (p:Int)] Z fun v aB=>bK Z aB∧fB Z aB v (aN (dN p),0):=by
 refine p2.ok ?_
 unfold p2.t p2.aP.t
 refine cE (fun a3=>absurd a3 (by omega)) fun _=>?_
 refine cE (fun a3=>absurd a3 (by omega)) fun _=>?_
 unfold p2.a5.t
 refine⟨1,?_⟩
 unfold p2.cP.t p2.cF.t
 refine cT ((p+48:Nat):Int) (by omega) (by omega) (by omega) ?_
 refine GR (by omega) fun bW a8 aM aK fD d1 a1 m cC e cQ=>?_
 have f:=tB (show p+48≤4400 by omega) m.GU
 have g:=tB (show p+48≤4400 by omega) m.y6
 refine CT (n:=48) rfl e.eS rfl (by decide) f fun bO bN k c a=>?_
 refine CT (n:=48) rfl (cQ.eS.aU c) rfl (by decide) g fun eV d2 l b e7=>?_
 refine rP (a.eS.aU b) rfl e7.eS rfl ?_
 obtain⟨h,i⟩:=Mb d m
 rw [show(2:Nat) ^ 48=281474976710656 by decide] at *
 rw [h] at a ⊢
 rw [i]
 refine gL (fun _=>?_) fun j=>absurd (by simp [fU]) j
 exact⟨(cC.trans c).trans b,fB.back (p:=(aN (dN p),0)) ((a.aU b).from cC.le) (show In .i64 0 by decide)⟩
theorem Mc{p:Nat}(Z:U)(a1:1≤p)(h:p < 1500):a4 q1.id #[.int .i64 (p:Int)] Z fun v aB=>bK Z aB∧fB Z aB v (aN (q2 p),0):=by
 refine q1.ok ?_
 unfold q1.t q1.aP.t
 refine cE (fun a3=>absurd a3 (by omega)) fun _=>?_
 refine cE (fun a3=>absurd a3 (by omega)) fun _=>?_
 unfold q1.a5.t
 refine⟨1,?_⟩
 unfold q1.cP.t q1.cF.t
 refine cT ((p+48:Nat):Int) (by omega) (by omega) (by omega) ?_
 refine GR (by omega) fun bW a8 aM aK fD d1 a1 m cC i cQ=>?_
 have j:=tB (show p+48≤4400 by omega) m.GU
 have k:=tB (show p+48≤4400 by omega) m.y6
 obtain⟨bS,l,n⟩:=Md h m
 have o:a8 ≠ 0:=by have:=m.le;omega
 refine o6 (L:=1) (by decide) fun bO bN u a q=>?_
 refine cT ((2*p:Nat):Int) (by omega) (by omega) (by omega) ?_
 refine cT ((2*p+48:Nat):Int) (by omega) (by omega) (by omega) ?_
 refine cT ((2*p+49:Nat):Int) (by omega) (by omega) (by omega) ?_
 have b:fK (1*2 ^ (2*p+49)):=by rw [Nat.one_mul];exact jV (R:=2*p+50) (Nat.pow_lt_pow_right (by decide) (by omega)) (by omega)
 refine yZ rfl q.eS rfl (by omega) (pZ (by decide)) b fun c9 cZ w c f=>?_
 refine y0 f.eS rfl ((cQ.eS.aU a).aU c) rfl o b k fun eI eN hK d4 x d g _=>?_
 refine y0 (f.eS.aU d) rfl (((i.eS.aU a).aU c).aU d) rfl bS b j fun bE bD y d5 z e r _=>?_
 refine rP (g.eS.aU e) rfl r.eS rfl ?_
 rw [Nat.one_mul,n] at *
 rw [l]
 refine gL (fun _=>?_) fun s=>absurd (by simp [fU]) s
 have eR:=(cC.trans a).trans c
 exact⟨(eR.trans d).trans e,fB.back (p:=(aN (q2 p),0)) ((g.aU e).from eR.le) (show In .i64 0 by decide)⟩
theorem vQ{n:Nat}{O:Int}{Z:U}{aH:S→Nat→Nat→U→Prop}(a8:O=(n:Int))(d:n≤35184372088832)
  (g:∀ a c aB,bK Z aB→cX cA Z aB a c (D.aN (2 ^ n))→aH a (D.aN (2 ^ n)).length c aB) :
  a4 oO.id #[.int .i64 O] Z fun v aB=>aR v fun a l c=>aH a l c aB:=by
 refine cD (c8:=fun v aB=>bK Z aB∧gX Z aB v (2 ^ n)) ?_ fun v aB ⟨R,aG⟩=>aG.elim fun a c r=>g a c aB R r
 refine oO.ok ?_
 unfold oO.t oO.aP.t
 refine lC (L:=1) rfl (by decide) fun aM aK a1 cC e=>?_
 refine Ge a8 e.rd rfl d (m0 (by decide)) fun bO bN h f b=>?_
 rw [Nat.one_mul] at b ⊢
 exact⟨cC.trans f,bO,bN,rfl,b.from cC.le⟩
theorem Me{aE:Nat}{O:Int}{Z:U}{aH:S→Nat→Nat→U→Prop}(a8:O=(aE:Int))(d:aE < 9223372036854775808)
  (g:∀ a c aB,bK Z aB→cX cA Z aB a c (D.aN aE)→aH a (D.aN aE).length c aB) :
  a4 vR.id #[.int .i64 O] Z fun v aB=>aR v fun a l c=>aH a l c aB:=by
 subst a8
 refine cD (c8:=fun v aB=>bK Z aB∧gX Z aB v aE) ?_ fun v aB ⟨R,aG⟩=>aG.elim fun a c r=>g a c aB R r
 refine vR.ok ?_
 unfold vR.t vR.aP.t
 refine cE (fun a3=>by omega) fun _=>?_
 refine dM aE rfl (by omega) ?_
 exact lC rfl (by omega) fun aM aK a1 cC b=>⟨cC,aM,aK,rfl,b⟩
theorem pE{n:Nat}:(D.aN n).length=0↔n=0:=by
 constructor
 ·intro Z
  have:=D.e9 n
  rw [List.length_eq_zero_iff.mp Z] at this
  exact this.symm
 ·rintro rfl;rw [D.e0];rfl
def GV(n aE:Nat)(Z:U)(v:Value)(aB:U):Prop:=
 bK Z aB∧∃ R a c,fG n aE R=0∧2*R≤aE+1∧(R=0∨fG n aE (R - 1) ≠ 0)∧v=.tuple #[.slice a (D.aN (eB n aE R - eC n aE R)).length c,.int .i64 (R:Int)]∧cX cA Z aB a c (D.aN (eB n aE R - eC n aE R))
theorem Mf{n aE:Nat}{a2:U}(H:2≤n)(T:n < 65536)(A:aE≤100000):
  ∀ (f aD:Nat) (a K c:S) (aZ N g l m aQ:Nat) (Z:U),f+aD=aE+2→2*aD≤aE+1→(aD=0∨fG n aE (aD - 1) ≠ 0)→bK a2 Z→cL cA Z a aZ (D.aN (fG n aE aD))→l=(D.aN (fG n aE aD)).length→cL cA Z K N (D.aN (eB n aE aD))→m=(D.aN (eB n aE aD)).length→
   cL cA Z c g (D.aN (eC n aE aD))→aQ=(D.aN (eC n aE aD)).length→m4.bU.t (GV n aE a2) (f+1) (n:Int) a l aZ K m N c aQ g (aD:Int) ((2*aD+1:Nat):Int) Z:=by
 intro f
 induction f with
 | zero=>
  intro aD a K c aZ N g l m aQ Z I q;omega
 | succ f bZ=>
  intro aD a K c aZ N g l m aQ Z I q i p r s aG u aI v
  unfold m4.bU.t m4.cH.t
  have B:=Dg n A q
  refine cE (fun a3=>?_) fun a3=>?_
  ·have w:fG n aE aD ≠ 0:=fun J=>by have:=pE.mpr J;omega
   have V:=GP H w
   refine xG r s rfl (by omega) (by omega) fun aM aK a1 cC C=>?_
   refine⟨by decide,?_⟩
   refine bB.mk ?_
   have j:eB n aE (aD+1)=eB n aE aD+if aD % 2=0 then iN n aE aD else 0:=rfl
   have k:eC n aE (aD+1)=eC n aE aD+if aD % 2=0 then 0 else iN n aE aD:=rfl
   have E:fG n aE aD / n / n=fG n aE (aD+1):=by rw [zE,Nat.div_div_eq_div_mul]
   have F:fX (iN n aE aD):=s6 (Nat.div_le_self _ _) (lO (De n aD A))
   refine gL (fun d=>?_) fun d=>?_
   ·have i:aD % 2=0:=by
     have:((2*aD+1:Nat):Int).tmod 4=1:=d
     rw [Int.tmod_eq_emod_of_nonneg (by omega)] at this;omega
    rw [if_pos i] at j k
    refine oJ (L:=eB n aE aD) (aT:=iN n aE aD) (aG.aU cC) u C.rd rfl (lO B.1) F fun bO bN G b e=>?_
    rw [← j] at e ⊢
    refine xG ((r.aU cC).aU b) s rfl (by omega) (by omega) fun c9 cZ P x y=>?_
    refine xG y.rd rfl rfl (by omega) (by omega) fun eI eN d z o=>?_
    rw [E] at o ⊢
    refine cT ((aD+1:Nat):Int) (by omega) (by omega) (by omega) ?_
    refine k6 (2*(aD+1)+1) (by omega) (by omega) ?_
    have h:=x.trans z
    exact bZ (aD+1) _ _ _ _ _ _ _ _ _ d (by omega) (by omega) (Or.inr w) (p.trans (cC.trans (b.trans h))) o.rd rfl (e.rd.aU h) rfl (by rw [k];exact aI.aU (cC.trans (b.trans h))) (by rw [k];exact v)
   ·have i:¬ aD % 2=0:=by
     intro i
     refine d ?_
     show((2*aD+1:Nat):Int).tmod 4=1
     rw [Int.tmod_eq_emod_of_nonneg (by omega)];omega
    rw [if_neg i] at j k
    refine oJ (L:=eC n aE aD) (aT:=iN n aE aD) (aI.aU cC) v C.rd rfl (lO B.2) F fun bO bN G b e=>?_
    rw [← k] at e ⊢
    refine xG ((r.aU cC).aU b) s rfl (by omega) (by omega) fun c9 cZ P x y=>?_
    refine xG y.rd rfl rfl (by omega) (by omega) fun eI eN d z o=>?_
    rw [E] at o ⊢
    refine cT ((aD+1:Nat):Int) (by omega) (by omega) (by omega) ?_
    refine k6 (2*(aD+1)+1) (by omega) (by omega) ?_
    have h:=x.trans z
    exact bZ (aD+1) _ _ _ _ _ _ _ _ _ d (by omega) (by omega) (Or.inr w) (p.trans (cC.trans (b.trans h))) o.rd rfl (by rw [j];exact aG.aU (cC.trans (b.trans h))) (by rw [j];exact u) (e.rd.aU h) rfl
  ·have Q:fG n aE aD=0:=pE.mp (by omega)
   unfold m4.a5.t
   refine o7 aG u aI v fun bO bN G b e=>?_
   exact⟨p.trans b,aD,bO,bN,Q,q,i,rfl,e.from p.le⟩
theorem Mg{n aE:Nat}{O aD:Int}(a8:O=(n:Int))(d:aD=(aE:Int))(Z:U)(e:2≤n)(f:n < 65536)(g:aE≤100000):a4 m4.id #[.int .u32 O,.int .i64 aD] Z (GV n aE Z):=by
 subst a8;subst d
 refine m4.ok ?_
 unfold m4.t m4.aP.t
 refine vQ rfl (by omega) fun bO bN o h i=>?_
 refine xG i.rd rfl rfl (by omega) (by omega) fun c9 cZ p j b=>?_
 refine lC (L:=0) rfl (by decide) fun eI eN q c k=>?_
 refine lC (L:=0) rfl (by decide) fun bE bD l a m=>?_
 unfold m4.bM.t
 have N:2 ^ aE / n=fG n aE 0:=(Dh n aE).symm
 rw [N] at b ⊢
 exact⟨aE+2+1,Mf e f g (aE+2) 0 _ _ _ _ _ _ _ _ _ l (by omega) (by omega) (Or.inl rfl) (h.trans (j.trans (c.trans a))) (b.rd.aU (c.trans a)) rfl (k.rd.aU a) rfl m.rd rfl⟩
theorem Di{n aE:Nat}{O aD:Int}{Z:U}{aH:S→Nat→Nat→Int→U→Prop}(a8:O=(n:Int))(b:aD=(aE:Int))(d:2≤n)(e:n < 65536)(f:aE≤100000)
  (g:∀ R a c aB,fG n aE R=0→2*R≤aE+1→(R=0∨fG n aE (R - 1) ≠ 0)→bK Z aB→cX cA Z aB a c (D.aN (eB n aE R - eC n aE R))→aH a (D.aN (eB n aE R - eC n aE R)).length c (R:Int) aB) :
  a4 m4.id #[.int .u32 O,.int .i64 aD] Z fun v aB=>cW v fun aT=>cV aT fun h eK=>aR h fun a l c=>cV eK fun i j=>a0 .i64 i fun L=>b9 j (aH a l c L aB):=by
 refine cD (Mg a8 b Z d e f) fun v aB ⟨cC,R,a,c,k,m,o,p,r⟩=>?_
 subst p
 exact gY rfl (cS (bL rfl (cS (b0 rfl (eG (g R a c aB k m o cC r))))))
theorem Dj{n aD aE t:Nat}(c:aE≤100000)(a:2*aD≤aE+1)(b:t < 64):fX (eB n aE aD - eC n aE aD)∧(D.aN ((eB n aE aD - eC n aE aD)*t)).length≤999999:=by
 have Z:=Df n a
 have N:2 ^ (aE+aE+7)=2 ^ (aE+aE+1)*64:=by rw [show aE+aE+7=(aE+aE+1)+6 by omega,Nat.pow_add]
 refine⟨xE (R:=aE+aE+1) (by omega) (by omega),y1 (R:=aE+aE+7) (m:=999999) ?_ (by omega)⟩
 rw [N]
 exact Nat.mul_lt_mul'' (by omega) b
theorem Mh{L aT:Nat}(a:(D.aN L).length≤999999)(b:(D.aN aT).length≤999999):fX (L+aT):=D.AD a b
theorem Bd{aI:Nat}{O:Int}{Z:U}{aH:S→Nat→Nat→U→Prop}(a8:O=(aI:Int))(B:aI < 4200)
  (g:∀ a c aB,bK Z aB→cX cA Z aB a c (D.aN (dN aI))→aH a (D.aN (dN aI)).length c aB) :
  a4 pF.id #[.int .i64 O] Z fun v aB=>aR v fun a l c=>aH a l c aB:=by
 subst a8
 refine cD (c8:=fun v aB=>bK Z aB∧gX Z aB v (dN aI)) ?_ fun v aB ⟨R,aG⟩=>aG.elim fun a c r=>g a c aB R r
 refine pF.ok ?_
 unfold pF.t pF.aP.t
 rw [if_neg (show ¬ (0:Int) > (aI:Int) by omega)]
 refine⟨1,?_⟩
 unfold pF.dG.t pF.bM.t
 have b:aI+64≤4400:=by omega
 refine cT ((aI+64:Nat):Int) (by omega) (by omega) (by omega) ?_
 refine Di (n:=18) rfl rfl (by decide) (by decide) (by omega) fun O aM aK a1 C aL l1 cC E=>?_
 refine cT ((aI+64:Nat):Int) (by omega) (by omega) (by omega) ?_
 refine Di (n:=57) rfl rfl (by decide) (by decide) (by omega) fun aD bO bN QI F b3 lE p G=>?_
 refine cT ((aI+64:Nat):Int) (by omega) (by omega) (by omega) ?_
 refine Di (n:=239) rfl rfl (by decide) (by decide) (by omega) fun R c9 cZ QJ H eE kM d I=>?_
 have J:=Da b GK l1
 have P:=Da b GL lE
 have Q:=Da b Dc kM
 have m:=L3 b C F H J P Q
 have d1:=Dj (n:=18) (aD:=O) (aE:=aI+64) (t:=48) (by omega) aL (by decide)
 have d2:=Dj (n:=57) (aD:=aD) (aE:=aI+64) (t:=32) (by omega) b3 (by decide)
 have d3:=Dj (n:=239) (aD:=R) (aE:=aI+64) (t:=20) (by omega) eE (by decide)
 rw [Nat.mul_comm 48 (eB 18 (aI+64) O - eC 18 (aI+64) O),Nat.mul_comm 32 (eB 57 (aI+64) aD - eC 57 (aI+64) aD),Nat.mul_comm 20 (eB 239 (aI+64) R - eC 239 (aI+64) R)] at m
 generalize eB 18 (aI+64) O - eC 18 (aI+64) O=T at *
 generalize eB 57 (aI+64) aD - eC 57 (aI+64) aD=bA at *
 generalize eB 239 (aI+64) R - eC 239 (aI+64) R=aO at *
 obtain⟨f1,f2⟩:=L5 B m
 have V:fX (T*48+bA*32):=Mh d1.2 d2.2
 refine A6 (E.rd.aU (p.trans d)) rfl (aE:=48) rfl (by decide) d1.1 fun eI eN QK e Qx=>?_
 refine A6 (G.rd.aU (d.trans e)) rfl (aE:=32) rfl (by decide) d2.1 fun bE bD QL f Qy=>?_
 refine oJ (Qx.rd.aU f) rfl Qy.rd rfl (Nat.le_trans d1.2 (by decide)) (Nat.le_trans d2.2 (by decide)) fun bG bI QM q Qz=>?_
 refine A6 (I.rd.aU (e.trans (f.trans q))) rfl (aE:=20) rfl (by decide) d3.1 fun bX bY QN s QA=>?_
 refine o7 (Qz.rd.aU s) rfl QA.rd rfl fun b6 b7 QO QB u=>?_
 refine cT ((O+2:Nat):Int) (by omega) (by omega) (by omega) ?_
 refine cT ((48*(O+2):Nat):Int) (by omega) (by omega) (by omega) ?_
 refine cT ((aD+2:Nat):Int) (by omega) (by omega) (by omega) ?_
 refine cT ((32*(aD+2):Nat):Int) (by omega) (by omega) (by omega) ?_
 refine cT ((48*(O+2)+32*(aD+2):Nat):Int) (by omega) (by omega) (by omega) ?_
 refine cT ((R+2:Nat):Int) (by omega) (by omega) (by omega) ?_
 refine cT ((20*(R+2):Nat):Int) (by omega) (by omega) (by omega) ?_
 refine cT ((48*(O+2)+32*(aD+2)+20*(R+2):Nat):Int) (by omega) (by omega) (by omega) ?_
 refine cT ((4*(48*(O+2)+32*(aD+2)+20*(R+2)):Nat):Int) (by omega) (by omega) (by omega) ?_
 have QC:4*(48*(O+2)+32*(aD+2)+20*(R+2)) < 9223372036854775808:=by omega
 generalize 4*(48*(O+2)+32*(aD+2)+20*(R+2))=QP at *
 refine Me rfl QC fun QQ QR QS h w=>?_
 refine o7 (u.rd.aU h) rfl w.rd rfl fun QT QU fV i QD=>?_
 refine A4 (n:=64) rfl QD.rd rfl (by decide) fun QE QF QV x j=>?_
 have y:=h.trans (i.trans x)
 refine oJ (u.rd.aU y) rfl (w.rd.aU (i.trans x)) rfl (s6 (Nat.sub_le _ _) V) (m0 (by omega)) fun QW QX QY k QG=>?_
 refine A4 (n:=64) rfl QG.rd rfl (by decide) fun QZ Q0 Q1 o z=>?_
 rw [show(2:Nat) ^ 64=18446744073709551616 by decide] at *
 rw [f1] at j ⊢
 rw [f2] at z ⊢
 refine y2 (j.rd.aU (k.trans o)) rfl z.rd rfl ?_
 refine gL (fun _=>?_) fun QH=>absurd (by simp [fU]) QH
 have A:=cC.trans (p.trans (d.trans (e.trans (f.trans (q.trans (s.trans QB))))))
 exact⟨A.trans (y.trans (k.trans o)),QE,QF,rfl,(j.aU (k.trans o)).from (A.trans (h.trans i)).le⟩
def kB:List Nat→Nat→Nat→Nat→Nat→Prop
 | [],_,_,_,_=>True
 | aI :: Q,a,K,c,aZ=>(0 < K∧0 < aZ∧a / K=aI∧c / aZ=aI∧aI < 18446744073709551616)∧kB Q K (a % K) aZ (c % aZ)
theorem kB.pre:∀ {P Q:List Nat} {a K c aZ:Nat},kB P a K c aZ→kB Q a K c aZ→P.length≤Q.length→P=Q.take P.length
 | [],Q,a,K,c,aZ,_,_,_=>by simp
 | p :: P,[],a,K,c,aZ,_,_,b=>by simp at b
 | p :: P,aI :: Q,a,K,c,aZ,d,e,b=>by
  obtain⟨⟨_,_,a1,_,_⟩,d⟩:=d
  obtain⟨⟨_,_,f,_,_⟩,e⟩:=e
  have g:p=aI:=a1.symm.trans f
  have h:=kB.pre d e (by simpa using b)
  rw [List.length_cons,List.take_succ_cons,g,← h]
theorem kB.take:∀ {Q:List Nat} {a K c aZ:Nat} (n:Nat),kB Q a K c aZ→kB (Q.take n) a K c aZ
 | [],a,K,c,aZ,n,_=>by simp [kB]
 | aI :: Q,a,K,c,aZ,0,_=>by simp [kB]
 | aI :: Q,a,K,c,aZ,n+1,Z=>⟨Z.1,kB.take n Z.2⟩
def gV:List Nat→Nat × Nat→Nat × Nat
 | [],bS=>bS
 | aI :: Q,bS=>(aI*(gV Q bS).1+(gV Q bS).2,(gV Q bS).1)
theorem GW:∀ {Q:List Nat} {L aT:Nat},(∀ aI ∈ Q,1≤aI)→0 < aT→aT < L→0 < (gV Q (L,aT)).2∧(gV Q (L,aT)).2 < (gV Q (L,aT)).1
 | [],L,aT,_,a2,a1=>⟨a2,a1⟩
 | aI :: Q,L,aT,a,a2,a1=>by
  obtain⟨d,e⟩:=GW (Q:=Q) (fun r b=>a r (by simp [b])) a2 a1
  have c:=a aI (by simp)
  have f:(gV Q (L,aT)).1≤aI*(gV Q (L,aT)).1:=Nat.le_mul_of_pos_left _ c
  refine⟨?_,?_⟩
  ·show 0 < (gV Q (L,aT)).1;omega
  ·show(gV Q (L,aT)).1 < aI*(gV Q (L,aT)).1+(gV Q (L,aT)).2;omega
theorem Dk{Q:List Nat}{aI L aT:Nat}(c:∀ r ∈ Q,1≤r)(a2:0 < aT)(a1:aT < L):
  0 < (gV (aI :: Q) (L,aT)).2∧(gV (aI :: Q) (L,aT)).1 / (gV (aI :: Q) (L,aT)).2=aI∧(gV (aI :: Q) (L,aT)).1 % (gV (aI :: Q) (L,aT)).2=(gV Q (L,aT)).2∧(gV (aI :: Q) (L,aT)).2=(gV Q (L,aT)).1:=by
 obtain⟨d,a⟩:=GW c a2 a1
 show 0 < (gV Q (L,aT)).1∧(aI*(gV Q (L,aT)).1+(gV Q (L,aT)).2) / (gV Q (L,aT)).1=aI∧(aI*(gV Q (L,aT)).1+(gV Q (L,aT)).2) % (gV Q (L,aT)).1=(gV Q (L,aT)).2∧_
 have b:0 < (gV Q (L,aT)).1:=by omega
 refine⟨b,?_,?_,rfl⟩
 ·rw [Nat.mul_comm,Nat.mul_add_div b,Nat.div_eq_of_lt a,Nat.add_zero]
 ·rw [Nat.mul_comm,Nat.mul_add_mod,Nat.mod_eq_of_lt a]
theorem GX:∀ {Q:List Nat} {L aT cY v:Nat},(∀ aI ∈ Q,1≤aI∧aI < 18446744073709551616)→0 < aT→aT < L→0 < v→v < cY→kB Q (gV Q (L,aT)).1 (gV Q (L,aT)).2 (gV Q (cY,v)).1 (gV Q (cY,v)).2
 | [],L,aT,cY,v,_,_,_,_,_=>trivial
 | aI :: Q,L,aT,cY,v,a,a2,a1,c,d=>by
  have e:∀ r ∈ Q,1≤r:=fun r b=>(a r (by simp [b])).1
  obtain⟨aM,bO,c9,eI⟩:=Dk (aI:=aI) e a2 a1
  obtain⟨fD,eV,g4,hK⟩:=Dk (aI:=aI) e c d
  refine⟨⟨aM,fD,bO,eV,(a aI (by simp)).2⟩,?_⟩
  rw [c9,g4,eI,hK]
  exact GX (fun r b=>a r (by simp [b])) a2 a1 c d
theorem GY:∀ {Q:List Nat} {aI:Nat} {L aT:Nat},gV (Q ++ [aI]) (L,aT)=gV Q (aI*L+aT,L)
 | [],aI,L,aT=>rfl
 | p :: Q,aI,L,aT=>by
  show(p*(gV (Q ++ [aI]) (L,aT)).1+(gV (Q ++ [aI]) (L,aT)).2,(gV (Q ++ [aI]) (L,aT)).1)=_
  rw [GY];rfl
structure rW where
 P:Nat
 g2:Nat
 Y:Nat
 hC:Nat
def rW.next(m:rW)(aI:Nat):rW:=⟨aI*m.P+m.g2,m.P,aI*m.Y+m.hC,m.Y⟩
def Be:rW:=⟨1,0,0,1⟩
def jW(Q:List Nat):rW:=Q.foldl rW.next Be
theorem Bf(Q:List Nat)(aI:Nat):jW (Q ++ [aI])=(jW Q).next aI:=by simp [jW,List.foldl_append]
theorem Dl:∀ (R:Nat) (Q:List Nat),Q.length=R→∀ L aT,gV Q (L,aT)=((jW Q).P*L+(jW Q).g2*aT,(jW Q).Y*L+(jW Q).hC*aT):=by
 intro R
 induction R with
 | zero=>intro Q Z L aT;have:Q=[]:=List.length_eq_zero_iff.mp Z;subst this;simp [gV,jW,Be]
 | succ R bZ=>
  intro Q Z L aT
  have a:Q ≠ []:=fun N=>by subst N;simp at Z
  obtain⟨T,aI,rfl⟩:∃ T aI,Q=T ++ [aI]:=⟨Q.dropLast,Q.getLast a,(List.dropLast_concat_getLast a).symm⟩
  rw [GY,Bf,bZ T (by simpa using Z)]
  simp only [rW.next,Nat.mul_add,Nat.add_mul]
  simp only [Nat.mul_assoc,Nat.mul_left_comm _ aI]
  congr 1 <;> omega
def e6:List Nat:=[1,1,1,3,31,1,145,1,4,2,8,1,6,1,2,3,1,4,1,5,1,41,1,2,3,7,1,1,1,27,1,1,1,2,1,2,1,1,2,1,1,49,2,1,4,3,6,2,1,3,3,17,1,3,2,1,6,3,1,6,26,3,1,1,3,4,3,2,14,11,1,4,1,1,5,2,8,8,2,80,1,1,22,2,11,2,1,5,1,1,1,5,12,2,1,2,1,1,6,21,1,10,2,2,1,4,4,2,2,1,2,2,1,12,1,10,17,1,84,1,2,3,1,1,1,7,15,1,8,4,1,1,3,4,1,1,116,1,8,1,19,9,1,5,9,2,1,1,1,3,61,3,1,1,1,1,7,2,1,3,1,3,1,2,7,1,5,6,1,6,1,1,1,26,7,1,1,1,13,1,21,1,1,2,1,9,1,4,10,3,2,1,1,1,5,1,2,1,10,1,59,1,2,3,1,1,48,1,7,2,1,1,1,3,2,8,2,1,2,10,1,2,3,1,19,1,2,1,1,1,1,1,63,28,2,1,7,6,1,1,3,19,4,11,2,3,1,1,3,1,14,7,5,1,2,1,1,4,1,1,3,1,4,1,1,1,2,1,1,6,1,5,1,10,4,1,3,3,2,23,1,1,16,1,1,1,97,8,2,2,10,1,3,1,1,1,1,1,2,1,7,2,2,5,2,1,1,9,1,3,2,1,1,1,1,873,4,2,1,5,4,12,2,7,3,22,2,7,3,1,10,2,12,4,1,12,1,2,31,1,5,48,2,8,2,1,2,10,1,2,1,4,1,1,1,1,1,4,1,3,2,117,2,1,6,2,3,1,4,3,1,32,1,1,1,1,3,1,3,2,5,3,1,1,4,2,4,3,4,1,9,1,1,1,7,2,1,2,6,1,4,1,1,49,2,1,1,1,1,4,1,1,2,24,1,1,1,1,43,2,70,3,2,31,1,1,1,1,21,1,9,10388,3,4,3,11,1,15,1,2,47,111,6,8,65,2,1,30,4,7,25,4,8,11,2,9,3,7,1,1,7,2,2,2,1,2,4,1,4,14,3,1,6,2,2,1,1,21,2,2,6,2,1,1,1,2,2,3,2,2,3,9,1,2,1,3,2,36,7,2,1,1,14,5,1,6,5,1,3,2,4,3,16,1,1,3,39,1,9,7,1,1,1,4,5,1,1,7,1,4,1,4,2,3,9,1,7,4,1,5,3,2,6,2,2,15,1,55,13,1,2,4,1,1,2,1,1,12,1,3,1,1,2,4,3,7,1,73,2,4,1,2,11,5,1,52,1,2,2,8,1,5,1,1,4,1,1,3,2,1,3,3,4,4,2,10,1,1,2,9,11,1,37,1,20,1,1,13,3,26,4,12,1,4,1,5,3,1,1,15,8,1,4,2,1,2,11,5,5,1,14,1,2,1,59,2,58,1,1,1,2,7,1,70,2,1,14,3,1,2,2,1,3,3,1,3,2,3,1,5,2,3,62,1,5,1,1,1,1,1,8,1,1,4,1,2,1,3,1,5,1,4,2,27,1,2,9,1,2,1,3,5,1,2,1,1,1,2,3,1,1,1,1,25,79,2,1,3,8,251,1,1,1,6,1,9,2,2,3,2,10,1,4,1,9,1,3,11,5,8,7,2,6,1,1,20,2,2,2,4,3,2,8,1,2,1,7,1,4,1,2,2,2,7,2,1,17,1,3,1,1,1,6,1,1,75,2,4,2,2,1,1,1,1,1,1,12,8,13,1,2,1,3,3,2,1,2,1,4,1,5,1,5,1,4,6,1,1,5,1,8,1,2,1,3,16,1,11,1,1,11,7,1,1,3,1,1,3,1,1,23,2,1,1,2,1,5,1,2,1,5,1,26,2,1,2,7,4,2,1,1,10,2,5,12,1,4,29,7,1,2,4,1,1,1,44,6,1,3,1,1,1,9,1,3,30,1,753,1,215,1,4,1,1,1,4,1,63,2,1,4,1,2,2,1,30,1,2,2,1,3,8,2,1,1,2,1,4,5,4,4,36,1,1,1,10,21,2,1,1,2,3,29,1,1,2,1,4,1,2,2,3,2,1,13,4,1,1,5,1,1,2,4,2,2,4,2,1,1,1,1,1,3,2,2,4,1,13,5,1,3,4,2,5,1,11,2,3,5,2,3,2,64,1,9,32,1,2,1,1,1,1,1,1,1,1,4,1,1,3,2,1,4,3,1,5,2,3,1,5,2,1,1,2,1,2,1,8,1,2]
def Bg(P g2 Y hC bW one:Nat):Prop:=∃ L aT,P*L+g2*aT=bW∧Y*L+hC*aT=one∧0 < aT∧aT < L
noncomputable def tD(P g2 Y hC bW one:Nat):Bool:=
 force (Nat.add (Nat.sub (Nat.mul hC bW) (Nat.mul g2 one)) (Nat.sub (Nat.mul g2 one) (Nat.mul hC bW))) fun L=>
 force (Nat.add (Nat.sub (Nat.mul Y bW) (Nat.mul P one)) (Nat.sub (Nat.mul P one) (Nat.mul Y bW))) fun aT=>
  Nat.beq (Nat.add (Nat.mul P L) (Nat.mul g2 aT)) bW && (Nat.beq (Nat.add (Nat.mul Y L) (Nat.mul hC aT)) one && (Nat.blt 0 aT && Nat.blt aT L))
theorem GZ{P g2 Y hC bW one:Nat}(Z:tD P g2 Y hC bW one=true):Bg P g2 Y hC bW one:=by
 unfold tD at Z
 rw [force_eq,force_eq] at Z
 simp only [Bool.and_eq_true,Nat.blt_eq] at Z
 exact⟨_,_,Nat.eq_of_beq_eq_true Z.1,Nat.eq_of_beq_eq_true Z.2.1,Z.2.2.1,Z.2.2.2⟩
noncomputable def zF:List Nat→Nat→Nat→Nat→Nat→Nat→Bool:=
 List.rec (fun _ _ _ _ _=>true) (fun aI _ bZ p P g2 Y hC=>
  force (Nat.add (Nat.mul aI P) g2) fun a=>force (Nat.add (Nat.mul aI Y) hC) fun bA=>force p fun p=>
  force (dN p) fun bW=>force (Nat.pow 2 (Nat.succ p)) fun one=>
   Nat.blt 0 aI && (Nat.blt aI 18446744073709551616 && (tD a P bA Y bW one && (tD a P bA Y (Nat.succ bW) one && bZ (Nat.add p 4) a P bA Y))))
attribute [local irreducible] dN in
theorem Mi(aI:Nat)(Q:List Nat)(p P g2 Y hC:Nat):zF (aI :: Q) p P g2 Y hC=(Nat.blt 0 aI && (Nat.blt aI 18446744073709551616 && (tD (aI*P+g2) P (aI*Y+hC) Y (dN p) (2 ^ (p+1)) && (tD (aI*P+g2) P (aI*Y+hC) Y (dN p+1) (2 ^ (p+1)) && zF Q (p+4) (aI*P+g2) P (aI*Y+hC) Y)))):=by
 show(force (aI*P+g2) fun a=>force (aI*Y+hC) fun bA=>force p fun p=>force (dN p) fun bW=>force (Nat.pow 2 (p+1)) fun one=>
   Nat.blt 0 aI && (Nat.blt aI 18446744073709551616 && (tD a P bA Y bW one && (tD a P bA Y (bW+1) one && zF Q (p+4) a P bA Y))))=_
 simp only [force_eq];rfl
theorem zG:∀ (Q:List Nat) (T:List Nat) (p:Nat),zF Q p (jW T).P (jW T).g2 (jW T).Y (jW T).hC=true→∀ n,1≤n→n≤Q.length→(∀ aI ∈ Q.take n,1≤aI∧aI < 18446744073709551616)∧
   Bg (jW (T ++ Q.take n)).P (jW (T ++ Q.take n)).g2 (jW (T ++ Q.take n)).Y (jW (T ++ Q.take n)).hC (dN (p+4*(n - 1))) (2 ^ (p+4*(n - 1)+1))∧
   Bg (jW (T ++ Q.take n)).P (jW (T ++ Q.take n)).g2 (jW (T ++ Q.take n)).Y (jW (T ++ Q.take n)).hC (dN (p+4*(n - 1))+1) (2 ^ (p+4*(n - 1)+1))
 | [],T,p,_,n,a1,b=>by simp at b;omega
 | aI :: Q,T,p,Z,n,a1,b=>by
  rw [Mi] at Z
  simp only [Bool.and_eq_true,Nat.blt_eq] at Z
  obtain⟨aM,bO,c9,eI,bE⟩:=Z
  cases n with
  | zero=>omega
  | succ m=>
   cases m with
   | zero=>
    rw [show(aI :: Q).take (0+1)=[aI] from rfl,Bf]
    refine⟨fun r a=>?_,GZ c9,GZ eI⟩
    simp only [List.mem_singleton] at a;subst a;exact⟨aM,bO⟩
   | succ m=>
    have N:(jW (T ++ [aI]))=(jW T).next aI:=Bf T aI
    have bZ:=zG Q (T ++ [aI]) (p+4) (by rw [N];exact bE) (m+1) (by omega) (by simpa using b)
    rw [show p+4+4*(m+1 - 1)=p+4*(m+1+1 - 1) by omega,List.append_assoc] at bZ
    refine⟨fun r a=>?_,bZ.2⟩
    rw [List.take_succ_cons,List.mem_cons] at a
    rcases a with rfl | a
    ·exact⟨aM,bO⟩
    ·exact bZ.1 r a
theorem Bh:zF e6 68 1 0 0 1=true:=by kernel_rfl
theorem q3:e6.length=1000:=by kernel_rfl
theorem Mj{n:Nat}(a1:1≤n)(b:n≤1000):kB (e6.take n) (dN (4*n+64)) (2 ^ (4*n+64+1)) (dN (4*n+64)+1) (2 ^ (4*n+64+1)):=by
 obtain⟨a,⟨L,aT,fD,eV,g4,hK⟩,⟨cY,v,aK,bN,cZ,eN⟩⟩:=zG e6 [] 68 Bh n a1 (by rw [q3];exact b)
 rw [show 68+4*(n - 1)=4*n+64 by omega] at fD eV aK bN
 have bH:=GX a g4 hK cZ eN
 rw [Dl _ _ rfl,Dl _ _ rfl] at bH
 simp only [List.nil_append] at fD eV aK bN
 simp only at bH
 rw [fD,eV,aK,bN] at bH
 exact bH
theorem Mk{n:Nat}(a1:1≤n)(a:n≤1000):∀ aI ∈ e6.take n,1≤aI∧aI < 18446744073709551616:=
 (zG e6 [] 68 Bh n a1 (by rw [q3];exact a)).1
theorem G0{L aT aD R:Nat}(a:L < 2 ^ aD)(b:aT < 2 ^ R)(Z:aD+R≤524288):fK (L*aT):=
 jV (R:=aD+R) (by rw [Nat.pow_add];exact Nat.mul_lt_mul'' a b) Z
theorem zH{t:Nat}(Z:t < 18446744073709551616):t < 2 ^ 64:=Z
def fQ(L:Nat):Prop:=L < 2 ^ 400
theorem fQ.g1{L:Nat}(Z:fQ L):fK L:=jV Z (by omega)
theorem fQ.le{L aT:Nat}(Z:fQ aT)(N:L≤aT):fQ L:=Nat.lt_of_le_of_lt N Z
theorem fQ.zI{L t:Nat}(Z:fQ L)(a:t < 18446744073709551616):fK (L*t):=G0 Z (zH a) (by omega)
section
variable {a K:S} {c aZ l m L aT t n:Nat} {Z:U}
theorem zJ{aH:S→Nat→Nat→U→Prop}(r:cJ Z a c (aN L))(e:l=(aN L).length)(aG:cJ Z K aZ (aN aT))(f:m=(aN aT).length)(b:t < 18446744073709551616)(g7:fQ L)(d:fQ aT)
  (g:∀ a c aB,bK Z aB→cX dL Z aB a c (aN (L - aT*t))→aH a (aN (L - aT*t)).length c aB) :
  a4 p3.id #[.slice a l c,.slice K m aZ,.int .u64 (t:Int)] Z fun v aB=>aR v fun a l c=>aH a l c aB:=by
 refine cD (c8:=fun v aB=>bK Z aB∧∃ a c,v=.slice a (aN (L - aT*t)).length c∧cX dL Z aB a c (aN (L - aT*t))) ?_ fun v aB ⟨R,a,c,N,r⟩=>by subst N;exact g a c aB R r
 refine p3.ok ?_
 unfold p3.t p3.aP.t
 refine vG aG f b d.g1 (d.zI b) fun aM aK a1 cC h=>?_
 refine vF (r.aU cC) e h.eS rfl g7.g1 (d.zI b) fun bO bN k i j=>?_
 exact⟨cC.trans i,_,_,rfl,j.from cC.le⟩
theorem Ml{aI:Nat}(a2:aI ≠ 0)(a1:aI < 18446744073709551616):aN aI=[aI]:=by
 rw [k2 a2,show aI / 18446744073709551616=0 by omega,e0,Nat.mod_eq_of_lt a1]
theorem Bi{aH:Int→U→Prop}(r:cJ Z a c (aN L))(h:l=(aN L).length)(aG:cJ Z K aZ (aN aT))(i:m=(aN aT).length)(a2:aT ≠ 0)(w:n < 18446744073709551616)(g7:fQ L)(j:fQ aT)
  (g:∀ aB,bK Z aB→aH ((hL L aT n:Nat):Int) aB) :
  a4 p4.id #[.slice a l c,.slice K m aZ,.int .u64 (n:Int)] Z fun v aB=>a0 .u64 v fun L=>aH L aB:=by
 refine cD (c8:=fun v aB=>bK Z aB∧v=.int .u64 ((hL L aT n:Nat):Int)) ?_ fun v aB ⟨R,N⟩=>by subst N;exact g aB R
 refine p4.ok ?_
 unfold p4.t p4.aP.t
 refine y0 r h aG i a2 g7.g1 j.g1 fun aM aK fD d1 a1 cC k _=>?_
 have b:=k.eS
 have o:hL L aT n=min (L / aT) n:=by unfold hL;rw [oP]
 rw [o]
 generalize L / aT=aI at *
 have f:(aN aI).length≤1↔aI < 18446744073709551616:=gZ (R:=1)
 refine gL (fun N=>⟨cC,?_⟩) fun N=>?_
 ·have:aI=0:=q0.mp (by omega)
  rw [show min aI n=0 by omega];rfl
 refine cE (fun p=>⟨cC,?_⟩) fun p=>?_
 ·have:¬ aI < 18446744073709551616:=fun d=>by have:=f.mpr d;omega
  rw [show min aI n=n by omega]
 have cQ:aI < 18446744073709551616:=f.mp (by omega)
 have q:aI ≠ 0:=fun d=>by subst d;rw [e0] at N;exact N rfl
 have s:=Ml q cQ
 rw [s] at b ⊢
 refine gJ b (aD:=0) rfl rfl (by simp) ?_
 refine cE (fun e=>⟨cC,?_⟩) fun e=>?_
 ·have u:aI > n:=by have:((aI:Nat):Int) > (n:Int):=e;omega
  rw [show min aI n=n by omega]
 ·unfold p4.a5.t
  refine gJ b (aD:=0) rfl rfl (by simp) ⟨cC,?_⟩
  have u:¬ aI > n:=by have:¬ ((aI:Nat):Int) > (n:Int):=e;omega
  rw [show min aI n=aI by omega];rfl
theorem G1{aH:Int→U→Prop}{a:Nat}(a2:0 < a)(c:0 < t)(j:L≤n+1)(k:n < 18014398509481984)(a3:a≤n+1)(l:t < 18446744073709551616)
  (g:aH ((mK L t a n:Nat):Int) Z) :
  a4 rX.id #[.int .u64 (L:Int),.int .u64 (t:Int),.int .u64 (a:Int),.int .u64 (n:Int)] Z fun v aB=>a0 .u64 v fun L=>aH L aB:=by
 refine cD (c8:=fun v aB=>aB=Z∧v=.int .u64 ((mK L t a n:Nat):Int)) ?_ fun v aB ⟨d,N⟩=>by subst d;subst N;exact g
 refine rX.ok ?_
 unfold rX.t rX.aP.t
 have e:mK L t a n=min (L+t*a) (n+1):=by unfold mK;rw [oP]
 rw [e]
 have m:1*a≤t*a:=Nat.mul_le_mul_right _ c
 refine cE (fun N=>?_) fun N=>?_
 ·refine dM (n+1) (by omega) (by omega) ⟨rfl,?_⟩
  rw [show min (L+t*a) (n+1)=n+1 by omega]
 have f:(if (1:Int) > (a:Int) then(1:Int) else(a:Int))=(a:Int):=by split <;> omega
 rw [f]
 refine⟨by omega,?_⟩
 have o:n / a≤n:=Nat.div_le_self _ _
 refine dM (n / a) (by rw [Int.tdiv_eq_ediv_of_nonneg (by omega),← Int.natCast_ediv]) (by omega) ?_
 refine dM (n / a+1) (by omega) (by omega) ?_
 have h:=Nat.lt_mul_div_succ n a2
 have p:=Nat.mul_div_le n a
 rw [Nat.mul_add,Nat.mul_one] at h
 refine cE (fun i=>?_) fun i=>?_
 ·refine dM (n+1) (by omega) (by omega) ⟨rfl,?_⟩
  have b:(n / a+1)*a≤t*a:=Nat.mul_le_mul_right _ (by omega)
  rw [Nat.add_mul,Nat.one_mul,Nat.mul_comm] at b
  rw [show min (L+t*a) (n+1)=n+1 by omega]
 ·unfold rX.a5.t
  have b:t*a≤(n / a+1)*a:=Nat.mul_le_mul_right _ (by omega)
  rw [Nat.add_mul,Nat.one_mul,Nat.mul_comm (n / a)] at b
  refine dM (t*a) (by rw [Int.natCast_mul]) (by omega) ?_
  refine dM (L+t*a) (by omega) (by omega) ?_
  refine dM (n+1) (by omega) (by omega) ⟨rfl,?_⟩
  congr 1
  split <;> omega
end
theorem G2{m n:Nat}:fU m n≤0↔m≤n:=by unfold fU;split <;> (try split) <;> omega
theorem tE{m n:Nat}:fU m n < 0↔m < n:=by unfold fU;split <;> (try split) <;> omega
theorem tF{dF:Type}{K:Bool}{a bA aO:dF}(Z:(bif K then a else bA)=aO)(N:K=true):a=aO:=by rw [N] at Z;exact Z
theorem Bj{dF:Type}{K:Bool}{a bA aO:dF}(Z:(bif K then a else bA)=aO)(N:¬ K=true):bA=aO:=by
 rw [Bool.not_eq_true] at N;rw [N] at Z;exact Z
abbrev xM:Type:=Nat→Nat→Nat→Nat→Nat→Nat→Option (Nat × Nat)
abbrev G3:Type:=Int→S→Nat→Nat→Int→S→Nat→Nat→Int→S→Nat→Nat→Int→U→Prop
def kM(n:Nat)(bZ:xM)(L O aZ cN r dE bS:Nat):Option (Nat × Nat):=
 bif Nat.beq bS 0 then some (O,L) else bif Nat.beq (aZ - r*bS) 0 || Nat.blt n (mK cN bS dE n) then some (O,L) else bZ L O (aZ - r*bS) (mK cN bS dE n) r dE
def lE(n:Nat)(bZ:xM)(L O aZ cN r dE:Nat):Option (Nat × Nat):=
 bif Nat.beq r 0 || Nat.blt n dE then some (O,L) else kM n bZ L O aZ cN r dE (nU (bif Nat.blt (r*hL (aZ - L) r n) (aZ - L) then hL (aZ - L) r n+1 else hL (aZ - L) r n) (hL aZ r n))
def l1(n:Nat)(bZ:xM)(L O aZ cN r dE:Nat):Option (Nat × Nat):=
 bif Nat.blt (n - 1) (O+cN) || (Nat.beq L 0 || Nat.ble aZ L) then some (O,L) else lE n bZ L O aZ cN (r - aZ*hL r aZ n) (bif Nat.beq (hL r aZ n) 0 then dE else mK dE (hL r aZ n) cN n)
theorem Mm(n:Nat)(bZ:xM)(L O aZ cN r dE:Nat):tG n bZ L O aZ cN r dE=l1 n bZ (L - aZ*nU (hL L aZ n) ((n - 1 - O) / cN)) (O+nU (hL L aZ n) ((n - 1 - O) / cN)*cN) aZ cN r dE:=by
 unfold tG
 simp only [Dm]
 rfl
def tH(Y:aF)(a2:U)(p:Nat × Nat):Prop:=∀ a c aB,bK a2 aB→cJ aB a c (aN p.2)→Y (.tuple #[.int .u64 (p.1:Int),.slice a (aN p.2).length c]) aB
theorem tH.now{Y:aF}{a2 Z:U}{p:Nat × Nat}(b:tH Y a2 p){R aT:Nat}(N:some (R,aT)=some p){a:S}{c:Nat}(d:bK a2 Z)(r:cJ Z a c (aN aT)):Y (.tuple #[.int .u64 (R:Int),.slice a (aN aT).length c]) Z:=by
 have N:=Option.some.inj N
 subst N;exact b a c Z d r
def xN(b1:G3)(n:Nat)(a2:U)(p:Nat × Nat)(bZ:xM):Prop:=
 ∀ (L O aZ cN r dE:Nat) (jE m5 mL:S) (jF m6 mM:Nat) (Z:U),bZ L O aZ cN r dE=some p→bK a2 Z→cJ Z jE jF (aN L)→cJ Z m5 m6 (aN aZ)→cJ Z mL mM (aN r)→fQ L→fQ aZ→fQ r→0 < aZ→0 < cN→0 < dE→cN≤n→dE≤n→O < n→
   b1 (n:Int) jE (aN L).length jF (O:Int) m5 (aN aZ).length m6 (cN:Int) mL (aN r).length mM (dE:Int) Z
section
variable {Y:aF} {b1:G3} {n:Nat} {a2 Z:U} {p:Nat × Nat} {bZ:xM} {L O aZ cN r dE:Nat} {jE m5 mL:S} {jF m6 mM:Nat}
theorem G4(k:n < 18014398509481984)(c:tH Y a2 p)(l:xN b1 n a2 p bZ){bS:Nat}(a:kM n bZ L O aZ cN r dE bS=some p)(B:bS≤n)(e:bK a2 Z)(rx:cJ Z jE jF (aN L))(rd:cJ Z m5 m6 (aN aZ))(f:cJ Z mL mM (aN r))(m:fQ L)(g:fQ aZ)(h:fQ r)
  (g9:0 < cN) (iX:0 < dE) (C:cN≤n) (o:dE≤n) (a8:O < n) :
  kN.gS.t Y b1 (n:Int) jE (aN L).length jF (O:Int) m5 (aN aZ).length m6 (cN:Int) mL (aN r).length mM (dE:Int) (bS:Int) Z:=by
 unfold kM at a
 unfold kN.gS.t
 refine gL (fun q=>c.now (tF a (by rw [Nat.beq_eq];omega)) e rx) fun q=>?_
 replace a:=Bj a (by rw [Nat.beq_eq];omega)
 refine zJ rd rfl f rfl (by omega) g h fun bE bD s b u=>?_
 refine G1 iX (by omega) (by omega) k (by omega) (by omega) ?_
 have v:=g.le (Nat.sub_le aZ (r*bS))
 have w:0 < mK cN bS dE n:=by unfold mK;rw [oP];omega
 have d:=e.trans b
 have x:=u.eS
 generalize aZ - r*bS=i at *
 generalize mK cN bS dE n=y at *
 unfold kN.hI.t
 refine gL (fun j=>c.now (tF a (by simp only [Bool.or_eq_true,Nat.blt_eq,Nat.beq_eq];left;exact q0.mp (by omega))) d (rx.aU b)) fun j=>?_
 have d1:i ≠ 0:=fun z=>j (by rw [z,e0];rfl)
 refine cE (fun A=>c.now (tF a (by simp only [Bool.or_eq_true,Nat.blt_eq,Nat.beq_eq];right;omega)) d (rx.aU b)) fun A=>?_
 replace a:=Bj a (by simp only [Bool.or_eq_true,Nat.blt_eq,Nat.beq_eq];omega)
 exact l L O i y r dE jE bE mL jF bD mM s a d (rx.aU b) x (f.aU b) m v h (by omega) w iX (by omega) o a8
theorem G5(f:n < 18014398509481984)(g:tH Y a2 p)(h:xN b1 n a2 p bZ){aE:Nat}(b:kM n bZ L O aZ cN r dE (nU aE (hL aZ r n))=some p)(q:aE≤n+1)(m:r ≠ 0)(i:bK a2 Z)(rx:cJ Z jE jF (aN L))(rd:cJ Z m5 m6 (aN aZ))(c:cJ Z mL mM (aN r))(j:fQ L)(d:fQ aZ)(e:fQ r)
  (g9:0 < cN) (iX:0 < dE) (k:cN≤n) (l:dE≤n) (a8:O < n) :
  kN.eZ.t Y b1 (n:Int) jE (aN L).length jF (O:Int) m5 (aN aZ).length m6 (cN:Int) mL (aN r).length mM (dE:Int) (aE:Int) Z:=by
 unfold kN.eZ.t
 refine Bi rd rfl c rfl m (by omega) d e fun s a=>?_
 have u:hL aZ r n≤n:=by unfold hL;rw [oP];omega
 rw [oP] at b
 generalize hL aZ r n=t at *
 refine cE (fun o=>?_) fun o=>?_
 ·refine G4 f g h (bS:=t) (by rw [show min aE t=t by omega] at b;exact b) (by omega) (i.trans a) (rx.aU a) (rd.aU a) (c.aU a) j d e g9 iX k l a8
 ·refine G4 f g h (bS:=aE) (by rw [show min aE t=aE by omega] at b;exact b) (by omega) (i.trans a) (rx.aU a) (rd.aU a) (c.aU a) j d e g9 iX k l a8
theorem G6(l:n < 18014398509481984)(c:tH Y a2 p)(m:xN b1 n a2 p bZ)(a:lE n bZ L O aZ cN r dE=some p)(d:bK a2 Z)(rx:cJ Z jE jF (aN L))(rd:cJ Z m5 m6 (aN aZ))(e:cJ Z mL mM (aN r))(g:fQ L)(f:fQ aZ)(b:fQ r)
  (g9:0 < cN) (iX:0 < dE) (o:cN≤n) (a8:O < n) :
  kN.dD.t Y b1 (n:Int) jE (aN L).length jF (O:Int) m5 (aN aZ).length m6 (cN:Int) mL (aN r).length mM (dE:Int) Z:=by
 unfold lE at a
 unfold kN.dD.t
 refine gL (fun q=>c.now (tF a (by simp only [Bool.or_eq_true,Nat.blt_eq,Nat.beq_eq];left;exact q0.mp (by omega))) d rx) fun q=>?_
 have h:r ≠ 0:=fun i=>q (by rw [i,e0];rfl)
 refine cE (fun u=>c.now (tF a (by simp only [Bool.or_eq_true,Nat.blt_eq,Nat.beq_eq];right;omega)) d rx) fun u=>?_
 replace a:=Bj a (by simp only [Bool.or_eq_true,Nat.blt_eq,Nat.beq_eq];omega)
 unfold kN.eX.t
 refine vF rd rfl rx rfl f.g1 g.g1 fun y z a1 cC rg=>?_
 have w:=f.le (Nat.sub_le aZ L)
 refine Bi rg.eS rfl (e.aU cC) rfl h (by omega) w b fun A j=>?_
 have b5:hL (aZ - L) r n≤n:=by unfold hL;rw [oP];omega
 generalize hL (aZ - L) r n=v at *
 refine vG ((e.aU cC).aU j) rfl (by omega) b.g1 (b.zI (by omega)) fun B C D s x=>?_
 refine rP x.eS rfl ((rg.eS.aU j).aU s) rfl ?_
 have eR:=(cC.trans j).trans s
 refine cE (fun k=>?_) fun k=>?_
 ·refine dM (v+1) (by omega) (by omega) ?_
  have N:Nat.blt (r*v) (aZ - L)=true:=by rw [Nat.blt_eq];exact tE.mp k
  rw [N] at a
  exact G5 l c m a (by omega) h (d.trans eR) (rx.aU eR) (rd.aU eR) (e.aU eR) g f b g9 iX o (by omega) a8
 ·have N:Nat.blt (r*v) (aZ - L)=false:=by
   rw [← Bool.not_eq_true,Nat.blt_eq];exact fun i=>k (tE.mpr i)
  rw [N] at a
  exact G5 l c m a (by omega) h (d.trans eR) (rx.aU eR) (rd.aU eR) (e.aU eR) g f b g9 iX o (by omega) a8
theorem G7(f:n < 18014398509481984)(b:tH Y a2 p)(j:xN b1 n a2 p bZ)(a:l1 n bZ L O aZ cN r dE=some p)(c:bK a2 Z)(rx:cJ Z jE jF (aN L))(rd:cJ Z m5 m6 (aN aZ))(g:cJ Z mL mM (aN r))(k:fQ L)(d:fQ aZ)(e:fQ r)
  (d0:0 < aZ) (g9:0 < cN) (iX:0 < dE) (l:cN≤n) (u:dE≤n) (a8:O < n) :
  kN.cF.t Y b1 (n:Int) jE (aN L).length jF (O:Int) m5 (aN aZ).length m6 (cN:Int) mL (aN r).length mM (dE:Int) Z:=by
 unfold l1 at a
 unfold kN.cF.t
 refine dM (O+cN) (by omega) (by omega) ?_
 refine dM (n - 1) (by omega) (by omega) ?_
 refine cE (fun N=>b.now (tF a (by simp only [Bool.or_eq_true,Nat.blt_eq,Nat.beq_eq,Nat.ble_eq];left;omega)) c rx) fun N=>?_
 refine gL (fun m=>b.now (tF a (by simp only [Bool.or_eq_true,Nat.blt_eq,Nat.beq_eq,Nat.ble_eq];right;left;exact q0.mp (by omega))) c rx) fun m=>?_
 refine rP rd rfl rx rfl ?_
 refine cE (fun h=>b.now (tF a (by simp only [Bool.or_eq_true,Nat.blt_eq,Nat.beq_eq,Nat.ble_eq];right;right;exact G2.mp h)) c rx) fun h=>?_
 have jP:L ≠ 0:=fun i=>m (by rw [i,e0];rfl)
 have v:L < aZ:=Nat.lt_of_not_le fun i=>h (G2.mpr i)
 replace a:=Bj a (by simp only [Bool.or_eq_true,Nat.blt_eq,Nat.beq_eq,Nat.ble_eq];omega)
 unfold kN.cH.t
 refine Bi g rfl rd rfl (by omega) (by omega) e d fun a1 cC=>?_
 have hu:hL r aZ n≤n:=by unfold hL;rw [oP];omega
 generalize hL r aZ n=cY at *
 refine cE (fun o=>?_) fun o=>?_
 ·refine zJ (g.aU cC) rfl (rd.aU cC) rfl (by omega) e d fun bO bN w q s=>?_
  refine G1 g9 (by omega) (by omega) f (by omega) (by omega) ?_
  have eR:=cC.trans q
  have:Nat.beq cY 0=false:=by rw [← Bool.not_eq_true,Nat.beq_eq];omega
  rw [this] at a
  exact G6 f b j a (c.trans eR) (rx.aU eR) (rd.aU eR) s.eS k d (e.le (Nat.sub_le _ _)) g9 (by show 0 < mK dE cY cN n;unfold mK;rw [oP];omega) l a8
 ·obtain rfl:cY=0:=by omega
  rw [Nat.mul_zero,Nat.sub_zero] at a
  exact G6 f b j a (c.trans cC) (rx.aU cC) (rd.aU cC) (g.aU cC) k d e g9 iX l a8
theorem Mn(d:n < 18014398509481984)(e:tH Y a2 p)(f:xN b1 n a2 p bZ)(a:tG n bZ L O aZ cN r dE=some p)(g:bK a2 Z)(rx:cJ Z jE jF (aN L))(rd:cJ Z m5 m6 (aN aZ))(h:cJ Z mL mM (aN r))(b:fQ L)(c:fQ aZ)(i:fQ r)
  (d0:0 < aZ) (g9:0 < cN) (iX:0 < dE) (j:cN≤n) (k:dE≤n) (a8:O < n) :
  kN.bM.t Y b1 (n:Int) jE (aN L).length jF (O:Int) m5 (aN aZ).length m6 (cN:Int) mL (aN r).length mM (dE:Int) Z:=by
 rw [Mm] at a
 unfold kN.bM.t
 refine Bi rx rfl rd rfl (by omega) (by omega) b c fun a1 cC=>?_
 refine dM (n - 1) (by omega) (by omega) ?_
 refine dM (n - 1 - O) (by omega) (by omega) ?_
 refine⟨by omega,?_⟩
 have s:(n - 1 - O) / cN≤n - 1 - O:=Nat.div_le_self _ _
 refine dM ((n - 1 - O) / cN) (by rw [Int.tdiv_eq_ediv_of_nonneg (by omega),← Int.natCast_ediv]) (by omega) ?_
 have l:(if (((n - 1 - O) / cN:Nat):Int) < ((hL L aZ n:Nat):Int) then(((n - 1 - O) / cN:Nat):Int) else((hL L aZ n:Nat):Int))=((nU (hL L aZ n) ((n - 1 - O) / cN):Nat):Int):=by
  rw [oP];split <;> omega
 rw [l]
 have t2:nU (hL L aZ n) ((n - 1 - O) / cN)*cN≤n - 1 - O:=(Nat.le_div_iff_mul_le g9).mp (by rw [oP];omega)
 have t3:nU (hL L aZ n) ((n - 1 - O) / cN)≤n:=by rw [oP];omega
 generalize nU (hL L aZ n) ((n - 1 - O) / cN)=t at *
 refine cE (fun m=>?_) fun m=>?_
 ·refine zJ (rx.aU cC) rfl (rd.aU cC) rfl (by omega) b c fun bO bN u o q=>?_
  have eR:=cC.trans o
  refine dM (t*cN) (by rw [Int.natCast_mul]) (by omega) ?_
  refine dM (O+t*cN) (by omega) (by omega) ?_
  exact G7 d e f a (g.trans eR) q.eS (rd.aU eR) (h.aU eR) (b.le (Nat.sub_le _ _)) c i d0 g9 iX j k (by omega)
 ·obtain rfl:t=0:=by omega
  rw [Nat.mul_zero,Nat.sub_zero,Nat.zero_mul,Nat.add_zero] at a
  exact G7 d e f a (g.trans cC) (rx.aU cC) (rd.aU cC) (h.aU cC) b c i d0 g9 iX j k a8
end
theorem G8{Y:aF}{n:Nat}(b:n < 18014398509481984){a2:U}{p:Nat × Nat}(c:tH Y a2 p):∀ f,xN (kN.dG.t Y f) n a2 p (Bk n f)
 | 0=>fun _ _ _ _ _ _ _ _ _ _ _ _ _ a=>by cases a
 | f+1=>fun L O aZ cN r dE jE m5 mL jF m6 mM Z a d rx rd e g h i d0 g9 iX j k a8=>Mn b c (G8 b c f) a d rx rd e g h i d0 g9 iX j k a8
theorem vS:2 ^ 320=b4:=by kernel_rfl
theorem xO{aD R:Nat}(Z:aD < R):2 ^ aD < 2 ^ R:=Nat.pow_lt_pow_right (by decide) Z
theorem Mo{m aD R:Nat}(N:2 ^ aD=m)(Z:aD < R):m < 2 ^ R:=by rw [← N];exact xO Z
theorem Dn{R:Nat}(Z:320 < R):b4 < 2 ^ R:=Mo (aD:=320) vS Z
theorem Mp(n:Nat):1*2 ^ n=2 ^ n:=Nat.one_mul _
theorem Bl{L t aD R:Nat}(a:L < 2 ^ aD)(b:t < 2 ^ R):L*t < 2 ^ (aD+R):=by rw [Nat.pow_add];exact Nat.mul_lt_mul'' a b
theorem G9{aT R:Nat}(Z:aT < 2 ^ R):aT+1 < 2 ^ (R+1):=by rw [Nat.pow_succ];omega
theorem p5{L:Nat}(Z:L≤b4):fQ L:=Nat.lt_of_le_of_lt Z (Dn (R:=400) (by decide))
theorem iO:0 < b4:=Nat.lt_of_lt_of_le (show 0 < 1 by decide) (Nat.le_of_ble_eq_true (by kernel_rfl))
theorem Bm(L:Nat):hP L=if L=0 then 0 else b4 - L:=by
 unfold hP
 by_cases Z:L=0
 ·subst Z;rfl
 ·rw [if_neg Z]
  have:Nat.beq L 0=false:=by rw [← Bool.not_eq_true,Nat.beq_eq];exact Z
  rw [this];rfl
theorem rY{L:Nat}(Z:L < b4):hP L < b4:=by
 rw [Bm];split <;> omega
section
variable {a K:S} {c aZ l m L aT t n:Nat} {Z:U}
theorem Ha{aH:S→Nat→Nat→U→Prop}(g:∀ a c aB,bK Z aB→cX dL Z aB a c (aN b4)→aH a (aN b4).length c aB):
  a4 tI.id #[] Z fun v aB=>aR v fun a l c=>aH a l c aB:=by
 refine cD (c8:=fun v aB=>bK Z aB∧∃ a c,v=.slice a (aN b4).length c∧cX dL Z aB a c (aN b4)) ?_ fun v aB ⟨R,a,c,N,r⟩=>by subst N;exact g a c aB R r
 refine tI.ok ?_
 unfold tI.t tI.aP.t
 refine o6 (L:=1) (by decide) fun aM aK a1 cC d=>?_
 have N:1*2 ^ 320=b4:=(Mp 320).trans vS
 refine yZ (n:=320) rfl d.eS rfl (by decide) (pZ (by decide)) (by rw [N];exact(p5 (Nat.le_refl _)).g1) fun bO bN f e b=>?_
 rw [N] at b ⊢
 exact⟨cC.trans e,_,_,rfl,b.from cC.le⟩
theorem Hb{aH:S→Nat→Nat→U→Prop}(r:cJ Z a c (aN L))(b:l=(aN L).length)(j:L < b4)(g:∀ a c aB,bK Z aB→cJ aB a c (aN (hP L))→aH a (aN (hP L)).length c aB):
  a4 tJ.id #[.slice a l c] Z fun v aB=>aR v fun a l c=>aH a l c aB:=by
 refine cD (c8:=fun v aB=>bK Z aB∧∃ a c,v=.slice a (aN (hP L)).length c∧cJ aB a c (aN (hP L))) ?_ fun v aB ⟨R,a,c,N,r⟩=>by subst N;exact g a c aB R r
 refine tJ.ok ?_
 unfold tJ.t tJ.aP.t
 refine gL (fun N=>?_) fun N=>?_
 ·have:L=0:=q0.mp (by omega)
  subst this
  exact⟨bK.refl _,none,0,by show _=Value.slice none (aN 0).length 0;rw [e0];rfl,by show cJ _ _ _ (aN 0);rw [e0];exact cJ.nil _ _ _⟩
 ·have aY:L ≠ 0:=fun e=>N (by rw [b,e,e0];rfl)
  have f:b4 - L*1=hP L:=by rw [Bm,if_neg aY,Nat.mul_one]
  refine Ha fun aM aK a1 cC h=>?_
  refine zJ (t:=1) h.eS rfl (r.aU cC) b (by decide) (p5 (Nat.le_refl _)) (p5 (by omega)) fun bO bN k i d=>?_
  rw [f] at d ⊢
  exact⟨cC.trans i,_,_,rfl,d.eS⟩
theorem Mq{aH:Int→S→Nat→Nat→U→Prop}{b at_ f:Nat}{p:Nat × Nat}(j:zK b4 b at_ n f=some p)(r:cJ Z a c (aN at_))(k:l=(aN at_).length)(aG:cJ Z K aZ (aN b))(o:m=(aN b).length)
  (bH:b < b4) (A:at_ < b4) (c4:0 < n) (q:n < 18014398509481984) (g:∀ a c aB,bK Z aB→cJ aB a c (aN p.2)→aH (p.1:Int) a (aN p.2).length c aB) :
  a4 kN.id #[.agg #[.slice a l c,.slice K m aZ],.int .u64 (n:Int)] Z fun v aB=>cW v fun aT=>cV aT fun s eK=>a0 .u64 s fun L=>cV eK fun u w=>aR u fun a l c=>b9 w (aH L a l c aB):=by
 refine cD (c8:=fun v aB=>bK Z aB∧∃ a c,v=.tuple #[.int .u64 (p.1:Int),.slice a (aN p.2).length c]∧cJ aB a c (aN p.2)) ?_ fun v aB ⟨R,a,c,N,r⟩=>by subst N;exact gY rfl (cS (b0 rfl (cS (bL rfl (eG (g a c aB R r))))))
 have x:=Hc bH c4 j
 subst k;subst o
 refine kN.ok ?_
 unfold kN.t kN.aP.t
 refine fJ fun a1 e cC=>?_
 refine mE e (R:=0) rfl ?_
 refine Ha fun bO bN B d y=>?_
 refine⟨d.pre,e.JD 1,?_⟩
 refine mE (e.aU d) (R:=1) rfl ?_
 refine zJ (t:=1) y.eS rfl ((aG.aU cC).aU d) rfl (by decide) (p5 (Nat.le_refl _)) (p5 (by omega)) fun c9 cZ z h i=>?_
 refine⟨h.gI d.le,?_⟩
 refine mE ((e.aU d).aU h) (R:=1) rfl ?_
 have N:b4 - b*1=b4 - b:=by rw [Nat.mul_one]
 rw [N] at i ⊢
 have eR:=(cC.trans d).trans h
 exact⟨f,G8 q (a2:=Z) (p:=p) (fun a c aB R r=>⟨R,a,c,rfl,r⟩) f at_ 0 (b4 - b) 1 b 1 _ _ _ _ _ _ z x eR (r.aU eR) i.eS (aG.aU eR) (p5 (by omega)) (p5 (by omega)) (p5 (by omega)) (by omega) (by decide) (by decide) (by omega) (by omega) c4⟩
theorem Hd{aH:Int→S→Nat→Nat→U→Prop}{bW a8 f:Nat}{up:Bool}{p:Nat × Nat}(b:pG f L bW a8 up=some p)(r:cJ Z a c (aN L))(E:l=(aN L).length)(F:L < 2 ^ 1400)
  (QA:bW≤a8) (QB:a8 < 9007199254740992) (g:∀ a c aB,bK Z aB→cJ aB a c (aN p.2)→aH (p.1:Int) a (aN p.2).length c aB) :
  a4 q4.id #[.slice a l c,.int .u64 (bW:Int),.int .u64 (a8:Int),.bool up] Z fun v aB=>cW v fun aT=>cV aT fun G eK=>a0 .u64 G fun L=>cV eK fun H I=>aR H fun a l c=>b9 I (aH L a l c aB):=by
 refine cD (c8:=fun v aB=>bK Z aB∧∃ a c,v=.tuple #[.int .u64 (p.1:Int),.slice a (aN p.2).length c]∧cJ aB a c (aN p.2)) ?_ fun v aB ⟨R,a,c,N,r⟩=>by subst N;exact gY rfl (cS (b0 rfl (cS (bL rfl (eG (g a c aB R r))))))
 have g7:fK L:=jV F (by omega)
 unfold pG at b
 simp only [l2,zL,Nat.mul_eq,Nat.sub_eq,Nat.succ_eq_add_one,Nat.add_eq] at b
 refine q4.ok ?_
 unfold q4.t q4.aP.t
 refine Gd (n:=320) rfl r E (by decide) g7 fun aM aK a1 cC j=>?_
 rw [vS] at j ⊢
 have k:L % b4 < b4:=Nat.mod_lt _ iO
 refine vG j.eS rfl (by omega) (p5 (by omega)).g1 ((p5 (by omega)).zI (by omega)) fun bO bN QC w J=>?_
 refine Gd (n:=320) rfl J.eS rfl (by decide) ((p5 (by omega)).zI (by omega)) fun c9 cZ P x y=>?_
 rw [vS] at y ⊢
 have iU:L % b4*bW % b4 < b4:=Nat.mod_lt _ iO
 have cQ:=(j.eS.aU w).aU x
 have z:=y.eS
 have eR:=(cC.trans w).trans x
 generalize L % b4*bW % b4=A at *
 generalize L % b4=B at *
 have two:∀ (e at_:Nat) (m o:S) (q s:Nat) (d:U),e=cond up (hP B) B→at_=cond up (hP A) A→bK Z d→cJ d o s (aN at_)→cJ d m q (aN e)→e < b4→at_ < b4→
   q4.a5.t (fun v aB=>bK Z aB∧∃ a c,v=.tuple #[.int .u64 (p.1:Int),.slice a (aN p.2).length c]∧cJ aB a c (aN p.2)) (bW:Int) (a8:Int) m (aN e).length q o (aN at_).length s d:=by
  intro e at_ m o q s d Q T h V Qx bH C
  rw [← Q,← T] at b
  unfold q4.a5.t
  refine dM (a8 - bW) (by omega) (by omega) ?_
  refine dM (a8 - bW+1) (by omega) (by omega) ?_
  split at b
  ·rename_i O v b5
   have Qy:=(zM bH C (by omega) b5).1
   refine Mq b5 V rfl Qx rfl bH C (by omega) (by omega) fun bE bD D i u=>?_
   have b:=Option.some.inj b
   subst b
   have QD:O < a8 - bW+1:=Qy
   refine dM (bW+O) (by show((bW:Int)+((O:Nat):Int))=_;omega) (by omega) ?_
   exact⟨h.trans i,bE,bD,rfl,u⟩
  ·cases b
 cases up with
 | true=>
  simp only [cond_true]
  refine Hb cQ rfl k fun eI eN d h Qz=>?_
  refine Hb (z.aU h) rfl iU fun bE bD D i u=>?_
  exact two _ _ _ _ _ _ D rfl rfl ((eR.trans h).trans i) u (Qz.aU i) (rY k) (rY iU)
 | false=>exact two _ _ _ _ _ _ P rfl rfl eR z cQ k iU
theorem He{aH:S→Nat→Nat→U→Prop}{up:Bool}(r:cJ Z a c (aN L))(i:l=(aN L).length)(b:L < 2 ^ 1400)(d:t < 18446744073709551616)
  (g:∀ a c aB,bK Z aB→cX dL Z aB a c (aN (iP L t up))→aH a (aN (iP L t up)).length c aB) :
  a4 tK.id #[.slice a l c,.int .u64 (t:Int),.bool up] Z fun v aB=>aR v fun a l c=>aH a l c aB:=by
 refine cD (c8:=fun v aB=>bK Z aB∧∃ a c,v=.slice a (aN (iP L t up)).length c∧cX dL Z aB a c (aN (iP L t up))) ?_ fun v aB ⟨R,a,c,N,r⟩=>by subst N;exact g a c aB R r
 refine tK.ok ?_
 unfold tK.t tK.aP.t
 have g1:fK (L*t):=G0 b (zH d) (by omega)
 refine vG r i d (jV b (by omega)) g1 fun aM aK a1 cC j=>?_
 refine CT (n:=320) rfl j.eS rfl (by decide) g1 fun bO bN q e f=>?_
 rw [vS] at f ⊢
 have N:iP L t up=L*t / b4+cond up 1 0:=by unfold iP;rw [show Nat.mul t L=t*L from rfl,Nat.mul_comm];rfl
 rw [N]
 have k:L*t / b4≤L*t:=Nat.div_le_self _ _
 have dC:fK (L*t / b4+1):=jV (G9 (Nat.lt_of_le_of_lt k (Bl b (zH d)))) (by omega)
 cases up with
 | true=>
  simp only [cond_true]
  refine o6 (L:=1) (by decide) fun c9 cZ s h m=>?_
  refine vE (f.eS.aU h) rfl m.eS rfl dC fun eI eN u o p=>?_
  exact⟨((cC.trans e).trans h).trans o,_,_,rfl,p.from ((cC.trans e).trans h).le⟩
 | false=>exact⟨cC.trans e,_,_,rfl,f.from cC.le⟩
structure xP(L bW a8 aQ:Nat):Prop where
 pH:bW≤aQ
 oQ:aQ≤a8+1
 under:∀ m,bW≤m→m < aQ→m*L < b4
 zN:aQ≤a8→b4≤aQ*L
theorem xP.uniq{L bW a8 aQ fO:Nat}(cY:xP L bW a8 aQ)(v:xP L bW a8 fO):aQ=fO:=by
 rcases Nat.lt_trichotomy aQ fO with Z | Z | Z
 ·have:=cY.zN (by have:=v.oQ;omega)
  have:=v.under aQ cY.pH Z;omega
 ·exact Z
 ·have:=v.zN (by have:=cY.oQ;omega)
  have:=cY.under fO v.pH Z;omega
theorem Bn{L bW a8:Nat}(e:bW≤a8):xP L bW a8 (pI L bW a8):=by
 unfold pI
 rw [rZ,rZ]
 simp only [Dp,Nat.mul_eq,Nat.sub_eq,Nat.succ_eq_add_one,Nat.add_eq]
 by_cases a1:b4≤bW*L
 ·rw [if_pos a1];exact⟨Nat.le_refl _,by omega,fun m a K=>by omega,fun _=>a1⟩
 rw [if_neg a1]
 by_cases b:b4≤a8*L
 ·rw [if_pos b]
  have aY:0 < L:=Nat.pos_of_ne_zero fun N=>by rw [N,Nat.mul_zero] at b;have:=iO;omega
  have f:(b4+L - 1) / L*L≤b4+L - 1:=Nat.div_mul_le_self _ _
  have d:=Nat.lt_mul_div_succ (b4+L - 1) aY
  rw [Nat.mul_add,Nat.mul_one,Nat.mul_comm] at d
  have mono:∀ a K,a≤K→a*L≤K*L:=fun a K Z=>Nat.mul_le_mul_right L Z
  refine⟨Nat.le_of_not_lt fun c=>?_,?_,fun m _ K=>?_,fun _=>by omega⟩
  ·have:=mono _ _ (show(b4+L - 1) / L+1≤bW by omega)
   rw [Nat.add_mul,Nat.one_mul] at this;omega
  ·refine Nat.le_of_not_lt fun c=>?_
   have:=mono _ _ (show a8+1+1≤(b4+L - 1) / L by omega)
   rw [Nat.add_mul,Nat.add_mul,Nat.one_mul] at this;omega
  ·have:=mono _ _ (show m+1≤(b4+L - 1) / L by omega)
   rw [Nat.add_mul,Nat.one_mul] at this;omega
 ·rw [if_neg b]
  refine⟨by omega,Nat.le_refl _,fun m _ K=>?_,fun c=>by omega⟩
  have:=Nat.mul_le_mul_right L (show m≤a8 by omega);omega
theorem Mr{Y:aF}{bW a8:Nat}{a2:U}(j:L < 2 ^ 1400)(k:l=(aN L).length)(u:1≤bW)(i:bW≤a8)(w:a8 < 9007199254740992)(n:cJ a2 a c (aN L))(g:∀ aB,bK a2 aB→Y (.int .u64 ((pI L bW a8:Nat):Int)) aB):
  ∀ (R cY v:Nat) (Z:U),v+1≤cY+R→bW≤cY→cY≤v+1→v≤a8→(∀ m,bW≤m→m < cY→m*L < b4)→(∀ m,v < m→m≤a8→b4≤m*L)→bK a2 Z→
   nV.cP.t Y (R+1) a l c (cY:Int) (v:Int) Z:=by
 intro R
 induction R with
 | zero=>
  intro cY v Z o hu p b5 e f d
  obtain rfl:cY=v+1:=by omega
  unfold nV.cP.t nV.cF.t
  refine cE (fun N=>absurd N (by omega)) fun _=>?_
  unfold nV.a5.t
  have:v+1=pI L bW a8:=xP.uniq ⟨hu,by omega,e,fun b=>f (v+1) (by omega) b⟩ (Bn i)
  rw [this];exact g Z d
 | succ R bZ=>
  intro cY v Z o hu p b5 e f d
  unfold nV.cP.t nV.cF.t
  refine cE (fun N=>?_) fun N=>?_
  ·refine dM (v - cY) (by omega) (by omega) ?_
   refine⟨by decide,?_⟩
   refine dM ((v - cY) / 2) (by rw [Int.tdiv_eq_ediv_of_nonneg (by omega)];omega) (by omega) ?_
   refine dM (cY+(v - cY) / 2) (by omega) (by omega) ?_
   have x:cY≤cY+(v - cY) / 2:=by omega
   have y:cY+(v - cY) / 2≤v:=by omega
   have aW:(v - cY) / 2+(v - cY) / 2≤v - cY:=by omega
   generalize cY+(v - cY) / 2=k5 at *
   refine He (n.aU d) k j (by omega) fun aM aK a1 cC z=>?_
   have q:iP L k5 false=k5*L / b4:=rfl
   rw [q]
   refine cE (fun h=>?_) fun h=>?_
   ·have:k5*L / b4 ≠ 0:=fun b=>by rw [b,e0] at h;exact absurd h (by decide)
    have A:b4≤k5*L:=Nat.le_of_not_lt fun b=>this (Nat.div_eq_of_lt b)
    refine dM (k5 - 1) (by omega) (by omega) ?_
    refine bZ cY (k5 - 1) a1 (by omega) hu (by omega) (by omega) e (fun m r s=>?_) (d.trans cC)
    have:=Nat.mul_le_mul_right L (show k5≤m by omega);omega
   ·have:k5*L / b4=0:=q0.mp (by omega)
    have dC:k5*L < b4:=by
     refine Nat.lt_of_not_le fun b=>?_
     have:=Nat.div_pos b iO;omega
    refine dM (k5+1) (by omega) (by omega) ?_
    refine bZ (k5+1) v a1 (by omega) (by omega) (by omega) b5 (fun m r s=>?_) f (d.trans cC)
    have:=Nat.mul_le_mul_right L (show m≤k5 by omega);omega
  ·unfold nV.a5.t
   obtain rfl:cY=v+1:=by omega
   have:v+1=pI L bW a8:=xP.uniq ⟨hu,by omega,e,fun b=>f (v+1) (by omega) b⟩ (Bn i)
   rw [this];exact g Z d
theorem Ms{aH:Int→U→Prop}{bW a8:Nat}(r:cJ Z a c (aN L))(b:l=(aN L).length)(d:L < 2 ^ 1400)(e:1≤bW)(f:bW≤a8)(h:a8 < 9007199254740992)(g:∀ aB,bK Z aB→aH ((pI L bW a8:Nat):Int) aB):
  a4 nV.id #[.slice a l c,.int .u64 (bW:Int),.int .u64 (a8:Int)] Z fun v aB=>a0 .u64 v fun L=>aH L aB:=by
 refine cD (c8:=fun v aB=>bK Z aB∧v=.int .u64 ((pI L bW a8:Nat):Int)) ?_ fun v aB ⟨R,N⟩=>by subst N;exact g aB R
 refine nV.ok ?_
 unfold nV.t nV.aP.t
 exact⟨a8+1 - bW+1,Mr d b e f h r (fun aB R=>⟨R,rfl⟩) (a8+1 - bW) bW a8 Z (by omega) (Nat.le_refl _) (by omega) (Nat.le_refl _) (fun m a1 i=>by omega) (fun m a1 i=>by omega) (bK.refl _)⟩
def fC(L aT:Nat):Nat:=if L < aT then aT - L else L - aT
theorem Hf{aH:S→Nat→Nat→U→Prop}(r:cJ Z a c (aN L))(b:l=(aN L).length)(aG:cJ Z K aZ (aN aT))(d:m=(aN aT).length)(g7:fK L)(h:fK aT)
  (g:∀ a c aB,bK Z aB→cJ aB a c (aN (fC L aT))→aH a (aN (fC L aT)).length c aB) :
  a4 q5.id #[.slice a l c,.slice K m aZ] Z fun v aB=>aR v fun a l c=>aH a l c aB:=by
 refine cD (c8:=fun v aB=>bK Z aB∧∃ a c,v=.slice a (aN (fC L aT)).length c∧cJ aB a c (aN (fC L aT))) ?_ fun v aB ⟨R,a,c,N,r⟩=>by subst N;exact g a c aB R r
 refine q5.ok ?_
 unfold q5.t q5.aP.t
 refine rP r b aG d ?_
 refine cE (fun N=>?_) fun N=>?_
 ·have e:fC L aT=aT - L:=if_pos (tE.mp N)
  unfold q5.a5.t
  refine vF aG d r b h g7 fun aM aK a1 cC f=>?_
  rw [e]
  exact⟨cC,aM,aK,rfl,f.eS⟩
 ·have e:fC L aT=L - aT:=if_neg fun i=>N (tE.mpr i)
  unfold q5.a5.t
  refine vF r b aG d g7 h fun aM aK a1 cC f=>?_
  rw [e]
  exact⟨cC,aM,aK,rfl,f.eS⟩
theorem Mt{aH:S→Nat→Nat→Int→U→Prop}(r:cJ Z a c (aN L))(b:l=(aN L).length)(aG:cJ Z K aZ (aN aT))(d:m=(aN aT).length)(g7:fK L)(e:fK aT)(g1:fK (L*aT))
  (g:∀ a c aB,bK Z aB→cX dL Z aB a c (aN (L*aT))→aH a (aN (L*aT)).length c 0 aB) :
  a4 rR.id #[.slice a l c,.slice K m aZ] Z fun v aB=>cW v fun aT=>cV aT fun f eK=>aR f fun a l c=>cV eK fun h i=>a0 .i64 h fun L=>b9 i (aH a l c L aB):=by
 refine cD (Lg r aG b d) fun v aB ⟨R,t⟩=>?_
 have N:xH (aN L) (aN aT)=(aN (L*aT),0):=by unfold xH;rw [if_pos ⟨oI g7,oI e⟩,e9,e9,vD g1]
 rw [N] at t
 exact t.iM fun a c r O=>g a c aB R r
end
theorem tL(n:Nat):Nat.pow 2 n=2 ^ n:=rfl
theorem Mu{L aT aD:Nat}(a:L < 2 ^ aD)(b:aT < 2 ^ aD):L+aT < 2 ^ (aD+1):=by rw [Nat.pow_succ];omega
theorem Hg{aE n:Nat}(Z:n=4400 - aE):Nat.div hW (Nat.pow 2 n)=dN aE:=by subst Z;rfl
theorem Mv{n:Nat}(Z:n ≠ 0):eJ n=Nat.log2 n+1:=if_neg Z
theorem Hh{a K:Nat}(Z:Nat.xor a K < Nat.land a K):a ≠ 0∧K ≠ 0∧eJ a=eJ K:=by
 have a1:Nat.land a K≤a:=Nat.and_le_left
 have b:Nat.land a K≤K:=Nat.and_le_right
 have M:a ≠ 0:=by omega
 have c:K ≠ 0:=by omega
 refine⟨M,c,?_⟩
 have key:∀ a K:Nat,a ≠ 0→Nat.land a K≤K→Nat.xor a K < Nat.land a K→¬ eJ K < eJ a:=by
  intro a K M b Z dC
  have a3:K < 2 ^ Nat.log2 a:=iL.mp (by rw [Mv M] at dC;omega)
  have d:a.testBit (Nat.log2 a)=true:=Nat.testBit_log2 M
  have e:K.testBit (Nat.log2 a)=false:=Nat.testBit_lt_two_pow a3
  have f:(a ^^^ K).testBit (Nat.log2 a)=true:=by rw [Nat.testBit_xor,d,e];rfl
  have:=Nat.ge_two_pow_of_testBit f
  have N:Nat.xor a K=a ^^^ K:=rfl
  omega
 have cC:=key a K M b Z
 have g:=key K a c (by have N:Nat.land K a=Nat.land a K:=Nat.and_comm K a;omega) (by
  have N:Nat.land K a=Nat.land a K:=Nat.and_comm K a
  have h:Nat.xor K a=Nat.xor a K:=Nat.xor_comm K a
  omega)
 omega
theorem Hi{cY v a K:Nat}(Z:Bo cY v a K=true):a ≠ 0∧K ≠ 0∧eJ a=eJ K∧2 ^ cY≤a∧a≤2 ^ v:=by
 unfold Bo at Z
 rw [l2,l2,rZ,rZ,tL,tL] at Z
 split at Z
 ·rename_i a1
  split at Z
  ·rename_i b
   obtain⟨L,aT,bS⟩:=Hh a1
   exact⟨L,aT,bS,b,Nat.le_of_ble_eq_true Z⟩
  ·cases Z
 ·cases Z
structure Told(aE L R:Nat):Prop where
 side:R*dN aE+R < L∨L < R*dN aE
 bits:eJ (fC L (R*dN aE))=eJ (fC L (R*dN aE+R))
 low:2 ^ 1201≤fC L (R*dN aE)
 high:fC L (R*dN aE)≤2 ^ 1470
 c4:fC L (R*dN aE) ≠ 0
 eF:fC L (R*dN aE+R) ≠ 0
theorem Hj{n aE L R:Nat}(e:n=4400 - aE)(Z:zO n L R=true):Told aE L R:=by
 unfold zO at Z
 rw [l2,l2,Hg e,rZ,rZ] at Z
 simp only [Nat.mul_eq,Nat.add_eq,Nat.sub_eq,Nat.succ_eq_add_one] at Z
 split at Z
 ·rename_i a1
  obtain⟨a,K,c,aZ,N⟩:=Hi Z
  have b:fC L (R*dN aE)=L - R*dN aE:=if_neg (by omega)
  have d:fC L (R*dN aE+R)=L - (R*dN aE+R):=if_neg (by omega)
  rw [← b] at a c aZ N
  rw [← d] at K c
  exact⟨Or.inl a1,c,aZ,N,a,K⟩
 ·split at Z
  ·rename_i a1 f
   obtain⟨a,K,c,aZ,N⟩:=Hi Z
   have b:fC L (R*dN aE)=R*dN aE - L:=if_pos (by omega)
   have d:fC L (R*dN aE+R)=R*dN aE+R - L:=if_pos (by omega)
   rw [← b] at a c aZ N
   rw [← d] at K c
   exact⟨Or.inr f,c,aZ,N,a,K⟩
  ·cases Z
def q6(aE L R:Nat):Int:=((aE+2:Nat):Int) - (eJ (fC L (R*dN aE)):Int)
section
variable {a:S} {c l R m N:Nat} {Z:U}
theorem Mw{aH:Int→U→Prop}(r:cJ Z a c (aN R))(w:l=(aN R).length)(k:m < 18446744073709551616)(QA:N < 2000)(n:R < 2 ^ 2000)(C:Told 1400 (m*2 ^ (N+1337)) R)
  (g:∀ aB,bK Z aB→aH (q6 1400 (m*2 ^ (N+1337)) R) aB) :
  a4 r0.id #[.int .u64 (m:Int),.int .i64 ((N:Int) - 64),.slice a l c] Z fun v aB=>a0 .i64 v fun L=>aH L aB:=by
 refine cD (c8:=fun v aB=>bK Z aB∧v=.int .i64 (q6 1400 (m*2 ^ (N+1337)) R)) ?_ fun v aB ⟨R,N⟩=>by subst N;exact g aB R
 have x:dN 1400 < 2 ^ 4403:=Nat.lt_of_le_of_lt (show dN 1400≤hW from Nat.div_le_self _ _) (Nat.le_of_ble_eq_true (by kernel_rfl))
 have D:fK R:=jV n (by omega)
 obtain⟨i,QB,o,E⟩:∃ i,i≤7000∧R*dN 1400 < 2 ^ i∧2000 < i:=⟨2000+4403,by omega,Bl n x,by omega⟩
 have y:fK (R*dN 1400+R):=jV (Mu o (Nat.lt_trans n (xO (aD:=2000) E))) (by omega)
 have g7:m*2 ^ (N+1337) < 2 ^ (64+(N+1338)):=Bl (zH k) (xO (by omega))
 have q:fK (m*2 ^ (N+1337)):=jV g7 (by omega)
 obtain⟨F,G,QC,H,I,J⟩:=C
 have Q:=GS Z (p:=1400) (by decide) (by decide)
 unfold q6
 clear g
 generalize dN 1400=P at *
 refine r0.ok ?_
 unfold r0.t r0.aP.t
 refine⟨1,?_⟩
 unfold r0.dG.t r0.bM.t
 refine cD Q fun v a1 ⟨cC,T⟩=>?_
 refine T.elim fun aM aK V=>?_
 refine Mt (r.aU cC) w V rfl D (jV x (by omega)) (jV o (by omega)) fun bO bN QD z s=>?_
 refine vE s.eS rfl ((r.aU cC).aU z) w y fun c9 cZ QE u A=>?_
 refine o6 k fun eI eN QF f Qx=>?_
 refine cT ((N:Int)+1336) (by omega) (by omega) (by omega) ?_
 refine cT ((N+1337:Nat):Int) (by omega) (by omega) (by omega) ?_
 refine yZ rfl Qx.eS rfl (by omega) (pZ k) q fun bE bD QG h j=>?_
 refine Hf j.eS rfl (((s.eS.aU u).aU f).aU h) rfl q (jV o (by omega)) fun bG bI QH d B=>?_
 refine Hf (j.eS.aU d) rfl (((A.eS.aU f).aU h).aU d) rfl q y fun bX bY QI e Qy=>?_
 have c4:(aN (fC (m*2 ^ (N+1337)) (R*P))).length ≠ 0:=fun b=>I (q0.mp b)
 have eF:(aN (fC (m*2 ^ (N+1337)) (R*P+R))).length ≠ 0:=fun b=>J (q0.mp b)
 refine cE (fun _=>?_) fun b=>absurd (by omega) b
 refine cE (fun _=>?_) fun b=>absurd (by omega) b
 refine CU (B.aU e) rfl ?_
 refine CU Qy rfl ?_
 rw [← G]
 refine gL (fun _=>?_) fun b=>absurd rfl b
 refine rP ((j.eS.aU d).aU e) rfl ((((s.eS.aU u).aU f).aU h).aU d |>.aU e) rfl ?_
 refine rP ((j.eS.aU d).aU e) rfl ((((A.eS.aU f).aU h).aU d).aU e) rfl ?_
 have Qz:fU (m*2 ^ (N+1337)) (R*P)=fU (m*2 ^ (N+1337)) (R*P+R):=by
  unfold fU
  rcases F with aG | aG
  ·rw [if_neg (by omega),if_neg (by omega),if_neg (by omega),if_neg (by omega)]
  ·rw [if_pos (by omega),if_pos (by omega)]
 rw [Qz]
 refine gL (fun _=>?_) fun b=>absurd rfl b
 refine cT 1402 (by decide) (by decide) (by decide) ?_
 refine CU (B.aU e) rfl ?_
 have a3:eJ (fC (m*2 ^ (N+1337)) (R*P))≤1471:=iL.mpr (Nat.lt_of_le_of_lt H (xO (aD:=1470) (R:=1471) (by decide)))
 refine cT (1402 - (eJ (fC (m*2 ^ (N+1337)) (R*P)):Int)) rfl (by omega) (by omega) ⟨?_,rfl⟩
 exact(((((cC.trans z).trans u).trans f).trans h).trans d).trans e
end
theorem Dq:∀ K:Nat,K < 54→iQ .u64 1 (K:Int)=((2 ^ K:Nat):Int):=by decide
theorem Dr{N:Nat}(a:N < 1036):e1 N=q2 (N+256):=by
 unfold e1 q2
 rw [show 4400 - (N+256)=Nat.sub 4144 N by show _=4144 - N;omega];rfl
theorem Hk{p:Nat}(a:p≤4400):q2 p < 2 ^ p:=by
 unfold q2
 rw [Nat.div_lt_iff_lt_mul (Nat.pow_pos (by decide)),← Nat.pow_add,show p+(4400 - p)=4400 by omega]
 exact Nat.le_of_ble_eq_true (by kernel_rfl)
theorem Hl{N:Nat}(a:N < 1036):e1 N < 2 ^ 1400:=Nat.lt_trans (by rw [Dr a];exact Hk (p:=N+256) (by omega)) (xO (aD:=N+256) (R:=1400) (by omega))
theorem Bp{f a bW a8:Nat}{up:Bool}{p:Nat × Nat}(b:pG f a bW a8 up=some p)(d:bW≤a8):bW≤p.1∧p.1≤a8:=by
 unfold pG at b
 simp only [l2,zL,Nat.mul_eq,Nat.sub_eq,Nat.succ_eq_add_one,Nat.add_eq] at b
 split at b
 ·rename_i O v b5
  have bH:cond up (hP (a % b4)) (a % b4) < b4:=by
   cases up
   ·exact Nat.mod_lt _ iO
   ·exact rY (Nat.mod_lt _ iO)
  have c:cond up (hP (a % b4*bW % b4)) (a % b4*bW % b4) < b4:=by
   cases up
   ·exact Nat.mod_lt _ iO
   ·exact rY (Nat.mod_lt _ iO)
  have a1:=(zM bH c (by omega) b5).1
  have b:=Option.some.inj b
  subst b
  have e:O < a8 - bW+1:=a1
  exact⟨by show bW≤bW+O;omega,by show bW+O≤a8;omega⟩
 ·cases b
section
variable {Z:U} {K N:Nat}
def Ds(Z:U)(m R L:Nat)(v:Value)(aB:U):Prop:=
 bK Z aB∧∃ a c,v=.tuple #[.agg #[.int .u64 (m:Int),.slice a (aN R).length c,.int .i64 (q6 1400 L R)],.int .i64 0]∧cX dL Z aB a c (aN R)
theorem Dt{a:S}{c m aI:Nat}{up:Bool}{a2 Z:U}{b8:List Value}(g:bK a2 Z)(p:a2.size≤aI)(aQ:eM Z aI b8)(q:b8.length=3)(s:N < 1036)(r:cJ Z a c (aN (e1 N)))(d:m < 18446744073709551616)
  (u:Told 1400 (m*2 ^ (N+1337)) (iP (e1 N) m up)) :
  kY.bM.t (Ds a2 m (iP (e1 N) m up) (m*2 ^ (N+1337))) ((N:Int) - 64) ⟨aI,0,none⟩ a (aN (e1 N)).length c (m:Int) up Z:=by
 have h:e1 N < 2 ^ 1400:=Hl s
 have v:iP (e1 N) m up < 2 ^ 2000:=by
  have a1:=Bl (zH d) h
  have i:m*e1 N / b4≤m*e1 N:=Nat.div_le_self _ _
  obtain⟨b,w,j⟩:∃ b,b < 2000∧m*e1 N / b4+1 < 2 ^ b:=⟨64+1400+1,by decide,G9 (Nat.lt_of_le_of_lt i a1)⟩
  have k:iP (e1 N) m up≤m*e1 N / b4+1:=by unfold iP;cases up <;> simp only [Nat.add_eq,Dp,Nat.mul_eq,cond_true,cond_false] <;> omega
  exact Nat.lt_of_le_of_lt k (Nat.lt_trans j (xO (aD:=b) (R:=2000) w))
 unfold Ds
 unfold kY.bM.t
 refine He r rfl h d fun aM aK a1 cC n=>?_
 refine Mw n.eS rfl d (by omega) v u fun i e=>?_
 have x:=aQ.lt
 generalize iP (e1 N) m up=R at *
 generalize q6 1400 (m*2 ^ (N+1337)) R=D at *
 match b8,q with
 | [E,F,G],_=>
  refine j5 ((aQ.aU cC).aU e) (R:=0) (by simp) fun j y z=>?_
  refine j5 y (R:=1) (by simp) fun k A B=>?_
  refine j5 A (R:=2) (by simp) fun H f C=>?_
  refine qT f (R:=0) (t:=.u64) (L:=(m:Int)) (by simp) ?_
  refine mE f (R:=1) (a:=aM) (l:=(aN R).length) (c:=aK) (by simp) ?_
  refine qT f (R:=2) (t:=.i64) (L:=D) (by simp) ?_
  have o:=(z.trans B).trans C
  exact⟨cG.aU ((g.trans cC).trans e) o p,aM,aK,rfl,((n.aU e).cR x o).from g.le⟩
theorem Hm{f a bW a8 m:Nat}{up:Bool}(Z:r1 f a bW a8=some (m,up)):
  ∃ b L,pG f a bW a8 true=some (b,L)∧((pI a bW a8≤a8∧∃ c aT,pG f a (pI a bW a8) a8 false=some (c,aT)∧((L≤aT∧m=b∧up=true)∨(aT < L∧m=c∧up=false)))∨(¬ pI a bW a8≤a8∧m=b∧up=true)):=by
 unfold r1 at Z
 split at Z
 ·cases Z
 ·rename_i b L a1
  rw [l2,rZ] at Z
  refine⟨b,L,a1,?_⟩
  split at Z
  ·rename_i d
   left
   refine⟨d,?_⟩
   split at Z
   ·cases Z
   ·rename_i c aT e
    refine⟨c,aT,e,?_⟩
    rw [rZ] at Z
    split at Z
    ·have Z:=Option.some.inj Z;cases Z;exact Or.inl ⟨by assumption,rfl,rfl⟩
    ·have Z:=Option.some.inj Z;cases Z;exact Or.inr ⟨by omega,rfl,rfl⟩
  ·right
   have Z:=Option.some.inj Z;cases Z
   exact⟨by assumption,rfl,rfl⟩
theorem tM{K:Nat}(a3:K < 53):1≤2 ^ K∧2 ^ K≤4503599627370496∧2 ^ (K+1)=2 ^ K+2 ^ K:=by
 refine⟨Nat.pow_pos (by decide),?_,by rw [Nat.pow_succ];omega⟩
 exact Nat.le_trans (Nat.pow_le_pow_right (by decide) (show K≤52 by omega)) (by decide)
theorem Hn(Z:U)(a3:K < 53)(h:N < 1036){m:Nat}{up:Bool}(A:r1 80 (e1 N) (2 ^ K) (2 ^ (K+1) - 1)=some (m,up))(n:Told 1400 (m*2 ^ (N+1337)) (iP (e1 N) m up)):
  a4 kY.id #[.int .i64 ((K+1:Nat):Int),.int .i64 ((N:Int) - 64)] Z (Ds Z m (iP (e1 N) m up) (m*2 ^ (N+1337))):=by
 obtain⟨fD,eV,g4⟩:=tM a3
 obtain⟨I,L,a1,o⟩:=Hm A
 have B:=Dr h
 have q:=Hl h
 refine kY.ok ?_
 unfold kY.t kY.aP.t
 refine fJ fun i C D=>?_
 refine cE (fun b=>absurd b (by omega)) fun _=>?_
 refine cE (fun b=>absurd b (by omega)) fun _=>?_
 refine cE (fun b=>absurd b (by omega)) fun _=>?_
 refine cE (fun b=>absurd b (by omega)) fun _=>?_
 unfold kY.a5.t
 have X:a4 vT.id #[.int .i64 ((N:Int) - 64)] i fun v aB=>bK i aB∧fB i aB v (aN (e1 N),0):=by
  refine vT.ok ?_
  unfold vT.t vT.aP.t
  refine cT ((N+256:Nat):Int) (by omega) (by omega) (by omega) ?_
  refine cD (Mc i (by omega) (by omega)) fun v E ⟨j,k⟩=>?_
  rw [← B] at k
  exact k.iM fun a c r O=>⟨j,fB.back (p:=(aN (e1 N),0)) r O⟩
 refine cD X fun v E ⟨j,k⟩=>?_
 refine k.elim fun c9 cZ g=>?_
 refine j8 (fun b=>absurd rfl b) fun _=>?_
 refine cT (K:Int) (by omega) (by omega) (by omega) ?_
 refine⟨by omega,bB.mk ?_⟩
 rw [Dq K (by omega)]
 refine⟨by omega,bB.mk ?_⟩
 rw [Dq (K+1) (by omega)]
 refine dM (2 ^ (K+1) - 1) (by omega) (by omega) ?_
 have l:2 ^ K≤2 ^ (K+1) - 1:=by omega
 have b:2 ^ (K+1) - 1 < 9007199254740992:=by omega
 generalize 2 ^ (K+1) - 1=a8 at *
 generalize 2 ^ K=bW at *
 have x:=Bp a1 l
 refine Hd a1 g rfl q l b fun eI eN J d F=>?_
 refine Ms (g.aU d) rfl q fD l b fun P e=>?_
 have Q:=Bn (L:=e1 N) l
 have s:=((D.trans j).trans d).trans e
 have u:=((C.aU j).aU d).aU e
 rcases o with ⟨w,T,aT,y,o⟩ | ⟨w,rfl,rfl⟩
 ·refine cE (fun _=>?_) fun b=>absurd (by omega) b
  have G:=Bp y w
  refine Hd y ((g.aU d).aU e) rfl q w b fun bG bI V f H=>?_
  refine rP H rfl ((F.aU e).aU f) rfl ?_
  rcases o with ⟨z,rfl,rfl⟩ | ⟨z,rfl,rfl⟩
  ·refine cE (fun b=>absurd (tE.mp b) (by show ¬ aT < L;omega)) fun _=>?_
   exact Dt (s.trans f) (Nat.le_refl _) (u.aU f) rfl h (((g.aU d).aU e).aU f) (by have:m≤a8:=x.2;omega) n
  ·refine cE (fun _=>?_) fun b=>absurd (tE.mpr (show aT < L from z)) b
   exact Dt (s.trans f) (Nat.le_refl _) (u.aU f) rfl h (((g.aU d).aU e).aU f) (by have:m≤a8:=G.2;omega) n
 ·refine cE (fun b=>absurd b (by omega)) fun _=>?_
  exact Dt s (Nat.le_refl _) u rfl h ((g.aU d).aU e) (by have:m≤a8:=x.2;omega) n
end
theorem Du{aT:Nat}(Z:aT < b4):∃ c,aT+hP aT=b4*c:=by
 rw [Bm]
 by_cases a2:aT=0
 ·rw [if_pos a2];exact⟨0,by omega⟩
 ·rw [if_neg a2];exact⟨1,by omega⟩
theorem Dv(a bW O:Nat):((hP (a % b4*bW % b4)+O*hP (a % b4)) % b4+(bW+O)*a) % b4=0:=by
 rw [Nat.mod_add_mod]
 obtain⟨aK,a1⟩:=Du (Nat.mod_lt a iO)
 obtain⟨bN,e⟩:=Du (Nat.mod_lt (a % b4*bW) iO)
 have b:=Nat.div_add_mod a b4
 have f:=Nat.div_add_mod (a % b4*bW) b4
 generalize hP (a % b4*bW % b4)=cY at *
 generalize hP (a % b4)=v at *
 generalize a % b4*bW % b4=aE at *
 generalize a % b4*bW / b4=cQ at *
 generalize bH:a % b4=aG at *
 have N:cY+O*v+(bW+O)*a=b4*(bN+cQ+O*aK+(bW+O)*(a / b4)):=by
  have g:(bW+O)*a=(bW+O)*(b4*(a / b4))+bW*aG+O*aG:=by
   conv=>lhs;rw [← b]
   rw [Nat.mul_add,Nat.add_mul bW O aG];omega
  have h:O*aG+O*v=O*(b4*aK):=by rw [← Nat.mul_add,a1]
  have c:(bW+O)*(b4*(a / b4))=b4*((bW+O)*(a / b4)):=Nat.mul_left_comm _ _ _
  have d:O*(b4*aK)=b4*(O*aK):=Nat.mul_left_comm _ _ _
  have i:aG*bW=bW*aG:=Nat.mul_comm _ _
  rw [Nat.mul_add,Nat.mul_add,Nat.mul_add,← c,← d]
  omega
 rw [N,Nat.mul_mod_right]
theorem Dw(a bW O:Nat):(a % b4*bW % b4+O*(a % b4)) % b4=((bW+O)*a) % b4:=by
 have b:=Nat.div_add_mod a b4
 rw [Nat.mod_add_mod]
 have N:(bW+O)*a=a % b4*bW+O*(a % b4)+b4*((bW+O)*(a / b4)):=by
  have c:(bW+O)*(b4*(a / b4))=b4*((bW+O)*(a / b4)):=Nat.mul_left_comm _ _ _
  have d:a % b4*bW=bW*(a % b4):=Nat.mul_comm _ _
  rw [← c,d,← Nat.add_mul]
  conv=>lhs;rw [← b]
  rw [Nat.mul_add];omega
 rw [N,Nat.add_mul_mod_self_left]
theorem Bq{cI a7 aT R:Nat}(b:a7 < cI)(Z:(a7+aT) % cI=0)(c:aT < R*cI):a7+aT≤R*cI:=by
 have a1:=Nat.div_add_mod (a7+aT) cI
 rw [Z,Nat.add_zero] at a1
 by_cases a:(a7+aT) / cI≤R
 ·have:=Nat.mul_le_mul_left cI a
  rw [Nat.mul_comm cI R] at this;omega
 ·have:=Nat.mul_le_mul_left cI (show R+1≤(a7+aT) / cI by omega)
  rw [Nat.mul_add,Nat.mul_one,Nat.mul_comm cI R] at this;omega
theorem Mx{cI a7 aT:Nat}(a:a7 < cI)(Z:(a7+aT) % cI=0)(d:aT % cI ≠ 0):a7+aT=(aT / cI+1)*cI:=by
 have e:=Nat.div_add_mod aT cI
 have f:=Nat.mod_lt aT (show 0 < cI by omega)
 have g:a7+aT≤(aT / cI+1)*cI:=Bq a Z (by rw [Nat.add_mul,Nat.one_mul,Nat.mul_comm];omega)
 have a1:=Nat.div_add_mod (a7+aT) cI
 rw [Z,Nat.add_zero] at a1
 have b:aT / cI < (a7+aT) / cI:=by
  refine Nat.lt_of_not_le fun c=>?_
  have:=Nat.mul_le_mul_left cI c;omega
 have:=Nat.mul_le_mul_left cI (show aT / cI+1≤(a7+aT) / cI from b)
 rw [Nat.mul_comm cI (aT / cI+1)] at this;omega
theorem Dx{cI aT R:Nat}(a:0 < cI)(Z:R*cI≤aT):R*cI+aT % cI≤aT:=by
 have b:=Nat.div_add_mod aT cI
 have:=Nat.mul_le_mul_left cI ((Nat.le_div_iff_mul_le a).mpr Z)
 rw [Nat.mul_comm cI R] at this;omega
theorem My{f a bW a8 m L:Nat}(b:pG f a bW a8 true=some (m,L))(g:bW≤a8):
  L < b4∧(L+m*a) % b4=0∧∀ dU,bW≤dU→dU≤a8→∀ c1,dU*a < c1*b4→L+dU*a≤c1*b4:=by
 unfold pG at b
 simp only [l2,zL,Nat.mul_eq,Nat.sub_eq,Nat.succ_eq_add_one,Nat.add_eq,cond_true] at b
 split at b
 ·rename_i O v b5
  obtain⟨a1,c,d⟩:=zM (rY (Nat.mod_lt _ iO)) (rY (Nat.mod_lt _ iO)) (by omega) b5
  have b:=Option.some.inj b
  cases b
  simp only at a1 c d
  refine⟨by rw [← c];exact Nat.mod_lt _ iO,by rw [← c];exact Dv a bW O,fun dU h a3 c1 e=>?_⟩
  obtain⟨aD,rfl⟩:∃ aD,dU=bW+aD:=⟨dU - bW,by omega⟩
  have i:=d aD (by omega)
  have j:=Bq (Nat.mod_lt _ iO) (Dv a bW aD) e
  omega
 ·cases b
theorem Mz{f a bW a8 m aT:Nat}(b:pG f a bW a8 false=some (m,aT))(h:bW≤a8):
  aT=(m*a) % b4∧∀ dU,bW≤dU→dU≤a8→∀ c1,c1*b4≤dU*a→c1*b4+aT≤dU*a:=by
 unfold pG at b
 simp only [l2,zL,Nat.mul_eq,Nat.sub_eq,Nat.succ_eq_add_one,Nat.add_eq,cond_false] at b
 split at b
 ·rename_i O v b5
  obtain⟨a1,c,d⟩:=zM (Nat.mod_lt _ iO) (Nat.mod_lt _ iO) (by omega) b5
  have b:=Option.some.inj b
  cases b
  simp only at a1 c d
  refine⟨by rw [← c];exact Dw a bW O,fun dU i a3 c1 e=>?_⟩
  obtain⟨aD,rfl⟩:∃ aD,dU=bW+aD:=⟨dU - bW,by omega⟩
  have g:=d aD (by omega)
  rw [Dw] at g
  have j:=Dx iO e
  omega
 ·cases b
def r2(a c8:Nat):Prop:=∀ aD aH,0 < aD→aD < 18014398509481984→(aD*a < aH*b4→aD*a+c8≤aH*b4)∧(aH*b4≤aD*a→aH*b4+c8≤aD*a)
theorem Ho{aG:Nat}(bH:aG < b4)(Z:xQ aG=true):∀ aD,0 < aD→aD < 18014398509481984→2 ^ 150≤(aD*aG) % b4:=by
 unfold xQ at Z
 split at Z
 ·cases Z
 ·rename_i O v b5
  obtain⟨_,_,b⟩:=zM bH bH (by decide) b5
  have c:2 ^ 150≤v:=Nat.le_of_ble_eq_true Z
  intro aD a2 a1
  have a:=b (aD - 1) (by omega)
  have N:aG+(aD - 1)*aG=aD*aG:=by
   conv=>rhs;rw [show aD=aD - 1+1 by omega]
   rw [Nat.add_mul,Nat.one_mul];omega
  rw [N] at a
  exact Nat.le_trans c a
theorem MA{a:Nat}(a1:xQ (a % b4)=true)(g:xQ (hP (a % b4))=true):r2 a (2 ^ 150):=by
 intro aD aH d e
 have h:=Ho (Nat.mod_lt a iO) a1 aD d e
 have l:=Ho (rY (Nat.mod_lt a iO)) g aD d e
 have f:(aD*(a % b4)) % b4=(aD*a) % b4:=Nat.mul_mod_mod aD a b4
 rw [f] at h
 obtain⟨c,i⟩:=Du (Nat.mod_lt a iO)
 have j:((aD*hP (a % b4)) % b4+aD*a) % b4=0:=by
  rw [Nat.mod_add_mod,Nat.add_mod,← f,← Nat.add_mod,← Nat.mul_add,Nat.add_comm,i,Nat.mul_left_comm,Nat.mul_mod_right]
 have k:=Nat.mod_lt (aD*hP (a % b4)) iO
 generalize 2 ^ 150=c8 at *
 refine⟨fun b=>?_,fun b=>?_⟩
 ·have:=Bq k j b;omega
 ·have:=Dx iO b;omega
structure tN(a bW a8 m R aZ:Nat):Prop where
 pH:bW≤m
 oQ:m≤a8
 cC:1≤R
 eq:aZ+m*a=R*b4∨R*b4+aZ=m*a
 le:∀ dU c1,bW≤dU→dU≤a8→1≤c1→(dU*a < c1*b4→aZ+dU*a≤c1*b4)∧(c1*b4≤dU*a→c1*b4+aZ≤dU*a)
theorem xR(a m:Nat):iP a m true=m*a / b4+1:=rfl
theorem Hp(a m:Nat):iP a m false=m*a / b4:=rfl
theorem MB{f a bW a8 m c8:Nat}{up:Bool}(v:r1 f a bW a8=some (m,up))(j:bW≤a8)(D:1≤bW)(E:a8 < 9007199254740992)(F:0 < c8)(sep:r2 a c8):
  ∃ aZ,tN a bW a8 m (iP a m up) aZ∧(up=true→aZ+m*a=iP a m up*b4)∧(up=false→iP a m up*b4+aZ=m*a):=by
 obtain⟨e,L,a1,k⟩:=Hm v
 have o:=Bp a1 j
 obtain⟨eL,w,l⟩:=My a1 j
 have g:=Bn (L:=a) j
 have p:bW≤e:=o.1
 have q:e≤a8:=o.2
 have x:(e*a) % b4 ≠ 0:=by
  intro G
  have n:=Nat.div_add_mod (e*a) b4
  have:=(sep e (e*a / b4) (by omega) (by omega)).2 (by rw [Nat.mul_comm];omega)
  rw [Nat.mul_comm] at this;omega
 have h:=Mx eL w x
 rcases k with ⟨i,r,aT,n,k⟩ | ⟨i,rfl,rfl⟩
 ·have s:=Bp n i
  have y:pI a bW a8≤r:=s.1
  have z:r≤a8:=s.2
  obtain⟨A,B⟩:=Mz n i
  have t:∀ dU c1,bW≤dU→dU≤a8→1≤c1→c1*b4≤dU*a→c1*b4+aT≤dU*a:=by
   intro dU c1 c a3 d b
   refine B dU (Nat.le_of_not_lt fun dC=>?_) a3 c1 b
   have:=g.under dU c dC
   have:=Nat.mul_le_mul_right b4 d;omega
  rcases k with ⟨C,rfl,rfl⟩ | ⟨C,rfl,rfl⟩
  ·refine⟨L,⟨p,q,by rw [xR];exact Nat.le_add_left 1 _,Or.inl (by rw [xR];exact h),fun dU c1 c a3 d=>⟨fun b=>l dU c a3 c1 b,fun b=>?_⟩⟩,fun _=>by rw [xR];exact h,fun b=>(by cases b)⟩
   have:=t dU c1 c a3 d b;omega
  ·have d:1≤iP a m false:=by
    rw [Hp]
    have:=g.zN i
    have:=Nat.mul_le_mul_right a y
    exact Nat.div_pos (by omega) iO
   have u:iP a m false*b4+aT=m*a:=by
    rw [Hp,A,Nat.mul_comm];exact Nat.div_add_mod _ _
   refine⟨aT,⟨by have:=g.pH;omega,z,d,Or.inr u,fun dU c1 c a3 d=>⟨fun b=>?_,fun b=>t dU c1 c a3 d b⟩⟩,fun b=>(by cases b),fun _=>u⟩
   have:=l dU c a3 c1 b;omega
 ·refine⟨L,⟨p,q,by rw [xR];exact Nat.le_add_left 1 _,Or.inl (by rw [xR];exact h),fun dU c1 c a3 d=>⟨fun b=>l dU c a3 c1 b,fun b=>?_⟩⟩,fun _=>by rw [xR];exact h,fun b=>(by cases b)⟩
  have:=g.under dU c (by have:=g.oQ;omega)
  have:=Nat.mul_le_mul_right b4 d;omega
theorem tN.tO{a bW a8 m R aZ c8:Nat}(K:tN a bW a8 m R aZ)(n:1≤bW)(o:a8 < 9007199254740992)(p:0 < c8)(sep:r2 a c8){dU c1:Nat}(h:bW≤dU)(a3:dU≤a8)(i:1≤c1)(j:dU ≠ m):
  (dU*a < c1*b4→aZ+c8+dU*a≤c1*b4)∧(c1*b4≤dU*a→c1*b4+(aZ+c8)≤dU*a):=by
 have a1:=K.le dU c1 h a3 i
 have aL:=K.pH
 have b3:=K.oQ
 have key:∀ (aT bS:Nat),(aT=dU*a∧bS=c1*b4∨bS=dU*a∧aT=c1*b4)→aZ+aT≤bS→aZ+c8+aT≤bS:=by
  intro aT bS g q
  refine Nat.le_of_not_lt fun dC=>?_
  have k:=sep (m+dU) (R+c1) (by omega) (by omega)
  rw [Nat.add_mul,Nat.add_mul] at k
  rcases Nat.lt_or_gt_of_ne j with l | l
  ·have c:(m - dU)*a=m*a - dU*a:=Nat.sub_mul _ _ _
   have l1:dU*a≤m*a:=Nat.mul_le_mul_right a (by omega)
   have d:=sep (m - dU) (R - c1) (by omega) (by omega)
   have dV:=(sep (m - dU) 0 (by omega) (by omega)).2 (by omega)
   rw [Nat.zero_mul,Nat.zero_add] at dV
   have e:(R - c1)*b4=R*b4 - c1*b4:=Nat.sub_mul _ _ _
   rw [c,e] at d
   rw [c] at dV
   have lE:R≤c1→R*b4≤c1*b4:=fun Z=>Nat.mul_le_mul_right b4 Z
   have kM:c1≤R→c1*b4≤R*b4:=fun Z=>Nat.mul_le_mul_right b4 Z
   rcases K.eq with N | N <;> rcases g with ⟨rfl,rfl⟩ | ⟨rfl,rfl⟩ <;> rcases Nat.le_total R c1 with b | b <;> (first | have:=lE b | have:=kM b) <;> omega
  ·have c:(dU - m)*a=dU*a - m*a:=Nat.sub_mul _ _ _
   have l1:m*a≤dU*a:=Nat.mul_le_mul_right a (by omega)
   have d:=sep (dU - m) (c1 - R) (by omega) (by omega)
   have dV:=(sep (dU - m) 0 (by omega) (by omega)).2 (by omega)
   rw [Nat.zero_mul,Nat.zero_add] at dV
   have e:(c1 - R)*b4=c1*b4 - R*b4:=Nat.sub_mul _ _ _
   rw [c,e] at d
   rw [c] at dV
   have lE:R≤c1→R*b4≤c1*b4:=fun Z=>Nat.mul_le_mul_right b4 Z
   have kM:c1≤R→c1*b4≤R*b4:=fun Z=>Nat.mul_le_mul_right b4 Z
   rcases K.eq with N | N <;> rcases g with ⟨rfl,rfl⟩ | ⟨rfl,rfl⟩ <;> rcases Nat.le_total R c1 with b | b <;> (first | have:=lE b | have:=kM b) <;> omega
 refine⟨fun f=>key _ _ (Or.inl ⟨rfl,rfl⟩) (a1.1 f),fun f=>?_⟩
 have:=key (c1*b4) (dU*a) (Or.inr ⟨rfl,rfl⟩) (by have:=a1.2 f;omega)
 omega
theorem tN.half{a bW a8 m R aZ c8:Nat}(K:tN a bW a8 m R aZ)(g:1≤bW)(h:a8 < 9007199254740992)(i:0 < c8)(sep:r2 a c8)(c:2≤R∨R*b4+aZ=m*a):aZ+aZ+c8≤b4:=by
 have aL:=K.pH
 have b3:=K.oQ
 have j:=iO
 have two:=sep (2*m)
 rcases K.eq with N | N
 ·
  rcases c with c | c
  ·have d:(R - 1)*b4=R*b4 - b4:=by rw [Nat.sub_mul,Nat.one_mul]
   have l1:b4≤R*b4:=Nat.le_mul_of_pos_left b4 (by omega)
   have a1:=(K.le m (R - 1) aL b3 (by omega))
   rw [d] at a1
   have e:(2*R - 1)*b4=2*(R*b4) - b4:=by rw [Nat.sub_mul,Nat.one_mul,Nat.mul_assoc]
   have f:2*m*a=2*(m*a):=Nat.mul_assoc _ _ _
   have b:=two (2*R - 1) (by omega) (by omega)
   rw [e,f] at b
   omega
  ·have b:=two (2*R) (by omega) (by omega)
   rw [Nat.mul_assoc,Nat.mul_assoc] at b
   omega
 ·have a1:=(K.le m (R+1) aL b3 (by omega))
  have d:(R+1)*b4=R*b4+b4:=by rw [Nat.add_mul,Nat.one_mul]
  rw [d] at a1
  have e:(2*R+1)*b4=2*(R*b4)+b4:=by rw [Nat.add_mul,Nat.one_mul,Nat.mul_assoc]
  have f:2*m*a=2*(m*a):=Nat.mul_assoc _ _ _
  have b:=two (2*R+1) (by omega) (by omega)
  rw [e,f] at b
  omega
structure xS(a P T:Nat):Prop where
 le:a*P≤T
 lt:T < (a+1)*(P+1)
 ap:a+1≤P
theorem xS.rest{a P T:Nat}(aG:xS a P T):∃ r,T=a*P+r∧r≤2*P:=by
 have a1:=aG.le;have b:=aG.lt;have c:=aG.ap
 refine⟨T - a*P,by omega,?_⟩
 rw [Nat.add_mul,Nat.mul_add,Nat.mul_one,Nat.one_mul] at b;omega
theorem Dy{cI a P T m R D L r:Nat}(b:T=a*P+r)(c:cI*L=m*T)(d:0 < cI)(Z:R*cI+D=m*a):R*P≤L∧cI*fC L (R*P)=D*P+m*r:=by
 have f:cI*L=cI*(R*P)+(D*P+m*r):=by
  rw [c,b,Nat.mul_add,← Nat.mul_assoc,← Z,Nat.add_mul,Nat.mul_assoc,Nat.mul_left_comm];omega
 have a1:R*P≤L:=Nat.le_of_mul_le_mul_left (by omega) d
 have e:fC L (R*P)=L - R*P:=if_neg (by omega)
 refine⟨a1,?_⟩
 rw [e,Nat.mul_sub];omega
theorem Br{cI a P T m R D L r:Nat}(b:T=a*P+r)(c:cI*L=m*T)(d:0 < cI)(Z:D+m*a=R*cI)(g:m*r≤D*P):L≤R*P∧cI*fC L (R*P)+m*r=D*P:=by
 have h:cI*L+D*P=cI*(R*P)+m*r:=by
  have e:cI*(R*P)=D*P+m*a*P:=by rw [← Nat.mul_assoc,Nat.mul_comm cI R,← Z,Nat.add_mul]
  rw [c,b,Nat.mul_add,e,← Nat.mul_assoc];omega
 have a1:L≤R*P:=Nat.le_of_mul_le_mul_left (by omega) d
 have f:fC L (R*P)=R*P - L:=by unfold fC;split <;> omega
 refine⟨a1,?_⟩
 rw [f,Nat.mul_sub];omega
theorem MC{a bW a8 m R aZ c8 P T G:Nat}(K:tN a bW a8 m R aZ)(i:1≤bW)(j:a8 < 9007199254740992)(k:18014398509481984≤c8)(sep:r2 a c8)(l:xS a P T)(w:b4*G+36028797018963968*P≤c8*P)
  {L dU c1 c:Nat} (g:b4*L=m*T) (h:b4*c=dU*T) (o:bW≤dU) (a3:dU≤a8) (p:1≤c1) (q:dU ≠ m):fC L (R*P)+G≤fC c (c1*P):=by
 obtain⟨r,d,s⟩:=l.rest
 have b:=iO
 have b3:=K.oQ
 have e:∀ n,n≤a8→n*r≤18014398509481984*P:=fun n x=>by
  have a1:=Nat.mul_le_mul (show n≤9007199254740992 by omega) s
  omega
 have tO:=K.tO i j (by omega) sep o a3 p q
 have y:c8*P≤aZ*P+c8*P:=Nat.le_add_left _ _
 have z:(aZ+c8)*P=aZ*P+c8*P:=Nat.add_mul _ _ _
 have A:18014398509481984*P≤c8*P:=Nat.mul_le_mul_right P k
 have a1:b4*fC L (R*P)≤aZ*P+18014398509481984*P:=by
  rcases K.eq with N | N
  ·have t:c8≤aZ:=by
    have:=(sep m R (by have:=K.pH;omega) (by omega)).1
    have:=(sep m R (by have:=K.pH;omega) (by omega)).2
    omega
   have B:c8*P≤aZ*P:=Nat.mul_le_mul_right P t
   have:=(Br d g b N (by have:=e m b3;omega)).2;omega
  ·have:=(Dy d g b N).2
   have:=e m b3;omega
 have C:aZ*P+c8*P≤b4*fC c (c1*P)+18014398509481984*P:=by
  have:=e dU a3
  by_cases u:dU*a < c1*b4
  ·obtain⟨D,f⟩:∃ D,D+dU*a=c1*b4:=⟨c1*b4 - dU*a,by omega⟩
   have aW:aZ+c8≤D:=by have:=tO.1 u;omega
   have v:(aZ+c8)*P≤D*P:=Nat.mul_le_mul_right P aW
   have:=(Br d h b f (by omega)).2;omega
  ·obtain⟨D,f⟩:∃ D,c1*b4+D=dU*a:=⟨dU*a - c1*b4,by omega⟩
   have aW:aZ+c8≤D:=by have:=tO.2 (by omega);omega
   have v:(aZ+c8)*P≤D*P:=Nat.mul_le_mul_right P aW
   have:=(Dy d h b f).2;omega
 refine Nat.le_of_mul_le_mul_left (show b4*(fC L (R*P)+G)≤b4*fC c (c1*P) from ?_) b
 rw [Nat.mul_add];omega
theorem MD{a7 P R:Nat}(d:0 < P)(Z:2*fC a7 (R*P) < P):iB a7 P=R:=by
 unfold fC at Z
 unfold iB
 by_cases a:a7 < R*P
 ·rw [if_pos a] at Z
  obtain⟨aD,rfl⟩:∃ aD,R=aD+1:=⟨R - 1,by
   have:R ≠ 0:=fun N=>by rw [N,Nat.zero_mul] at a;omega
   omega⟩
  rw [Nat.add_mul,Nat.one_mul] at Z a
  have N:a7=(a7 - aD*P)+aD*P:=by omega
  have b:a7 / P=aD:=by rw [N,Nat.add_mul_div_right _ _ d,Nat.div_eq_of_lt (show a7 - aD*P < P by omega),Nat.zero_add]
  have c:a7 % P=a7 - aD*P:=by rw [N,Nat.add_mul_mod_self_right,Nat.mod_eq_of_lt (show a7 - aD*P < P by omega)];omega
  rw [if_pos (by left;rw [c];omega),b]
 ·rw [if_neg a] at Z
  have N:a7=(a7 - R*P)+R*P:=by omega
  have b:a7 / P=R:=by rw [N,Nat.add_mul_div_right _ _ d,Nat.div_eq_of_lt (show a7 - R*P < P by omega),Nat.zero_add]
  have c:a7 % P=a7 - R*P:=by rw [N,Nat.add_mul_mod_self_right,Nat.mod_eq_of_lt (show a7 - R*P < P by omega)];omega
  rw [if_neg (by rw [c];omega),b]
theorem Hq(a7 P:Nat):iB a7 P≤a7 / P+1:=by unfold iB;split <;> omega
theorem ME{a bW a8 m R aZ c8 P T:Nat}(K:tN a bW a8 m R aZ)(j:1≤bW)(k:a8 < 9007199254740992)(l:36028797018963969≤c8)(sep:r2 a c8)(h:xS a P T)
  {L:Nat} (d:b4*L=m*T):max 1 (iB L P)=R:=by
 obtain⟨r,e,n⟩:=h.rest
 have f:=iO
 have b3:=K.oQ
 have aL:=K.pH
 have o:0 < P:=by have:=h.ap;omega
 have u:m*r≤18014398509481984*P:=by
  have a1:=Nat.mul_le_mul (show m≤9007199254740992 by omega) n
  omega
 have v:36028797018963969*P≤c8*P:=Nat.mul_le_mul_right P l
 have cC:=K.cC
 have i:aZ+m*a=R*b4→c8≤aZ:=fun N=>by
  have:=(sep m R (by omega) (by omega)).1
  have:=(sep m R (by omega) (by omega)).2
  omega
 by_cases g:2≤R∨R*b4+aZ=m*a
 ·have b:=K.half j k (by omega) sep g
  have p:(aZ+aZ+c8)*P≤b4*P:=Nat.mul_le_mul_right P b
  rw [Nat.add_mul,Nat.add_mul] at p
  have a1:b4*fC L (R*P)≤aZ*P+18014398509481984*P:=by
   rcases K.eq with N | N
   ·have q:c8*P≤aZ*P:=Nat.mul_le_mul_right P (i N)
    have:=(Br e d f N (by omega)).2;omega
   ·have:=(Dy e d f N).2;omega
  have c:2*fC L (R*P) < P:=by
   refine Nat.lt_of_mul_lt_mul_left (show b4*(2*fC L (R*P)) < b4*P from ?_)
   rw [Nat.mul_left_comm];omega
  rw [MD o c];omega
 ·have N:aZ+m*a=R*b4:=K.eq.resolve_right fun b=>g (Or.inr b)
  have s:R=1:=by
   have:¬ 2≤R:=fun b=>g (Or.inl b)
   omega
  subst s
  have q:c8*P≤aZ*P:=Nat.mul_le_mul_right P (i N)
  obtain⟨a1,c⟩:=Br e d f N (by omega)
  rw [Nat.one_mul] at a1 c
  have w:L ≠ P:=by
   intro t
   rw [t] at c
   have:fC P P=0:=by unfold fC;split <;> omega
   rw [this,Nat.mul_zero] at c;omega
  have aW:L / P=0:=Nat.div_eq_of_lt (by omega)
  have:=Hq L P
  omega
def Bs(O aD:Int):Int:=IntKind.u64.wrap (IntKind.u64.wrap (11944390636716687360+iQ .u64 (IntKind.u64.wrap (IntKind.i64.wrap (O+1))) 24)+IntKind.u64.wrap aD)
def lP(O aD:Int):Nat:=(Bs O aD).toNat
theorem Dz(O aD:Int):lP O aD < 18446744073709551616:=by
 have:=u2.mp (Fe .u64 (IntKind.u64.wrap (11944390636716687360+iQ .u64 (IntKind.u64.wrap (IntKind.i64.wrap (O+1))) 24)+IntKind.u64.wrap aD))
 unfold lP Bs;omega
theorem MF(O aD:Int):Bs O aD=((lP O aD:Nat):Int):=by
 have:=u2.mp (Fe .u64 (IntKind.u64.wrap (11944390636716687360+iQ .u64 (IntKind.u64.wrap (IntKind.i64.wrap (O+1))) 24)+IntKind.u64.wrap aD))
 unfold lP Bs;omega
theorem MG(O aD:Int)(Z:U):a4 pJ.id #[.int .i64 O,.int .i64 aD] Z fun v aB=>v=.int .u64 ((lP O aD:Nat):Int)∧aB=Z:=by
 refine pJ.ok ?_
 unfold pJ.t pJ.aP.t
 refine⟨⟨by decide,⟨⟨⟨⟨?_,rfl⟩⟩⟩⟩⟩⟩
 rw [← MF];rfl
theorem zP(O aD:Int){Z:U}{aH:Int→Prop}(g:aH ((lP O aD:Nat):Int)):h9 pJ.id #[.int .i64 O,.int .i64 aD] Z fun v=>a0 .u64 v aH:=
 ⟨_,MG O aD Z,b0 rfl g⟩
def gU(O:Nat):Nat→Nat→List Nat
 | _,0=>[]
 | R,n+1=>lP (O:Int) (R:Int) :: gU O (R+1) n
theorem j7(O:Nat):∀ R n,(gU O R n).length=n
 | _,0=>rfl
 | R,n+1=>by simp [gU,j7 O (R+1) n]
theorem DA(O:Nat):∀ R n,∀ L ∈ gU O R n,dL.ok L
 | _,0=>by simp [gU]
 | R,n+1=>by
  intro L a
  rcases List.mem_cons.mp a with N | N
  ·subst N;exact Dz _ _
  ·exact DA O (R+1) n L N
theorem Bt(O:Nat):∀ R n m,gU O R (n+m)=gU O R n ++ gU O (R+n) m
 | R,0,m=>by simp [gU]
 | R,n+1,m=>by
  rw [show n+1+m=(n+m)+1 by omega]
  simp only [gU,List.cons_append]
  rw [Bt O (R+1) n m,show R+1+n=R+(n+1) by omega]
theorem Bu(O:Nat):∀ R n aD,aD < n→(gU O R n)[aD]?=some (lP (O:Int) ((R+aD:Nat):Int))
 | R,0,aD,Z=>absurd Z (by omega)
 | R,n+1,0,_=>by simp [gU]
 | R,n+1,aD+1,Z=>by
  simp only [gU,List.getElem?_cons_succ]
  rw [Bu O (R+1) n aD (by omega),show R+1+aD=R+(aD+1) by omega]
theorem Hr{O R n aD:Nat}(Z:aD < n):(gU O R n).getD aD 0=lP (O:Int) ((R+aD:Nat):Int):=by simp [List.getD,Bu O R n aD Z]
theorem MH{O n aD:Nat}:(gU O 0 n).set aD (lP (O:Int) (aD:Int))=gU O 0 n:=by
 refine List.ext_getElem? fun p=>?_
 by_cases N:aD=p
 ·subst N
  by_cases Z:aD < n
  ·rw [List.getElem?_set_self (by rw [j7];exact Z),Bu O 0 n aD Z,Nat.zero_add]
  ·rw [List.set_eq_of_length_le (by rw [j7];omega)]
 ·rw [List.getElem?_set_ne N]
abbrev hA:=Nat→Option (Nat × Nat × Nat)
def tP(bA:hA)(K:Nat)(L:Nat × Nat × Nat):hA:=fun c=>if c=K then some L else bA c
theorem xT(bA:hA)(K:Nat)(L:Nat × Nat × Nat):tP bA K L K=some L:=by simp [tP]
theorem xU{bA:hA}{K c:Nat}{L:Nat × Nat × Nat}(Z:c ≠ K):tP bA K L c=bA c:=by simp [tP,Z]
structure iH(c0 Z:U)(bA:hA):Prop where
 at_:∀ K O bP m,bA K=some (O,bP,m)→c0.size≤K∧∃ rest,dZ dL Z K (gU O 0 bP ++ rest)∧bP+rest.length=m
theorem iH.lt{c0 Z:U}{bA:hA}(cI:iH c0 Z bA){K:Nat}{L:Nat × Nat × Nat}(N:bA K=some L):K < Z.size:=by
 obtain⟨O,bP,m⟩:=L
 obtain⟨_,rest,aQ,_⟩:=cI.at_ K O bP m N
 exact aQ.lt
theorem iH.ge{c0 Z:U}{bA:hA}(cI:iH c0 Z bA){K:Nat}(a3:Z.size≤K):bA K=none:=by
 cases N:bA K with
 | none=>rfl
 | some L=>have:=cI.lt N;omega
theorem iH.oW{c0 Z:U}{bA:hA}(cI:iH c0 Z bA){K:Nat}(a3:K < c0.size):bA K=none:=by
 cases N:bA K with
 | none=>rfl
 | some L=>obtain⟨O,bP,m⟩:=L;have:=(cI.at_ K O bP m N).1;omega
theorem iH.aU{c0 Z aB:U}{bA:hA}(cI:iH c0 Z bA)(R:bK Z aB):iH c0 aB bA:=
 ⟨fun K O bP m N=>let ⟨a1,rest,aQ,a⟩:=cI.at_ K O bP m N;⟨a1,rest,aQ.aU R,a⟩⟩
theorem iH.Ct{c0 Z aB:U}{bA:hA}{a:S}(cI:iH c0 Z bA)(R:nI a Z aB)(b:∀ p,a=some p→bA p.block=none):iH c0 aB bA:=
 ⟨fun K O bP m N=>let ⟨a1,rest,aQ,c⟩:=cI.at_ K O bP m N;⟨a1,rest,aQ.Ct R (fun p d e=>(by rw [← e,b p d] at N;cases N)),c⟩⟩
structure jX(bA:hA)(Z:U)(hX:hA)(aB:U):Prop where
 le:∀ K O bP m,bA K=some (O,bP,m)→∃ gQ,bP≤gQ∧hX K=some (O,gQ,m)
 size:Z.size≤aB.size
 off:∀ K,K < Z.size→bA K=none→hX K=none∧aB[K]?=Z[K]?
theorem jX.refl(bA:hA)(Z:U):jX bA Z bA Z:=⟨fun _ _ bP _ N=>⟨bP,Nat.le_refl _,N⟩,Nat.le_refl _,fun _ _ N=>⟨N,rfl⟩⟩
theorem jX.trans{bA hX c:hA}{Z aB d:U}(L:jX bA Z hX aB)(aT:jX hX aB c d):jX bA Z c d:=by
 refine⟨fun K O bP m N=>?_,Nat.le_trans L.size aT.size,fun K a3 N=>?_⟩
 ·obtain⟨e,a1,a⟩:=L.le K O bP m N
  obtain⟨b1,f,b⟩:=aT.le K O e m a
  exact⟨b1,Nat.le_trans a1 f,b⟩
 ·obtain⟨a,b⟩:=L.off K a3 N
  obtain⟨g,h⟩:=aT.off K (Nat.lt_of_lt_of_le a3 L.size) a
  exact⟨g,h.trans b⟩
theorem jX.aU(bA:hA){Z aB:U}(R:bK Z aB):jX bA Z bA aB:=⟨fun _ _ bP _ N=>⟨bP,Nat.le_refl _,N⟩,R.le,fun K a3 N=>⟨N,R.pre K a3⟩⟩
def jR(bA:hA)(O aD:Nat)(aG:fA):Prop:=aG.2.1≤aG.2.2∧aG.2.1≤17592186044416∧((aG.1=none∧aG.2.2=0)∨∃ K bP m,aG.1=some ⟨K,0,none⟩∧bA K=some (O,bP,m)∧aD≤bP∧aG.2.2≤m)
theorem jR.step{bA hX:hA}{Z aB:U}{O aD:Nat}{aG:fA}(c8:jR bA O aD aG)(a:jX bA Z hX aB):jR hX O aD aG:=by
 obtain⟨a1,b,c⟩:=c8
 refine⟨a1,b,c.imp id ?_⟩
 rintro⟨K,bP,m,d,e,f,g⟩
 obtain⟨gQ,h,N⟩:=a.le K O bP m e
 exact⟨K,gQ,m,d,N,Nat.le_trans f h,g⟩
theorem jR.MI{bA:hA}{O aD:Nat}{aG:fA}(c8:jR bA O aD aG):jR bA O 0 aG:=by
 obtain⟨a1,a,b⟩:=c8
 refine⟨a1,a,b.imp id ?_⟩
 rintro⟨K,bP,m,c,d,f,e⟩
 exact⟨K,bP,m,c,d,Nat.zero_le _,e⟩
theorem MJ{O bP n:Nat}(Z:n≤bP)(rest:List Nat):gU O 0 bP ++ rest=gU O 0 n ++ (gU O n (bP - n) ++ rest):=by
 have N:=Bt O 0 n (bP - n)
 rw [show n+(bP - n)=bP by omega,Nat.zero_add] at N
 rw [N,List.append_assoc]
theorem jR.rd{c0 Z:U}{bA:hA}{O:Nat}{aG:fA}(cI:iH c0 Z bA)(c8:jR bA O aG.2.1 aG):cL dL Z aG.1 aG.2.2 (gU O 0 aG.2.1):=by
 obtain⟨a1,c,d⟩:=c8
 rcases d with ⟨a,b⟩ | ⟨K,bP,m,a,b,e,f⟩
 ·have:aG.2.1=0:=by omega
  rw [this];exact cL.nil _ _ _
 ·obtain⟨_,rest,aQ,_⟩:=cI.at_ K O bP m b
  rw [MJ e] at aQ
  rw [a]
  exact aQ.rd (by rw [j7];exact Nat.le_trans c (by decide)) (by rw [j7];exact a1)
theorem iH.put{c0 Z:U}{bA:hA}(cI:iH c0 Z bA){K O bP m aD:Nat}(N:bA K=some (O,bP,m))(k:aD≤bP)(l:aD < m):
  iH c0 (gO Z ⟨K,aD,none⟩ (hR (lP (O:Int) (aD:Int)))) (tP bA K (O,max bP (aD+1),m))∧jX bA Z (tP bA K (O,max bP (aD+1),m)) (gO Z ⟨K,aD,none⟩ (hR (lP (O:Int) (aD:Int)))):=by
 constructor
 ·refine⟨fun c e gQ dU a=>?_⟩
  by_cases b:c=K
  ·subst b
   rw [xT] at a
   simp only [Option.some.injEq,Prod.mk.injEq] at a
   obtain⟨rfl,rfl,rfl⟩:=a
   obtain⟨a1,rest,aQ,d⟩:=cI.at_ c O bP m N
   refine⟨a1,?_⟩
   have fO:=aQ.set aD (v:=lP (O:Int) (aD:Int)) (Dz _ _)
   by_cases g:aD < bP
   ·rw [List.set_append_left _ _ (by rw [j7];exact g),MH] at fO
    rw [show max bP (aD+1)=bP by omega]
    exact⟨rest,fO,d⟩
   ·have h:aD=bP:=by omega
    subst h
    rw [List.set_append_right _ _ (by rw [j7];exact Nat.le_refl _),j7,Nat.sub_self] at fO
    cases rest with
    | nil=>simp at d;omega
    | cons r dH=>
     rw [show max aD (aD+1)=aD+1 by omega]
     refine⟨dH,?_,by simp at d;omega⟩
     have i:gU O 0 (aD+1) ++ dH=gU O 0 aD ++ (lP (O:Int) (aD:Int) :: dH):=by
      rw [Bt O 0 aD 1,Nat.zero_add];simp [gU]
     rw [i];exact fO
  ·rw [xU b] at a
   obtain⟨a1,rest,aQ,d⟩:=cI.at_ c e gQ dU a
   exact⟨a1,rest,aQ.cR b (cG.set _ _ _ _),d⟩
 ·refine⟨fun c e gQ dU a=>?_,by rw [Cj];exact Nat.le_refl _,fun c b a=>?_⟩
  ·by_cases b:c=K
   ·subst b
    rw [N] at a
    simp only [Option.some.injEq,Prod.mk.injEq] at a
    obtain⟨rfl,rfl,rfl⟩:=a
    exact⟨_,Nat.le_max_left _ _,xT _ _ _⟩
   ·exact⟨gQ,Nat.le_refl _,by rw [xU b];exact a⟩
  ·have f:c ≠ K:=fun j=>by subst j;rw [N] at a;cases a
   exact⟨by rw [xU f];exact a,Ck f⟩
theorem iH.cell{c0 Z:U}{bA:hA}(cI:iH c0 Z bA){K O bP m aD:Nat}(N:bA K=some (O,bP,m))(b:aD < m):(∃ aQ,hB Z ⟨K,aD,none⟩=some aQ)∧mS Z ⟨K,aD,none⟩=false:=by
 obtain⟨_,rest,aQ,c⟩:=cI.at_ K O bP m N
 have a:aD < (gU O 0 bP ++ rest).length:=by rw [List.length_append,j7];omega
 exact⟨⟨_,aQ.cell (List.getElem?_eq_getElem a)⟩,aQ.frozen aD⟩
theorem MK{c0 Z:U}{bA:hA}{O aD:Nat}{aG:fA}(cI:iH c0 Z bA)(c8:jR bA O aD aG)(l:aD < aG.2.1){aH:U→Prop}
  (g:∀ aB hX,iH c0 aB hX→jX bA Z hX aB→jR hX O (aD+1) aG→aH aB):c6 aG.1 aG.2.1 (aD:Int) 1 fun aI=>cM Z aI (.int .u64 ((lP (O:Int) (aD:Int):Nat):Int)) aH:=by
 obtain⟨a1,c,d⟩:=c8
 rcases d with ⟨a,b⟩ | ⟨K,bP,m,a,b,e,f⟩
 ·omega
 ·obtain⟨h,i⟩:=cI.put b e (by omega)
  have j:jR (tP bA K (O,max bP (aD+1),m)) O (aD+1) aG:=⟨a1,c,Or.inr ⟨K,_,m,a,xT _ _ _,by omega,f⟩⟩
  have k:=g _ _ h i j
  refine⟨⟨by omega,by omega⟩,?_⟩
  rw [a]
  show cM Z ((⟨K,0,none⟩:Addr).add ((aD:Int).toNat*1)) _ _
  rw [show(aD:Int).toNat*1=aD by omega,cB]
  exact⟨cI.cell b (by omega),k⟩
theorem iH.Hs{c0:U}{K O n m:Nat}:∀ (R a:Nat) {Z:U} {bA:hA} {bP:Nat},iH c0 Z bA→bA K=some (O,bP,m)→n+a≤bP→n+a+R≤m→
  ∃ hX gQ,iH c0 (jB Z ⟨K,n,none⟩ a ((gU O (n+a) R).map dL.enc)) hX∧jX bA Z hX (jB Z ⟨K,n,none⟩ a ((gU O (n+a) R).map dL.enc))∧hX K=some (O,gQ,m)∧n+a+R≤gQ
 | 0,a,Z,bA,bP,cI,N,b,c=>⟨bA,bP,cI,jX.refl _ _,N,b⟩
 | R+1,a,Z,bA,bP,cI,N,b,c=>by
  obtain⟨d,e⟩:=cI.put N b (by omega)
  obtain⟨hX,gQ,f,g,h,k⟩:=iH.Hs R (a+1) (n:=n) d (xT _ _ _) (by omega) (by omega)
  have i:(⟨K,n,none⟩:Addr).add a=⟨K,n+a,none⟩:=by rw [← cB K n,add_add,cB]
  have j:jB Z ⟨K,n,none⟩ a ((gU O (n+a) (R+1)).map dL.enc)=jB (gO Z ⟨K,n+a,none⟩ (hR (lP (O:Int) ((n+a:Nat):Int)))) ⟨K,n,none⟩ (a+1) ((gU O (n+(a+1)) R).map dL.enc):=by
   show jB (gO Z ((⟨K,n,none⟩:Addr).add a) (hR (lP (O:Int) ((n+a:Nat):Int)))) ⟨K,n,none⟩ (a+1) ((gU O (n+a+1) R).map dL.enc)=_
   rw [i];rfl
  rw [j]
  exact⟨hX,gQ,f,e.trans g,h,by omega⟩
theorem Ht{c0 Z:U}{bA:hA}{N:TypeId}{f:dW}{O R a:Nat}{aG:fA}{bO:S}{bN cZ:Nat}(cI:iH c0 Z bA)(w:c0.size≤Z.size)(c8:jR bA O aG.2.1 aG)(r:cL dL Z bO bN (gU O aG.2.1 R))(x:a=R)(P:1≤R)
  (y:f.a9=[dL.enc 0]) (i:f.leaves.length=1) (a3:f.bytes=8) (k:aG.2.1+R≤17592186044416) {aH:S→Nat→Nat→U→Prop}
  (post:∀ (d:fA) aB hX,jR hX O d.2.1 d→d.2.1=aG.2.1+R→iH c0 aB hX→jX bA Z hX aB→aH d.1 d.2.1 d.2.2 aB):g3 Z N f aG.1 aG.2.1 aG.2.2 (.slice bO a cZ) aH:=by
 subst x
 have z:=c8
 obtain⟨a1,Q,A⟩:=c8
 have dH:=r.yP (l:=a) (bN:=cZ) a (by rw [j7];exact Nat.le_refl _)
 rw [List.take_of_length_le (by rw [j7];exact Nat.le_refl _)] at dH
 refine⟨a,(gU O aG.2.1 a).map dL.enc,rfl,by rw [i];exact dH,?_,?_⟩
 ·intro o
  rcases A with ⟨p,j⟩ | ⟨K,bP,m,p,j,T,B⟩
  ·omega
  ·rw [p,i,Nat.mul_one]
   show pO Z ((⟨K,0,none⟩:Addr).add aG.2.1) 0 ((gU O aG.2.1 a).map dL.enc).length∧aH (some ⟨K,0,none⟩) (aG.2.1+a) aG.2.2 (jB Z ((⟨K,0,none⟩:Addr).add aG.2.1) 0 ((gU O aG.2.1 a).map dL.enc))
   rw [cB]
   obtain⟨hX,gQ,q,s,C,t⟩:=cI.Hs (n:=aG.2.1) a 0 j (by omega) (by omega)
   rw [Nat.add_zero] at q s t
   refine⟨AI fun aD D=>?_,?_⟩
   ·rw [List.length_map,j7] at D
    have E:(⟨K,aG.2.1,none⟩:Addr).add (0+aD)=⟨K,aG.2.1+aD,none⟩:=by rw [Nat.zero_add,← cB K aG.2.1,add_add,cB]
    rw [E]
    exact cI.cell j (by omega)
   ·exact post (some ⟨K,0,none⟩,aG.2.1+a,aG.2.2) _ hX ⟨o,k,Or.inr ⟨K,gQ,m,rfl,C,t,B⟩⟩ rfl q s
 ·intro o
  refine⟨?_,by omega,by omega,(gU O 0 aG.2.1).map dL.enc,?_,?_⟩
  ·rw [a3];exact growslice_fits (by omega) (by omega)
  ·have u:=(jR.rd cI z).yP (l:=aG.2.1) (bN:=aG.2.2) aG.2.1 (by rw [j7];exact Nat.le_refl _)
   rw [List.take_of_length_le (by rw [j7];exact Nat.le_refl _)] at u
   rw [i];exact u
  ·intro g F
   have G:bA Z.size=none:=cI.ge (Nat.le_refl _)
   have cO:bK Z (Z.push (.cells ((gU O 0 aG.2.1).map dL.enc ++ ((gU O aG.2.1 a).map dL.enc ++ iD f.a9 (g - (aG.2.1+a)))).toArray N (0,0))):=⟨by simp,fun V Qx=>by rw [Array.getElem?_push];rw [if_neg (by omega)]⟩
   refine post (some ⟨Z.size,0,none⟩,aG.2.1+a,g) _ (tP bA Z.size (O,aG.2.1+a,g)) ⟨F,k,Or.inr ⟨Z.size,aG.2.1+a,g,rfl,xT _ _ _,Nat.le_refl _,Nat.le_refl _⟩⟩ rfl ⟨fun c v gQ dU b=>?_⟩ ⟨fun c v gQ dU b=>?_,cO.le,fun c e b=>?_⟩
   ·by_cases e:c=Z.size
    ·subst e
     rw [xT] at b
     simp only [Option.some.injEq,Prod.mk.injEq] at b
     obtain⟨rfl,rfl,rfl⟩:=b
     refine⟨w,List.replicate (g - (aG.2.1+a)) 0,⟨fun L H=>?_,N,?_⟩,by rw [List.length_replicate];omega⟩
     ·rcases List.mem_append.mp H with h | h
      ·exact DA _ _ _ L h
      ·rw [List.eq_of_mem_replicate h];exact Co
     ·rw [y,AH,Bt O 0 aG.2.1 a,Nat.zero_add];simp
    ·rw [xU e] at b
     obtain⟨h,rest,aQ,I⟩:=cI.at_ c v gQ dU b
     exact⟨h,rest,aQ.aU cO,I⟩
   ·have e:c ≠ Z.size:=fun J=>by subst J;rw [G] at b;cases b
    exact⟨gQ,Nat.le_refl _,by rw [xU e];exact b⟩
   ·exact⟨by rw [xU (by omega)];exact b,cO.pre c e⟩
structure l3(c0 dA Z:U)(bA:hA)(M:S)(aA:Nat)(bH:List fA):Prop where
 r3:iH c0 Z bA
 cO:bK c0 Z
 be:c0.size≤dA.size
 le:dA.size≤Z.size
 aW:cL lX Z M aA bH
 a3:∀ p,M=some p→bA p.block=none
 dC:∀ p,M=some p→p.block < dA.size
theorem l3.step{c0 dA Z aB:U}{bA hX:hA}{M:S}{aA:Nat}{bH:List fA}(aG:l3 c0 dA Z bA M aA bH)(cI:iH c0 aB hX)(a:jX bA Z hX aB):l3 c0 dA aB hX M aA bH:=by
 have le:=aG.le
 refine⟨cI,⟨Nat.le_trans aG.cO.le a.size,fun K a3=>?_⟩,aG.be,Nat.le_trans aG.le a.size,⟨aG.aW.len,aG.aW.cap,aG.aW.ok,fun O L c=>?_⟩,fun p b=>?_,aG.dC⟩
 ·exact((a.off K (Nat.lt_of_lt_of_le a3 aG.cO.le) (aG.r3.oW a3)).2).trans (aG.cO.pre K a3)
 ·obtain⟨p,N,g⟩:=aG.aW.at_ O L c
  refine⟨p,N,?_⟩
  have:=aG.dC p N
  have d:aB[(p.add O).block]?=Z[(p.add O).block]?:=by rw [oY];exact(a.off p.block (by omega) (aG.a3 p N)).2
  rw [qM d];exact g
 ·have:=aG.dC p b
  exact(a.off p.block (by omega) (aG.a3 p b)).1
theorem l3.aU{c0 dA Z aB:U}{bA:hA}{M:S}{aA:Nat}{bH:List fA}(aG:l3 c0 dA Z bA M aA bH)(R:bK Z aB):l3 c0 dA aB bA M aA bH:=aG.step (aG.r3.aU R) (jX.aU bA R)
structure tQ(dA Z:U)(bA:hA)(a:S)(c:Nat)(gs:List fA)(n:Nat):Prop where
 iF:cX lX dA Z a c gs
 Bv:∀ p,a=some p→bA p.block=none
 all:∀ (aD:Nat) aG,gs[aD]?=some aG→jR bA (aD % n) aG.2.1 aG
theorem tQ.step{dA Z aB:U}{bA hX:hA}{a:S}{c n:Nat}{gs:List fA}(g:tQ dA Z bA a c gs n)(e:jX bA Z hX aB):tQ dA aB hX a c gs n:=by
 have dC:∀ p,a=some p→p.block < Z.size:=fun p b=>by
  rcases g.iF.here with ⟨_,N,_⟩ | ⟨K,rest,d,f,aQ,h⟩
  ·rw [N] at b;cases b
  ·rw [d] at b;cases b;exact aQ.lt
 refine⟨⟨g.iF.len,g.iF.cap,?_⟩,fun p b=>(e.off _ (dC p b) (g.Bv p b)).1,fun aD aG N=>(g.all aD aG N).step e⟩
 rcases g.iF.here with N | ⟨K,rest,d,f,aQ,h⟩
 ·exact Or.inl N
 ·have a3:=e.off K aQ.lt (g.Bv _ d)
  refine Or.inr ⟨K,rest,d,f,?_,h⟩
  obtain⟨el,at_⟩:=aQ.at_
  exact⟨aQ.ok,el,by rw [a3.2];exact at_⟩
theorem Hu{c0 dA Z:U}{bA:hA}{M j:S}{aA m o n O:Nat}{bH gs:List fA}{N r:TypeId}{h:dW}{aG:fA}(s:l3 c0 dA Z bA M aA bH)(G:tQ dA Z bA j m gs n)(H:gs.length+1≤100000)(u:o=gs.length)(v:jR bA O aG.2.1 aG)(a8:gs.length % n=O)
  (w:h.a9=[lX.enc (none,0,0)]) (x:h.leaves.length=1) (a3:h.bytes=24) {aH:S→Nat→Nat→U→Prop}
  (post:∀ i dI aB,l3 c0 dA aB bA M aA bH→tQ dA aB bA i dI (gs ++ [aG]) n→aH i (gs.length+1) dI aB):dX Z N [.slice aG.1 aG.2.1 aG.2.2] fun aI y=>g3 y r h j o m (.slice (some aI) 1 1) aH:=by
 refine rJ lX [aG] rfl (fun _ _=>trivial) fun a1 z cC=>?_
 have a:=s.aU cC
 have e:=G.step (jX.aU bA cC)
 refine Cu (a2:=dA) e.iF a.le (z.n7 (c:=1) (show 1≤11728124029610 by decide) (Nat.le_refl 1)) u rfl x ((none,0,0):fA) w trivial 24 a3 (by decide) (by simp;show _≤11728124029610;omega) (fun I=>by simp;omega) fun i dI aB A f J B=>?_
 have q:∀ K,K < dA.size→gA K j:=cX.yQ e.iF
 have C:l3 c0 dA aB bA M aA bH:=by
  have P:=a.le
  refine⟨a.r3.Ct f e.Bv,⟨Nat.le_trans a.cO.le f.le,fun K a3=>?_⟩,a.be,Nat.le_trans a.le f.le,⟨a.aW.len,a.aW.cap,a.aW.ok,fun aD L D=>?_⟩,a.a3,a.dC⟩
  ·have Q:c0.size≤a1.size:=a.cO.le
   have T:=a.be
   exact(f.pre K (by omega) (q K (by omega))).trans (a.cO.pre K a3)
  ·obtain⟨p,d,g⟩:=a.aW.at_ aD L D
   refine⟨p,d,?_⟩
   have:=a.dC p d
   have E:aB[(p.add aD).block]?=a1[(p.add aD).block]?:=by rw [oY];exact f.pre p.block (by omega) (q _ this)
   rw [qM E];exact g
 refine post i dI aB C ⟨A,fun p d=>?_,fun aD t b=>?_⟩
 ·rcases B with k | ⟨K,k,F⟩
  ·rw [k] at d;exact e.Bv p d
  ·rw [k] at d;cases d;exact a.r3.ge F
 ·rcases Nat.lt_or_ge aD gs.length with l | l
  ·rw [List.getElem?_append_left l] at b;exact e.all aD t b
  ·rw [List.getElem?_append_right l] at b
   cases aW:aD - gs.length with
   | zero=>
    rw [aW] at b;simp at b;subst b
    rw [show aD=gs.length by omega,a8];exact v
   | succ aZ=>rw [aW] at b;simp at b
variable {c0 dA:U} {M:S} {aA:Nat} {bH:List fA}
abbrev m7(c0:U):aF:=fun v aB=>v=.bool true∧bK c0 aB
theorem ML{Z:U}{bA:hA}(a:l3 c0 dA Z bA M aA bH)(h:bH.length≤50000)(all:∀ (aD:Nat) aG,bH[aD]?=some aG→jR bA aD aG.2.1 aG):
  ∀ (R O:Nat),O+R=bH.length→eY.dS.t (m7 c0) (R+1) M bH.length aA (O:Int) Z:=by
 intro R
 induction R with
 | zero=>
  intro O d
  unfold eY.dS.t eY.dD.t
  refine cE (fun a3=>absurd a3 (by omega)) fun _=>?_
  exact⟨rfl,a.cO⟩
 | succ R bZ=>
  intro O d
  unfold eY.dS.t eY.dD.t
  refine cE (fun _=>?_) fun a3=>absurd (by omega) a3
  obtain⟨aG,b⟩:∃ aG,bH[O]?=some aG:=⟨bH[O]'(by omega),by simp⟩
  have c:=all O aG b
  have r:=jR.rd a.r3 c
  have i:=c.2.1
  unfold eY.eZ.t
  refine⟨aG.2.1+1,?_⟩
  have go:∀ (m aD:Nat),aD+m=aG.2.1→eY.gD.t (m7 c0) (eY.dS.t (m7 c0) (R+1)) (m+1) M bH.length aA (O:Int) (aD:Int) Z:=by
   intro m
   induction m with
   | zero=>
    intro aD e
    unfold eY.gD.t eY.hI.t
    refine nG a.aW rfl rfl b ?_
    refine cE (fun a3=>absurd a3 (by omega)) fun _=>?_
    unfold eY.eX.t
    refine cT ((O+1:Nat):Int) (by omega) (by omega) (by omega) ?_
    exact bZ (O+1) (by omega)
   | succ m f=>
    intro aD e
    unfold eY.gD.t eY.hI.t
    refine nG a.aW rfl rfl b ?_
    refine cE (fun _=>?_) fun a3=>absurd (by omega) a3
    refine nG a.aW rfl rfl b ?_
    refine AF r (aD:=aD) rfl (by rw [j7]) (by rw [j7];omega) ?_
    refine zP _ _ ?_
    rw [Hr (by omega),Nat.zero_add]
    refine j8 (fun g=>absurd rfl g) fun _=>?_
    refine cT ((aD+1:Nat):Int) (by omega) (by omega) (by omega) ?_
    exact f (aD+1) (by omega)
  exact go aG.2.1 0 (by omega)
theorem MM{Z:U}{bA:hA}{b:S}{c:Nat}{gs:List fA}(d:l3 c0 dA Z bA M aA bH)(f:bH.length≤50000)(all:∀ (aD:Nat) aG,bH[aD]?=some aG→jR bA aD aG.2.1 aG)(G:tQ dA Z bA b c gs bH.length)(k:gs.length=bH.length+bH.length):
  ∀ (R O:Nat),O+R=gs.length→eY.jY.t (m7 c0) (R+1) M bH.length aA b gs.length c (O:Int) Z:=by
 intro R
 induction R with
 | zero=>
  intro O g
  unfold eY.jY.t eY.tR.t
  refine cE (fun a3=>absurd a3 (by omega)) fun _=>?_
  unfold eY.cF.t
  exact⟨bH.length+1,ML d f all bH.length 0 (by omega)⟩
 | succ R bZ=>
  intro O g
  unfold eY.jY.t eY.tR.t
  refine cE (fun _=>?_) fun a3=>absurd (by omega) a3
  obtain⟨aG,a⟩:∃ aG,gs[O]?=some aG:=⟨gs[O]'(by omega),by simp⟩
  have e:=G.all O aG a
  have r:=jR.rd d.r3 e
  have l:=e.2.1
  unfold eY.r4.t
  refine⟨aG.2.1+1,?_⟩
  have go:∀ (m aD:Nat),aD+m=aG.2.1→eY.mN.t (m7 c0) (eY.jY.t (m7 c0) (R+1)) (m+1) M bH.length aA b gs.length c (O:Int) (aD:Int) Z:=by
   intro m
   induction m with
   | zero=>
    intro aD h
    unfold eY.mN.t eY.tS.t
    refine nG G.iF.rd rfl rfl a ?_
    refine cE (fun a3=>absurd a3 (by omega)) fun _=>?_
    unfold eY.pK.t
    refine cT ((O+1:Nat):Int) (by omega) (by omega) (by omega) ?_
    exact bZ (O+1) (by omega)
   | succ m i=>
    intro aD h
    unfold eY.mN.t eY.tS.t
    refine nG G.iF.rd rfl rfl a ?_
    refine cE (fun _=>?_) fun a3=>absurd (by omega) a3
    refine nG G.iF.rd rfl rfl a ?_
    refine AF r (aD:=aD) rfl (by rw [j7]) (by rw [j7];omega) ?_
    refine⟨by omega,⟨?_⟩⟩
    rw [sR]
    refine zP _ _ ?_
    rw [Hr (by omega),Nat.zero_add]
    refine j8 (fun j=>absurd rfl j) fun _=>?_
    refine cT ((aD+1:Nat):Int) (by omega) (by omega) (by omega) ?_
    exact i (aD+1) (by omega)
  exact go aG.2.1 0 (by omega)
theorem MN(H:bH.length≤10000)(n:∀ (aD:Nat) aG,bH[aD]?=some aG→aG.2.1≤17592186044336):
  ∀ (R O:Nat) (Z:U) (bA:hA) (d:S) (e:Nat) (gs:List fA),O+R=bH.length→gs.length=bH.length+O→l3 c0 dA Z bA M aA bH→(∀ (aD:Nat) aG,bH[aD]?=some aG→jR bA aD aG.2.1 aG)→tQ dA Z bA d e gs bH.length→
   eY.iY.t (m7 c0) (R+1) M bH.length aA d gs.length e (O:Int) Z:=by
 intro R
 induction R with
 | zero=>
  intro O Z bA d e gs o k h all G
  unfold eY.iY.t eY.tT.t
  refine cE (fun a3=>absurd a3 (by omega)) fun _=>?_
  unfold eY.kC.t
  exact⟨gs.length+1,MM h (by omega) all G (by omega) gs.length 0 (by omega)⟩
 | succ R bZ=>
  intro O Z bA d e gs o k h all G
  unfold eY.iY.t eY.tT.t
  refine cE (fun _=>?_) fun a3=>absurd (by omega) a3
  unfold eY.r5.t
  obtain⟨aG,i⟩:∃ aG,bH[O]?=some aG:=⟨bH[O]'(by omega),by simp⟩
  have I:=n O aG i
  refine oD 80 rfl rfl rfl rfl (by omega) fun a1 p cC=>?_
  unfold eY.tU.t
  refine⟨80+1,?_⟩
  have go:∀ (m aD:Nat) (f:U),aD+m=80→bK Z f→Own f Z.size ((gU O aG.2.1 80).take aD ++ List.replicate (80 - aD) 0)→
    eY.mO.t (m7 c0) (eY.iY.t (m7 c0) (R+1)) (m+1) M bH.length aA d gs.length e (O:Int) (some ⟨Z.size,0,none⟩) ((80:Int).toNat) ((80:Int).toNat) (aD:Int) f:=by
   intro m
   induction m with
   | zero=>
    intro aD f q g j
    have r:aD=80:=by omega
    subst r
    unfold eY.mO.t eY.tV.t
    refine cE (fun a3=>absurd a3 (by decide)) fun _=>?_
    rw [List.take_of_length_le (by rw [j7];exact Nat.le_refl _),Nat.sub_self,List.replicate_zero,List.append_nil] at j
    have a:=h.aU g
    have s:=G.step (jX.aU bA g)
    unfold eY.p6.t
    refine nG a.aW rfl rfl i ?_
    have b:(gU O aG.2.1 80).length=80:=j7 _ _ _
    refine Ht a.r3 a.cO.le (all O aG i) (j.AK.n7 (c:=80) (by rw [b];decide) (by rw [b];exact Nat.le_refl _)) rfl (by decide) rfl rfl rfl (by omega) fun l J fQ u P v u4=>?_
    have w:=a.step v u4
    have x:=s.step u4
    refine Hu w x (by omega) rfl u (by rw [k,Nat.add_mod_left];exact Nat.mod_eq_of_lt (by omega)) rfl rfl rfl fun bE bD y z A=>?_
    unfold eY.m8.t
    refine cT ((O+1:Nat):Int) (by omega) (by omega) (by omega) ?_
    have B:gs.length+1=(gs ++ [l]).length:=by simp
    rw [B]
    exact bZ (O+1) y fQ bE bD (gs ++ [l]) (by omega) (by simp;omega) z (fun aD t C=>(all aD t C).step u4) A
   | succ m D=>
    intro aD f q g j
    have a:=h.aU g
    unfold eY.mO.t eY.tV.t
    refine cE (fun _=>?_) fun a3=>absurd (by omega) a3
    refine nG a.aW rfl rfl i ?_
    refine cT ((aG.2.1+aD:Nat):Int) (by omega) (by omega) (by omega) ?_
    refine zP _ _ ?_
    have b:((gU O aG.2.1 80).take aD).length=aD:=by rw [List.length_take,j7];omega
    refine mY j (aD:=aD) rfl (by rw [List.length_append,b,List.length_replicate];show 80=_;omega) (by rw [List.length_append,b,List.length_replicate];omega) rfl (Dz _ _) fun E=>?_
    refine cT ((aD+1:Nat):Int) (by omega) (by omega) (by omega) ?_
    refine D (aD+1) _ (by omega) (cG.aU g (cG.set _ _ _ _) (Nat.le_refl _)) ?_
    have F:((gU O aG.2.1 80).take aD ++ List.replicate (80 - aD) 0).set aD (lP (O:Int) ((aG.2.1+aD:Nat):Int))=(gU O aG.2.1 80).take (aD+1) ++ List.replicate (80 - (aD+1)) 0:=by
     rw [List.set_append_right _ _ (by omega),b,Nat.sub_self,show 80 - aD=80 - (aD+1)+1 by omega,List.replicate_succ,List.set_cons_zero,List.take_add_one,Bu O aG.2.1 80 aD (by omega)]
     simp
    rw [← F];exact E
  exact go 80 0 a1 (by omega) cC p
theorem MO(p:bH.length≤10000)(k:∀ (aD:Nat) aG,bH[aD]?=some aG→aG.2.1≤17592186044336):
  ∀ (R O:Nat) (Z:U) (bA:hA) (b:S) (d:Nat) (gs:List fA),O+R=bH.length→gs.length=O→l3 c0 dA Z bA M aA bH→(∀ (aD:Nat) aG,bH[aD]?=some aG→jR bA aD aG.2.1 aG)→tQ dA Z bA b d gs bH.length→
   eY.iZ.t (m7 c0) (R+1) M bH.length aA b gs.length d (O:Int) Z:=by
 intro R
 induction R with
 | zero=>
  intro O Z bA b d gs q l f all G
  unfold eY.iZ.t eY.tW.t
  refine cE (fun a3=>absurd a3 (by omega)) fun _=>?_
  unfold eY.kD.t
  exact⟨bH.length+1,MN p k bH.length 0 Z bA b d gs (by omega) (by omega) f all G⟩
 | succ R bZ=>
  intro O Z bA b d gs q l f all G
  unfold eY.iZ.t eY.tW.t
  refine cE (fun _=>?_) fun a3=>absurd (by omega) a3
  unfold eY.r6.t
  obtain⟨aG,g⟩:∃ aG,bH[O]?=some aG:=⟨bH[O]'(by omega),by simp⟩
  have C:=k O aG g
  refine nG f.aW rfl rfl g ?_
  unfold eY.tX.t
  refine⟨16+1,?_⟩
  have go:∀ (m aD:Nat) (e:U) (a:hA) (t:fA),aD+m=16→l3 c0 dA e a M aA bH→jX bA Z a e→jR a O t.2.1 t→t.2.1=aG.2.1+aD→
    eY.mP.t (m7 c0) (eY.iZ.t (m7 c0) (R+1)) (m+1) M bH.length aA b gs.length d (O:Int) t.1 t.2.1 t.2.2 (aD:Int) e:=by
   intro m
   induction m with
   | zero=>
    intro aD e a t r h nW mt n
    unfold eY.mP.t eY.tY.t
    refine cE (fun a3=>absurd a3 (by omega)) fun _=>?_
    unfold eY.p7.t
    have s:=G.step nW
    refine Hu h s (by omega) rfl mt (by rw [l];exact Nat.mod_eq_of_lt (by omega)) rfl rfl rfl fun bE bD i u v=>?_
    unfold eY.m9.t
    refine cT ((O+1:Nat):Int) (by omega) (by omega) (by omega) ?_
    have w:gs.length+1=(gs ++ [t]).length:=by simp
    rw [w]
    exact bZ (O+1) i a bE bD (gs ++ [t]) (by omega) (by simp;omega) u (fun aD cY hu=>(all aD cY hu).step nW) v
   | succ m x=>
    intro aD e a t r h nW mt n
    unfold eY.mP.t eY.tY.t
    refine cE (fun _=>?_) fun a3=>absurd (by omega) a3
    refine nG h.aW rfl rfl g ?_
    refine cT ((aG.2.1+aD:Nat):Int) (by omega) (by omega) (by omega) ?_
    refine zP _ _ ?_
    refine rJ dL (gU O t.2.1 1) (by rw [n];rfl) (DA _ _ _) fun D y o=>?_
    have j:=h.aU o
    refine Ht j.r3 j.cO.le mt (y.n7 (c:=1) (by rw [j7];decide) (by rw [j7];exact Nat.le_refl _)) rfl (Nat.le_refl _) rfl rfl rfl (by omega) fun z i hV A E B Cz=>?_
    refine cT ((aD+1:Nat):Int) (by omega) (by omega) (by omega) ?_
    exact x (aD+1) i hV z (by omega) (j.step B Cz) (nW.trans ((jX.aU a o).trans Cz)) A (by omega)
  exact go 16 0 Z bA aG (by omega) f (jX.refl _ _) (all O aG g) (by omega)
theorem MP(k:bH.length≤10000)(i:∀ (aD:Nat) aG,bH[aD]?=some aG→aG.2.1≤17592186044336):
  ∀ (R O:Nat) (Z:U) (bA:hA),O+R=bH.length→l3 c0 dA Z bA M aA bH→(∀ (aD:Nat) aG,bH[aD]?=some aG→jR bA aD (if aD < O then aG.2.1 else 0) aG)→
   eY.jZ.t (m7 c0) (R+1) M bH.length aA (O:Int) Z:=by
 intro R
 induction R with
 | zero=>
  intro O Z bA l f all
  unfold eY.jZ.t eY.tZ.t
  refine cE (fun a3=>absurd a3 (by omega)) fun _=>?_
  unfold eY.a5.t eY.uA.t
  refine⟨bH.length+1,MO k i bH.length 0 Z bA none 0 [] (by omega) rfl f (fun aD aG e=>?_) ⟨cX.nil _ _,fun p N=>(by cases N),fun aD aG N=>(by simp at N)⟩⟩
  have:=all aD aG e
  rw [if_pos (by have:=(List.getElem?_eq_some_iff.mp e).1;omega)] at this
  exact this
 | succ R bZ=>
  intro O Z bA l f all
  unfold eY.jZ.t eY.tZ.t
  refine cE (fun _=>?_) fun a3=>absurd (by omega) a3
  unfold eY.r7.t
  obtain⟨aG,b⟩:∃ aG,bH[O]?=some aG:=⟨bH[O]'(by omega),by simp⟩
  have u:=i O aG b
  refine⟨aG.2.1+1,?_⟩
  have go:∀ (m aD:Nat) (c:U) (d:hA),aD+m=aG.2.1→l3 c0 dA c d M aA bH→jX bA Z d c→jR d O aD aG→
    eY.mQ.t (m7 c0) (eY.jZ.t (m7 c0) (R+1)) (m+1) M bH.length aA (O:Int) (aD:Int) c:=by
   intro m
   induction m with
   | zero=>
    intro aD c d e a nW g
    unfold eY.mQ.t eY.uB.t
    refine nG a.aW rfl rfl b ?_
    refine cE (fun a3=>absurd a3 (by omega)) fun _=>?_
    unfold eY.pL.t
    refine cT ((O+1:Nat):Int) (by omega) (by omega) (by omega) ?_
    refine bZ (O+1) c d (by omega) a fun p t h=>?_
    by_cases N:p=O
    ·subst N
     rw [b] at h;cases h
     rw [if_pos (by omega)]
     have n:aD=aG.2.1:=by omega
     subst n;exact g
    ·have:=(all p t h).step nW
     by_cases j:p < O
     ·rw [if_pos j] at this;rw [if_pos (by omega)];exact this
     ·rw [if_neg j] at this;rw [if_neg (by omega)];exact this
   | succ m o=>
    intro aD c d e a nW g
    unfold eY.mQ.t eY.uB.t
    refine nG a.aW rfl rfl b ?_
    refine cE (fun _=>?_) fun a3=>absurd (by omega) a3
    refine nG a.aW rfl rfl b ?_
    refine zP _ _ ?_
    refine MK a.r3 g (by omega) fun q fQ r u4 s=>?_
    refine cT ((aD+1:Nat):Int) (by omega) (by omega) (by omega) ?_
    exact o (aD+1) q fQ (by omega) (a.step r u4) (nW.trans u4) s
  refine go aG.2.1 0 Z bA (by omega) f (jX.refl _ _) ?_
  exact(all O aG b).MI
structure Sep(c0 Z:U)(bH:List fA):Prop where
 one:∀ aG ∈ bH,aG.2.1≤aG.2.2∧aG.2.1≤17592186044336∧((aG.1=none∧aG.2.2=0)∨∃ K a9,aG.1=some ⟨K,0,none⟩∧c0.size≤K∧dZ dL Z K a9∧aG.2.2≤a9.length)
 two:∀ (O aD:Nat) (aG t:fA) (p aI:Addr),bH[O]?=some aG→bH[aD]?=some t→aG.1=some p→t.1=some aI→p.block=aI.block→O=aD
open Classical in
noncomputable def vU(Z:U)(bH:List fA):hA:=fun K=>if a:∃ O:Nat,∃ aG:fA,bH[O]?=some aG∧aG.1=some ⟨K,0,none⟩ then some (Classical.choose a,0,(o0 Z K).getD 0) else none
theorem dZ.o0{Z:U}{K:Nat}{a9:List Nat}(aQ:dZ dL Z K a9):Gv.o0 Z K=some a9.length:=by
 obtain⟨N,g⟩:=aQ.at_
 unfold Gv.o0
 rw [g];simp
theorem Hv{c0 Z:U}{bH:List fA}(c8:Sep c0 Z bH){O:Nat}{aG:fA}{K:Nat}{a9:List Nat}(a8:bH[O]?=some aG)(a3:aG.1=some ⟨K,0,none⟩)(aQ:dZ dL Z K a9):vU Z bH K=some (O,0,a9.length):=by
 have a:∃ O:Nat,∃ aG:fA,bH[O]?=some aG∧aG.1=some ⟨K,0,none⟩:=⟨O,aG,a8,a3⟩
 unfold vU
 rw [dif_pos a,dZ.o0 aQ]
 obtain⟨t,b,c⟩:=Classical.choose_spec a
 have N:=c8.two _ O t aG _ _ b a8 c a3 rfl
 rw [N];rfl
theorem MQ{c0 Z:U}{bH:List fA}(c8:Sep c0 Z bH):iH c0 Z (vU Z bH):=by
 refine⟨fun K O bP m N=>?_⟩
 by_cases b:∃ O:Nat,∃ aG:fA,bH[O]?=some aG∧aG.1=some ⟨K,0,none⟩
 ·obtain⟨aD,aG,c,a3⟩:=b
  obtain⟨_,_,d⟩:=c8.one aG (List.mem_of_getElem? c)
  rcases d with ⟨a,_⟩ | ⟨f,a9,a,e,aQ,g⟩
  ·rw [a] at a3;cases a3
  ·rw [a] at a3;cases a3
   rw [Hv c8 c a aQ] at N
   simp only [Option.some.injEq,Prod.mk.injEq] at N
   obtain⟨rfl,rfl,rfl⟩:=N
   exact⟨e,a9,by simpa [gU] using aQ,by omega⟩
 ·unfold vU at N
  rw [dif_neg b] at N;cases N
theorem MR{c0 Z:U}{M:S}{aA l:Nat}{bH:List fA}(c:bK c0 Z)(aW:cL lX Z M aA bH)(f:l=bH.length)(g:bH.length≤10000)(c8:Sep c0 Z bH)(d:∀ p,M=some p→p.block < Z.size∧∀ aG ∈ bH,∀ aI,aG.1=some aI→aI.block ≠ p.block):
  a4 eY.id #[.slice M l aA] Z fun v aB=>v=.bool true∧bK c0 aB:=by
 subst f
 refine eY.ok ?_
 unfold eY.t eY.aP.t eY.uC.t
 have h:l3 c0 Z Z (vU Z bH) M aA bH:=⟨MQ c8,c,c.le,Nat.le_refl _,aW,fun p b=>by
  unfold vU
  rw [dif_neg]
  rintro⟨O,aG,a8,a3⟩
  exact(d p b).2 aG (List.mem_of_getElem? a8) _ a3 rfl,fun p b=>(d p b).1⟩
 refine⟨bH.length+1,MP g (fun aD aG a=>(c8.one aG (List.mem_of_getElem? a)).2.1) bH.length 0 Z (vU Z bH) (by omega) h fun aD aG a=>?_⟩
 rw [if_neg (by omega)]
 obtain⟨a1,k,i⟩:=c8.one aG (List.mem_of_getElem? a)
 refine⟨a1,by omega,i.imp id ?_⟩
 rintro⟨K,a9,e,m,aQ,j⟩
 exact⟨K,0,a9.length,e,Hv c8 a e aQ,Nat.le_refl _,j⟩
end Go.Proofs.YtjijdlkpmngolaaGreat.G
