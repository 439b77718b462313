import Derived.Test.YtjijdlkpmngolaaGreatKM
import Derived.Test.YtjijdlkpmngolaaGreatKC0
import Derived.Test.YtjijdlkpmngolaaGreatKC1
set_option linter.unusedVariables false
namespace Go.Proofs.YtjijdlkpmngolaaGreat.G
open Go.Gv
set_option linter.unusedVariables false
structure gL(Z:U)(p:Bool)(a:M)(l c:Nat)(O:Int):Prop where
 p:p=decide (O < 0)
 l:l=(D.aK O.natAbs).length
 r:cH b6 Z a c (D.aK O.natAbs)
theorem gL.aR{Z K:U}{p:Bool}{a:M}{l c:Nat}{O:Int}(bI:gL Z p a l c O)(S:bA Z K):gL K p a l c O:=⟨bI.p,bI.l,bI.r.aR S⟩
theorem gL.c1{Z:U}{p:Bool}{a:M}{l c:Nat}{O:Int}(bI:gL Z p a l c O):c1 (p,O.natAbs)=O:=by
 rw [bI.p];exact xO O
def pW(v:Value)(Z:U)(aF:Bool→M→Nat→Nat→U→Prop):Prop:=
 eG v fun aP=>cQ aP fun b eH=>eS b fun L=>cQ eH fun b d=>aQ b fun a l c=>b5 d (aF L a l c Z)
theorem vX{aX Z:U}{v:Value}{O:Int}{aF:Bool→M→Nat→Nat→U→Prop}(aH:gU aX Z v (dM O))(g:∀ p a l c,gL Z p a l c O→cV b6 aX Z a c (D.aK O.natAbs)→aF p a l c Z):pW v Z aF:=by
 obtain⟨a,c,R,r⟩:=aH
 subst R
 exact e5 rfl (cF (c5 rfl (cF (bE rfl (dR (g _ _ _ _ ⟨rfl,rfl,r.rd⟩ r))))))
theorem fV{Z K:U}{n:Nat}(S:bA Z K)(a:n≤Z.size):eT n Z K:=fun L b=>S.pre L (Nat.lt_of_lt_of_le b a)
section
variable {a L:M} {c aV l m N:Nat} {Z:U} {O aC:Int} {p aE:Bool} {aF:Bool→M→Nat→Nat→U→Prop}
theorem Ai(r:cH b6 Z a c (D.aK N))(b:l=(D.aK N).length)(g:∀ p a l c K,bA Z K→gL K p a l c (N:Int)→aF p a l c K):
  aY fR.id #[.bool false,.slice a l c] Z fun v K=>pW v K aF:=by
 refine cA (fR.bM r b) fun v K ⟨S,aH⟩=>?_
 exact vX (O:=(N:Int)) aH fun p a l c bI _=>g p a l c K S bI
theorem K9(r:gL Z p a l c O)(aH:gL Z aE L m aV aC)(b:fP O.natAbs)(d:fP aC.natAbs)(g:∀ p a l c K,bA Z K→gL K p a l c (O - aC)→aF p a l c K):
  aY k5.id #[.agg #[.bool p,.slice a l c],.agg #[.bool aE,.slice L m aV]] Z fun v K=>pW v K aF:=by
 refine cA (k5.bM (p:=p) (aE:=aE) r.r r.l aH.r aH.l b d) fun v K ⟨S,t⟩=>?_
 rw [r.c1,aH.c1] at t
 exact vX t fun p a l c bI _=>g p a l c K S bI
theorem La{aF:Int→U→Prop}(r:gL Z p a l c O)(g:∀ K,bA Z K→aF (hL O 0) K):
  aY kP.id #[.agg #[.bool p,.slice a l c]] Z fun v K=>aW .i64 v fun N=>aF N K:=by
 refine cA (kP.bM (p:=p) r.r r.l) fun v K ⟨S,t⟩=>?_
 rw [r.c1] at t
 exact bQ t.1 (g K S)
theorem Lb{aF:Int→U→Prop}(r:gL Z p a l c O)(aH:gL Z aE L m aV aC)(b:(D.aK O.natAbs).length≤700000)(d:(D.aK aC.natAbs).length≤700000)(g:∀ K,bA Z K→aF (hL O aC) K):
  aY lY.id #[.agg #[.bool p,.slice a l c],.agg #[.bool aE,.slice L m aV]] Z fun v K=>aW .i64 v fun N=>aF N K:=by
 refine cA (lY.bM (p:=p) (aE:=aE) r.r r.l aH.r aH.l b d) fun v K ⟨S,t⟩=>?_
 rw [r.c1,aH.c1] at t
 exact bQ t.1 (g K S)
end
theorem FR{Z:U}{R:TypeId}{c2:List Value}(e:c2.length=2){p:Bool}{a:M}{l c:Nat}{aF:Addr→U→Prop}(g:∀ aE K,bA Z K→Z.size≤aE→eC K aE [.bool p,.slice a l c]→aF ⟨aE,0,none⟩ K):
  dN Z R c2 fun aE aZ=>cC aZ (aE.add 0) (.bool p) fun d=>cC d (aE.add 1) (.slice a l c) fun b=>aF aE b:=by
 match c2,e with
 | [m,n],_=>
  refine eZ fun aZ f b3=>?_
  refine j4 f (by exact(by decide:0 < 2)) fun d h i=>?_
  refine j4 h (by exact(by decide:1 < 2)) fun b j k=>?_
  exact g Z.size b (cD.aR (cD.aR b3 i (Nat.le_refl _)) k (Nat.le_refl _)) (Nat.le_refl _) j
theorem mP{Z:U}{aE:Nat}{p:Bool}{a:M}{l c:Nat}{aF:Bool→M→Nat→Nat→Prop}(aN:eC Z aE [.bool p,.slice a l c])(g:aF p a l c):
  fG Z ((⟨aE,0,none⟩:Addr).add 0) fun b=>eS b fun L=>fG Z ((⟨aE,0,none⟩:Addr).add 1) fun d=>aQ d fun a l c=>aF L a l c:=
 mF aN rfl (c5 rfl (mF aN rfl (bE rfl g)))
theorem Lc:48*oX (18*18) 530 (2 ^ 4400 / 18) 1 0 0+32*oX (57*57) 380 (2 ^ 4400 / 57) 1 0 0 - 20*oX (239*239) 280 (2 ^ 4400 / 239) 1 0 0=hI+560:=by kernel_rfl
theorem FT:fB 18 4400 530=0:=by kernel_rfl
theorem FU:fB 57 4400 380=0:=by kernel_rfl
theorem Ce{n aB bH S aF:Nat}(a:aB≤bH)(aX:fB n bH S=0)(Z:aF=0∨fB n aB (aF - 1) ≠ 0):aF≤S:=by
 rcases Z with Z | Z
 ·omega
 ·refine Nat.le_of_not_lt fun b=>Z ?_
  have:fB n aB S=0:=by rw [tR n S a,aX,Nat.zero_div]
  exact FV this (aF - 1) (by omega)
theorem Cf{n aB S m:Nat}(a:fB n aB S=0)(b:fB n aB m=0):dT n aB S=dT n aB m∧dU n aB S=dU n aB m:=by
 rcases Nat.le_total S m with Z | Z
 ·have:=Aj a m Z;exact⟨this.1.symm,this.2.symm⟩
 ·exact Aj b S Z
theorem Ld{aB O aC S:Nat}(b:aB≤4400)(e:fB 18 aB O=0)(f:fB 57 aB aC=0)(g:fB 239 aB S=0):
  20*(dT 239 aB S - dU 239 aB S)≤48*(dT 18 aB O - dU 18 aB O)+32*(dT 57 aB aC - dU 57 aB aC)+44000
  ∧48*(dT 18 aB O - dU 18 aB O)+32*(dT 57 aB aC - dU 57 aB aC)≤dG aB+44000+20*(dT 239 aB S - dU 239 aB S)
  ∧dG aB+20*(dT 239 aB S - dU 239 aB S)≤48*(dT 18 aB O - dU 18 aB O)+32*(dT 57 aB aC - dU 57 aB aC)+44000:=by
 have h:fB 18 aB 530=0:=by rw [tR 18 530 b,FT,Nat.zero_div]
 have i:fB 57 aB 380=0:=by rw [tR 57 380 b,FU,Nat.zero_div]
 have j:fB 239 aB 280=0:=by rw [tR 239 280 b,Cg,Nat.zero_div]
 obtain⟨k,l⟩:=Cf e h
 obtain⟨m,n⟩:=Cf f i
 obtain⟨o,p⟩:=Cf g j
 rw [k,l,m,n,o,p]
 have q:0 < 2 ^ (4400 - aB):=Nat.pow_pos (by decide)
 have dY:=xS 18 b 530
 have r:=xS 57 b 380
 have s:=xS 239 b 280
 have t:=pX 18 aB 530
 have u:=pX 57 aB 380
 have w:=pX 239 aB 280
 have x:=pX 18 4400 530
 have y:=pX 57 4400 380
 have z:=pX 239 4400 280
 have d:=Lc
 rw [← xT 18 4400 530 rfl,← xT 57 4400 380 rfl,← xT 239 4400 280 rfl] at d
 have A:=Nat.div_add_mod hI (2 ^ (4400 - aB))
 have B:=Nat.mod_lt hI q
 have C:20*(dT 239 4400 280 - dU 239 4400 280)≤48*(dT 18 4400 530 - dU 18 4400 530)+32*(dT 57 4400 380 - dU 57 4400 380):=by
  refine Nat.le_of_lt (Nat.lt_of_sub_pos ?_)
  rw [d];exact Nat.succ_pos _
 unfold dG
 generalize hI / 2 ^ (4400 - aB)=a2 at *
 generalize hI % 2 ^ (4400 - aB)=bK at *
 generalize hI=P at *
 generalize 2 ^ (4400 - aB)=D at *
 generalize dT 18 4400 530=E at *
 generalize dU 18 4400 530=F at *
 generalize dT 57 4400 380=bC at *
 generalize dU 57 4400 380=G at *
 generalize dT 239 4400 280=aO at *
 generalize dU 239 4400 280=H at *
 generalize dT 18 aB 530=a at *
 generalize dU 18 aB 530=I at *
 generalize dT 57 aB 380=L at *
 generalize dU 57 aB 380=J at *
 generalize dT 239 aB 280=c at *
 generalize dU 239 aB 280=dF at *
 obtain⟨cU,rfl⟩:=Nat.le.dest t
 obtain⟨v,rfl⟩:=Nat.le.dest u
 obtain⟨N,rfl⟩:=Nat.le.dest w
 rw [Nat.add_sub_cancel_left,Nat.add_sub_cancel_left,Nat.add_sub_cancel_left]
 simp only [Nat.mul_add] at dY r s
 have key:∀ N aP:Nat,D*N≤D*aP+(D - 1)→N≤aP:=by
  intro N aP Z
  refine Nat.le_of_not_lt fun Q=>?_
  have:=Nat.mul_le_mul_left D (show aP+1≤N by omega)
  rw [Nat.mul_add] at this;omega
 refine⟨key _ _ ?_,key _ _ ?_,key _ _ ?_⟩ <;> (simp only [Nat.mul_add,Nat.mul_left_comm D];omega)
theorem Le{aB O aC S:Nat}(a:aB≤4400)(b:fB 18 aB O=0)(c:fB 57 aB aC=0)(d:fB 239 aB S=0)(a4:O≤530)(e:aC≤380)(f:S≤280):
  tS aB (48*(dT 18 aB O - dU 18 aB O)+32*(dT 57 aB aC - dU 57 aB aC) - 20*(dT 239 aB S - dU 239 aB S) - 4*(48*(O+2)+32*(aC+2)+20*(S+2)))
   (48*(dT 18 aB O - dU 18 aB O)+32*(dT 57 aB aC - dU 57 aB aC) - 20*(dT 239 aB S - dU 239 aB S)+4*(48*(O+2)+32*(aC+2)+20*(S+2))):=by
 obtain⟨aX,aZ,g⟩:=Ld a b c d
 generalize 48*(dT 18 aB O - dU 18 aB O)=h at *
 generalize 32*(dT 57 aB aC - dU 57 aB aC)=bC at *
 generalize 20*(dT 239 aB S - dU 239 aB S)=aO at *
 exact⟨by omega,by omega,by omega,by omega,by omega⟩
def FW(p:Nat):Bool:=Nat.ble 262144 (hI / 2 ^ (4336 - p) % 18446744073709551616) && Nat.ble (hI / 2 ^ (4336 - p) % 18446744073709551616) 18446744073709289471
theorem Lf:tT FW 4200=true:=by kernel_rfl
theorem Lg{p bY a4:Nat}(a:p < 4200)(m:tS (p+64) bY a4):bY / 18446744073709551616=dG p∧a4 / 18446744073709551616=dG p:=by
 have Z:=xU Lf p a
 simp only [FW,Bool.and_eq_true,Nat.ble_eq] at Z
 have R:hI / 2 ^ (4336 - p)=dG (p+64):=by unfold dG;congr 2;omega
 rw [R] at Z
 have b:=Ak p 64 (by omega)
 rw [show(2:Nat) ^ 64=18446744073709551616 by decide] at b
 obtain⟨c,d,e,f,g⟩:=m
 omega
theorem Lh{a:M}{c l N n:Nat}{Z:U}{aF:M→Nat→Nat→U→Prop}(r:cG Z a c (aK N))(d:l=(aK N).length)(c0:n ≠ 0)(b:n < 65536)(gW:fE N)
  (g:∀ a c K,bA Z K→cV dP Z K a c (aK (N / (n*n)))→aF a (aK (N / (n*n))).length c K) :
  aY qU.id #[.slice a l c,.int .u64 (n:Int)] Z fun v K=>aQ v fun a l c=>aF a l c K:=by
 refine cA (c6:=fun v K=>bA Z K∧∃ a c,v=.slice a (aK (N / (n*n))).length c∧cV dP Z K a c (aK (N / (n*n)))) ?_ fun v K ⟨S,a,c,R,r⟩=>by subst R;exact g a c K S r
 refine qU.ok ?_
 unfold qU.t qU.aL.t
 have e:(n:Int) < 4294967296:=by omega
 rw [decide_eq_true e]
 have h:n*n < 4294967296:=(Nat.mul_lt_mul'' b b:n*n < 65536*65536)
 have f:n*n ≠ 0:=Nat.ne_of_gt (Nat.mul_pos (by omega) (by omega))
 show a5 _ _
 refine dB (n*n) (by rw [Int.natCast_mul]) (by omega) ?_
 exact BX r d f (by omega) gW fun a c K S r=>⟨S,a,c,rfl,r⟩
def Ch(n aB:Nat)(Z:U)(v:Value)(K:U):Prop:=
 bA Z K∧∃ S a c,fB n aB S=0∧2*S≤aB+1∧v=.tuple #[.slice a (aK (dT n aB S - dU n aB S)).length c,.int .u64 ((2+3*S:Nat):Int)]∧cV dP Z K a c (aK (dT n aB S - dU n aB S))
theorem Ci(n aC:Nat){aB:Nat}(a:aB≤100000):fE (fB n aB aC):=
 jJ (S:=aB+1) (Nat.lt_of_le_of_lt (Nat.div_le_self _ _) (Nat.pow_lt_pow_right (by decide) (by omega))) (by omega)
theorem Cj(n:Nat){aC aB:Nat}(b:2*aC≤aB+1):dT n aB aC < 2 ^ (aB+aB+1)∧dU n aB aC < 2 ^ (aB+aB+1):=by
 have Z:=Li n aB aC
 have a:aC*2 ^ aB < 2 ^ (aB+aB+1):=by
  rw [show aB+aB+1=(aB+1)+aB by omega,Nat.pow_add]
  exact Nat.mul_lt_mul_of_pos_right (Nat.lt_of_lt_of_le (show aC < aB+2 by omega) (by have:=@Nat.lt_two_pow_self (aB+1);omega)) (Nat.pow_pos (by decide))
 exact⟨Nat.lt_of_le_of_lt Z.1 a,Nat.lt_of_le_of_lt Z.2 a⟩
theorem Ck(n:Nat){aC aB:Nat}(b:aB≤100000)(a:2*aC≤aB+1):fE (dT n aB aC)∧fE (dU n aB aC):=by
 have Z:=Cj n a
 exact⟨jJ Z.1 (by omega),jJ Z.2 (by omega)⟩
theorem FX(n:Nat){aC aB:Nat}(b:aB≤100000)(a:2*aC≤aB+1):fE (dT n aB aC - dU n aB aC)∧fE ((dT n aB aC - dU n aB aC)*16):=by
 have Z:=Cj n a
 have R:2 ^ (aB+aB+5)=2 ^ (aB+aB+1)*16:=by rw [show aB+aB+5=(aB+aB+1)+4 by omega,Nat.pow_add]
 exact⟨jJ (S:=aB+aB+1) (by omega) (by omega),jJ (S:=aB+aB+5) (by rw [R];omega) (by omega)⟩
theorem pY{n:Nat}:(aK n).length=0↔n=0:=by
 constructor
 ·intro Z
  have:=e1 n
  rw [List.length_eq_zero_iff.mp Z] at this
  exact this.symm
 ·rintro rfl;rw [eP];rfl
theorem Lj{n aB:Nat}{aX:U}(G:2≤n)(H:n < 65536)(k:aB≤100000):
  ∀ (f aC:Nat) (a L c:M) (aV R g l m aN:Nat) (Z:U),f+aC=aB+2→2*aC≤aB+1→bA aX Z→cG Z a aV (aK (fB n aB aC))→l=(aK (fB n aB aC)).length→cG Z L R (aK (dT n aB aC))→m=(aK (dT n aB aC)).length→
   cG Z c g (aK (dU n aB aC))→aN=(aK (dU n aB aC)).length→mQ.bL.t (Ch n aB aX) (f+1) (n:Int) a l aV L m R c aN g ((2+3*aC:Nat):Int) ((2*aC+1:Nat):Int) Z:=by
 intro f
 induction f with
 | zero=>
  intro aC a L c aV R g l m aN Z I s;omega
 | succ f bU=>
  intro aC a L c aV R g l m aN Z I s o r B aH u aE w
  unfold mQ.bL.t mQ.b7.t
  have C:=Ck n k s
  refine b9 (fun J=>?_) fun J=>?_
  ·have P:fB n aB aC ≠ 0:=fun Q=>by have:=pY.mpr Q;omega
   have Px:=FY G P
   have D:=Ck n k (show 2*(aC+1)≤aB+1 by omega)
   refine BX r B (by omega) (by omega) (Ci n aC k) fun aJ aG aZ b3 E=>?_
   refine⟨by decide,?_⟩
   refine a5.mk ?_
   have fin:∀ (bJ bG:M) (d2 p x y:Nat) (b:U),bA aX b→cG b a aV (aK (fB n aB aC))→cG b bJ d2 (aK (dT n aB (aC+1)))→x=(aK (dT n aB (aC+1))).length→cG b bG p (aK (dU n aB (aC+1)))→y=(aK (dU n aB (aC+1))).length→
     aY qU.id #[.slice a l aV,.int .u64 (n:Int)] b fun v K=>aQ v fun a l aV=>a5 (IntKind.u64.wrap (((2+3*aC:Nat):Int)+3)) fun T=>a5 (IntKind.u64.wrap (((2*aC+1:Nat):Int)+2)) fun V=>
      mQ.bL.t (Ch n aB aX) (f+1) (n:Int) a l aV bJ x d2 bG y p T V K:=by
    intro bJ bG d2 p x y b d e s2 Pt e8 Pu
    refine Lh e B (by omega) H (Ci n aC k) fun c3 cR Pv z F=>?_
    refine dB (2+3*(aC+1)) (by omega) (by omega) ?_
    refine dB (2*(aC+1)+1) (by omega) (by omega) ?_
    rw [← xV] at F ⊢
    exact bU (aC+1) c3 bJ bG cR d2 p _ _ _ Pv (by omega) (by omega) (d.trans z) F.eJ rfl (s2.aR z) Pt (e8.aR z) Pu
   have h:dT n aB (aC+1)=dT n aB aC+if aC % 2=0 then iA n aB aC else 0:=rfl
   have i:dU n aB (aC+1)=dU n aB aC+if aC % 2=0 then 0 else iA n aB aC:=rfl
   refine eY (fun A=>?_) fun A=>?_
   ·have q:aC % 2=0:=by
     have:((2*aC+1:Nat):Int).tmod 4=1:=A
     rw [Int.tmod_eq_emod_of_nonneg (by omega)] at this;omega
    rw [if_pos q] at h i
    refine tJ (N:=dT n aB aC) (aP:=iA n aB aC) (aH.aR b3) u E.eJ rfl (by rw [← h];exact D.1) fun bJ bG b d e=>?_
    have j:=e.eJ
    rw [← h] at j ⊢
    exact fin _ _ _ _ _ _ b ((o.trans b3).trans d) ((r.aR b3).aR d) j rfl (by rw [i];exact(aE.aR b3).aR d) (by rw [i];exact w)
   ·have q:¬ aC % 2=0:=by
     intro q
     refine A ?_
     show((2*aC+1:Nat):Int).tmod 4=1
     rw [Int.tmod_eq_emod_of_nonneg (by omega)];omega
    rw [if_neg q] at h i
    refine tJ (N:=dU n aB aC) (aP:=iA n aB aC) (aE.aR b3) w E.eJ rfl (by rw [← i];exact D.2) fun bJ bG b d e=>?_
    have j:=e.eJ
    rw [← i] at j ⊢
    exact fin _ _ _ _ _ _ b ((o.trans b3).trans d) ((r.aR b3).aR d) (by rw [h];exact(aH.aR b3).aR d) (by rw [h];exact u) j rfl
  ·have Pw:fB n aB aC=0:=pY.mp (by omega)
   unfold mQ.a0.t
   refine tK aH u aE w C.1 C.2 fun bJ bG b d e=>?_
   exact⟨o.trans d,aC,bJ,bG,Pw,s,rfl,e.from o.le⟩
theorem FZ{n aB:Nat}(Z:U)(e:2≤n)(f:n < 65536)(g:aB≤100000):aY mQ.id #[.int .u64 (n:Int),.int .i64 (aB:Int)] Z (Ch n aB Z):=by
 refine mQ.ok ?_
 unfold mQ.t mQ.aL.t
 have a:fE (1*2 ^ aB):=by rw [Nat.one_mul];exact jJ (S:=aB+1) (Nat.pow_lt_pow_right (by decide) (by omega)) (by omega)
 refine n2 (N:=1) (by decide) fun aJ aG aZ b3 h=>?_
 refine xI rfl h.eJ rfl (by omega) (oV (by decide)) a fun bJ bG m i j=>?_
 refine BX j.eJ rfl (by omega) (by omega) a fun c3 cR o k b=>?_
 refine vC dP [] rfl (by simp) fun p _ c=>?_
 refine vC dP [] rfl (by simp) fun l _ d=>?_
 unfold mQ.bF.t
 have R:1*2 ^ aB / n=fB n aB 0:=by rw [Nat.one_mul,Cl]
 rw [R] at b ⊢
 refine⟨aB+2+1,Lj e f g (aB+2) 0 _ _ _ _ _ _ _ _ _ l (by omega) (by omega) ((((b3.trans i).trans k).trans c).trans d) ((b.eJ.aR c).aR d) rfl ?_ ?_ ?_ ?_⟩
 ·show cG _ _ _ (aK 0);rw [eP];exact cG.nil _ _ _
 ·show _=(aK 0).length;rw [eP];rfl
 ·show cG _ _ _ (aK 0);rw [eP];exact cG.nil _ _ _
 ·show _=(aK 0).length;rw [eP];rfl
theorem Lk{a:M}{c l N aN:Nat}{Z:U}{aF:M→Nat→Nat→M→Nat→Nat→U→Prop}(r:cG Z a c (aK N))(i:l=(aK N).length)(d:aN < 18446744073709551616)(gW:fE (N+aN))
  (g:∀ a c L aV K,bA Z K→cV dP Z K a c (aK (N - aN))→cV dP Z K L aV (aK (N+aN))→aF a (aK (N - aN)).length c L (aK (N+aN)).length aV K) :
  aY tU.id #[.slice a l c,.int .u64 (aN:Int)] Z fun v K=>cT v fun aP=>cQ aP fun k eH=>aQ k fun a l c=>cQ eH fun n o=>aQ n fun L m aV=>b5 o (aF a l c L m aV K):=by
 refine cA (c6:=fun v K=>bA Z K∧∃ a c L aV,v=.tuple #[.slice a (aK (N - aN)).length c,.slice L (aK (N+aN)).length aV]∧cV dP Z K a c (aK (N - aN))∧cV dP Z K L aV (aK (N+aN))) ?_
  fun v K ⟨S,a,c,L,aV,R,e,f⟩=>by subst R;exact g a c L aV K S e f
 refine tU.ok ?_
 unfold tU.t tU.aL.t
 refine n2 d fun aJ aG aZ b3 e=>?_
 refine tK (r.aR b3) i e.eJ rfl (jV (by omega) gW) (oV d) fun bJ bG s h f=>?_
 refine n2 d fun c3 cR u b p=>?_
 refine tJ (((r.aR b3).aR h).aR b) i p.eJ rfl gW fun eA eF w j q=>?_
 exact⟨((b3.trans h).trans b).trans j,_,_,_,_,rfl,((f.aR b).aR j).from b3.le,q.from ((b3.trans h).trans b).le⟩
theorem r2{aB N:Nat}(b:aB≤4400)(a:N≤dG aB+262144):fE N:=by
 refine jJ (S:=4403) (Nat.lt_of_le_of_lt (Nat.le_trans a (Nat.add_le_add_right (show dG aB≤hI from Nat.div_le_self _ _) _)) ?_) (by omega)
 exact Nat.le_of_ble_eq_true (by kernel_rfl)
theorem F0{aB:Nat}{Z:U}{aF:M→Nat→Nat→M→Nat→Nat→U→Prop}(f:aB≤4400)
  (g:∀ bY a4 a c L aV K,tS aB bY a4→bA Z K→cV dP Z K a c (aK bY)→cV dP Z K L aV (aK a4)→aF a (aK bY).length c L (aK a4).length aV K) :
  aY r3.id #[.int .i64 (aB:Int)] Z fun v K=>cT v fun aP=>cQ aP fun h eH=>aQ h fun a l c=>cQ eH fun i p=>aQ i fun L m aV=>b5 p (aF a l c L m aV K):=by
 refine cA (c6:=fun v K=>bA Z K∧∃ bY a4 a c L aV,tS aB bY a4∧v=.tuple #[.slice a (aK bY).length c,.slice L (aK a4).length aV]∧cV dP Z K a c (aK bY)∧cV dP Z K L aV (aK a4)) ?_
  fun v K ⟨S,bY,a4,a,c,L,aV,m,R,b,d⟩=>by subst R;exact g bY a4 a c L aV K m S b d
 refine r3.ok ?_
 unfold r3.t r3.aL.t
 refine cA (FZ (n:=5) Z (by decide) (by decide) (by omega)) fun h aZ ⟨b3,O,aJ,aG,q,aI,r,b⟩=>?_
 subst r
 refine gE rfl (cF (bE rfl (cF (bQ rfl (dR ?_)))))
 refine cA (FZ (n:=239) aZ (by decide) (by decide) (by omega)) fun i D ⟨j,aC,bJ,bG,s,bZ,u,d⟩=>?_
 subst u
 refine gE rfl (cF (bE rfl (cF (bQ rfl (dR ?_)))))
 obtain⟨E,m⟩:=Ll f q s aI bZ
 have e:=FX 5 (show aB≤100000 by omega) aI
 have s2:=FX 239 (show aB≤100000 by omega) bZ
 refine tL (aB:=16) (b.eJ.aR j) rfl (by decide) e.1 e.2 fun c3 cR F k w=>?_
 refine tL (aB:=4) (d.eJ.aR k) rfl (by decide) s2.1 (jV (by omega) s2.2) fun eA eF G o x=>?_
 refine tK (w.eJ.aR o) rfl x.eJ rfl e.2 (jV (by omega) s2.2) fun bP bO H y z=>?_
 refine dB (16*(2+3*O)) (by omega) (by omega) ?_
 refine dB (4*(2+3*aC)) (by omega) (by omega) ?_
 refine dB (16*(2+3*O)+4*(2+3*aC)) (by omega) (by omega) ?_
 rw [Nat.mul_comm 16,Nat.mul_comm 4 (dT 239 aB aC - dU 239 aB aC)] at m
 refine Lk z.eJ rfl (by omega) (r2 f m.s0) fun a7 a9 I d6 J A B C=>?_
 have eK:=(((b3.trans j).trans k).trans o).trans y
 exact⟨eK.trans A,_,_,_,_,_,_,m,rfl,B.from eK.le,C.from eK.le⟩
theorem F1{p:Nat}(Z:U)(aZ:1≤p)(e:p < 4200):aY oY.id #[.int .i64 (p:Int)] Z fun v K=>bA Z K∧e2 Z K v (aK (dG p),0):=by
 refine oY.ok ?_
 unfold oY.t oY.aL.t
 refine b9 (fun a=>absurd a (by omega)) fun _=>?_
 refine b9 (fun a=>absurd a (by omega)) fun _=>?_
 unfold oY.a0.t
 refine⟨1,?_⟩
 unfold oY.cK.t oY.cE.t
 refine cO ((p+48:Nat):Int) (by omega) (by omega) (by omega) ?_
 refine F0 (by omega) fun bY a4 aJ aG e6 d1 aZ m b3 f b8=>?_
 have g:=r2 (show p+48≤4400 by omega) m.F2
 have h:=r2 (show p+48≤4400 by omega) m.s0
 refine BY (n:=48) rfl f.eJ rfl (by decide) g fun bJ bG l d b=>?_
 refine BY (n:=48) rfl (b8.eJ.aR d) rfl (by decide) h fun eM d2 o c e8=>?_
 refine qO (b.eJ.aR c) rfl e8.eJ rfl ?_
 obtain⟨i,j⟩:=Lm e m
 rw [show(2:Nat) ^ 48=281474976710656 by decide] at *
 rw [i] at b ⊢
 rw [j]
 refine eY (fun _=>?_) fun k=>absurd (by simp [fA]) k
 exact⟨(b3.trans d).trans c,e2.back (p:=(aK (dG p),0)) ((b.aR c).from b3.le) (show In .i64 0 by decide)⟩
theorem Ln{p:Nat}(Z:U)(aZ:1≤p)(i:p < 1500):aY pZ.id #[.int .i64 (p:Int)] Z fun v K=>bA Z K∧e2 Z K v (aK (p0 p),0):=by
 refine pZ.ok ?_
 unfold pZ.t pZ.aL.t
 refine b9 (fun a=>absurd a (by omega)) fun _=>?_
 refine b9 (fun a=>absurd a (by omega)) fun _=>?_
 unfold pZ.a0.t
 refine⟨1,?_⟩
 unfold pZ.cK.t pZ.cE.t
 refine cO ((p+48:Nat):Int) (by omega) (by omega) (by omega) ?_
 refine F0 (by omega) fun bY a4 aJ aG e6 d1 aZ m b3 j b8=>?_
 have k:=r2 (show p+48≤4400 by omega) m.F2
 have l:=r2 (show p+48≤4400 by omega) m.s0
 obtain⟨bI,n,o⟩:=Lo i m
 have q:a4 ≠ 0:=by have:=m.le;omega
 refine n2 (N:=1) (by decide) fun bJ bG w b r=>?_
 refine cO ((2*p:Nat):Int) (by omega) (by omega) (by omega) ?_
 refine cO ((2*p+48:Nat):Int) (by omega) (by omega) (by omega) ?_
 refine cO ((2*p+49:Nat):Int) (by omega) (by omega) (by omega) ?_
 have c:fE (1*2 ^ (2*p+49)):=by rw [Nat.one_mul];exact jJ (S:=2*p+50) (Nat.pow_lt_pow_right (by decide) (by omega)) (by omega)
 refine xI rfl r.eJ rfl (by omega) (oV (by decide)) c fun c3 cR x d g=>?_
 refine xJ g.eJ rfl ((b8.eJ.aR b).aR d) rfl q c l fun eA eF hA d4 y e h _=>?_
 refine xJ (g.eJ.aR e) rfl (((j.eJ.aR b).aR d).aR e) rfl bI c k fun bP bO z d5 A f s _=>?_
 refine qO (h.eJ.aR f) rfl s.eJ rfl ?_
 rw [Nat.one_mul,o] at *
 rw [n]
 refine eY (fun _=>?_) fun u=>absurd (by simp [fA]) u
 have eK:=(b3.trans b).trans d
 exact⟨(eK.trans e).trans f,e2.back (p:=(aK (p0 p),0)) ((h.aR f).from eK.le) (show In .i64 0 by decide)⟩
theorem p1{n:Nat}{O:Int}{Z:U}{aF:M→Nat→Nat→U→Prop}(a4:O=(n:Int))(d:n≤35184372088832)
  (g:∀ a c K,bA Z K→cV b6 Z K a c (D.aK (2 ^ n))→aF a (D.aK (2 ^ n)).length c K) :
  aY lL.id #[.int .i64 O] Z fun v K=>aQ v fun a l c=>aF a l c K:=by
 refine cA (c6:=fun v K=>bA Z K∧gO Z K v (2 ^ n)) ?_ fun v K ⟨S,aH⟩=>aH.elim fun a c r=>g a c K S r
 refine lL.ok ?_
 unfold lL.t lL.aL.t
 refine kO (N:=1) rfl (by decide) fun aJ aG aZ b3 e=>?_
 refine Fo a4 e.rd rfl d (lW (by decide)) fun bJ bG h f b=>?_
 rw [Nat.one_mul] at b ⊢
 exact⟨b3.trans f,bJ,bG,rfl,b.from b3.le⟩
theorem Lp{aB:Nat}{O:Int}{Z:U}{aF:M→Nat→Nat→U→Prop}(a4:O=(aB:Int))(d:aB < 9223372036854775808)
  (g:∀ a c K,bA Z K→cV b6 Z K a c (D.aK aB)→aF a (D.aK aB).length c K) :
  aY tV.id #[.int .i64 O] Z fun v K=>aQ v fun a l c=>aF a l c K:=by
 subst a4
 refine cA (c6:=fun v K=>bA Z K∧gO Z K v aB) ?_ fun v K ⟨S,aH⟩=>aH.elim fun a c r=>g a c K S r
 refine tV.ok ?_
 unfold tV.t tV.aL.t
 refine b9 (fun e=>by omega) fun _=>?_
 refine dB aB rfl (by omega) ?_
 exact kO rfl (by omega) fun aJ aG aZ b3 b=>⟨b3,aJ,aG,rfl,b⟩
theorem oA{n:Nat}:(D.aK n).length=0↔n=0:=by
 constructor
 ·intro Z
  have:=D.e1 n
  rw [List.length_eq_zero_iff.mp Z] at this
  exact this.symm
 ·rintro rfl;rw [D.eP];rfl
def F3(n aB:Nat)(Z:U)(v:Value)(K:U):Prop:=
 bA Z K∧∃ S a c,fB n aB S=0∧2*S≤aB+1∧(S=0∨fB n aB (S - 1) ≠ 0)∧v=.tuple #[.slice a (D.aK (dT n aB S - dU n aB S)).length c,.int .i64 (S:Int)]∧cV b6 Z K a c (D.aK (dT n aB S - dU n aB S))
theorem Lq{n aB:Nat}{aX:U}(H:2≤n)(V:n < 65536)(A:aB≤100000):
  ∀ (f aC:Nat) (a L c:M) (aV R g l m aN:Nat) (Z:U),f+aC=aB+2→2*aC≤aB+1→(aC=0∨fB n aB (aC - 1) ≠ 0)→bA aX Z→cH b6 Z a aV (D.aK (fB n aB aC))→l=(D.aK (fB n aB aC)).length→cH b6 Z L R (D.aK (dT n aB aC))→m=(D.aK (dT n aB aC)).length→
   cH b6 Z c g (D.aK (dU n aB aC))→aN=(D.aK (dU n aB aC)).length→l0.bL.t (F3 n aB aX) (f+1) (n:Int) a l aV L m R c aN g (aC:Int) ((2*aC+1:Nat):Int) Z:=by
 intro f
 induction f with
 | zero=>
  intro aC a L c aV R g l m aN Z I q;omega
 | succ f bU=>
  intro aC a L c aV R g l m aN Z I q i p r s aH u aE v
  unfold l0.bL.t l0.b7.t
  have B:=Ck n A q
  refine b9 (fun J=>?_) fun J=>?_
  ·have w:fB n aB aC ≠ 0:=fun P=>by have:=oA.mpr P;omega
   have Pt:=FY H w
   refine vS r s rfl (by omega) (by omega) fun aJ aG aZ b3 C=>?_
   refine⟨by decide,?_⟩
   refine a5.mk ?_
   have j:dT n aB (aC+1)=dT n aB aC+if aC % 2=0 then iA n aB aC else 0:=rfl
   have k:dU n aB (aC+1)=dU n aB aC+if aC % 2=0 then 0 else iA n aB aC:=rfl
   have E:fB n aB aC / n / n=fB n aB (aC+1):=by rw [xV,Nat.div_div_eq_div_mul]
   have F:fP (iA n aB aC):=rX (Nat.div_le_self _ _) (kW (Ci n aC A))
   refine eY (fun d=>?_) fun d=>?_
   ·have i:aC % 2=0:=by
     have:((2*aC+1:Nat):Int).tmod 4=1:=d
     rw [Int.tmod_eq_emod_of_nonneg (by omega)] at this;omega
    rw [if_pos i] at j k
    refine nG (N:=dT n aB aC) (aP:=iA n aB aC) (aH.aR b3) u C.rd rfl (kW B.1) F fun bJ bG G b e=>?_
    rw [← j] at e ⊢
    refine vS ((r.aR b3).aR b) s rfl (by omega) (by omega) fun c3 cR Q x y=>?_
    refine vS y.rd rfl rfl (by omega) (by omega) fun eA eF d z o=>?_
    rw [E] at o ⊢
    refine cO ((aC+1:Nat):Int) (by omega) (by omega) (by omega) ?_
    refine kJ (2*(aC+1)+1) (by omega) (by omega) ?_
    have h:=x.trans z
    exact bU (aC+1) _ _ _ _ _ _ _ _ _ d (by omega) (by omega) (Or.inr w) (p.trans (b3.trans (b.trans h))) o.rd rfl (e.rd.aR h) rfl (by rw [k];exact aE.aR (b3.trans (b.trans h))) (by rw [k];exact v)
   ·have i:¬ aC % 2=0:=by
     intro i
     refine d ?_
     show((2*aC+1:Nat):Int).tmod 4=1
     rw [Int.tmod_eq_emod_of_nonneg (by omega)];omega
    rw [if_neg i] at j k
    refine nG (N:=dU n aB aC) (aP:=iA n aB aC) (aE.aR b3) v C.rd rfl (kW B.2) F fun bJ bG G b e=>?_
    rw [← k] at e ⊢
    refine vS ((r.aR b3).aR b) s rfl (by omega) (by omega) fun c3 cR Q x y=>?_
    refine vS y.rd rfl rfl (by omega) (by omega) fun eA eF d z o=>?_
    rw [E] at o ⊢
    refine cO ((aC+1:Nat):Int) (by omega) (by omega) (by omega) ?_
    refine kJ (2*(aC+1)+1) (by omega) (by omega) ?_
    have h:=x.trans z
    exact bU (aC+1) _ _ _ _ _ _ _ _ _ d (by omega) (by omega) (Or.inr w) (p.trans (b3.trans (b.trans h))) o.rd rfl (by rw [j];exact aH.aR (b3.trans (b.trans h))) (by rw [j];exact u) (e.rd.aR h) rfl
  ·have T:fB n aB aC=0:=oA.mp (by omega)
   unfold l0.a0.t
   refine n3 aH u aE v fun bJ bG G b e=>?_
   exact⟨p.trans b,aC,bJ,bG,T,q,i,rfl,e.from p.le⟩
theorem Lr{n aB:Nat}{O aC:Int}(a4:O=(n:Int))(d:aC=(aB:Int))(Z:U)(e:2≤n)(f:n < 65536)(g:aB≤100000):aY l0.id #[.int .u32 O,.int .i64 aC] Z (F3 n aB Z):=by
 subst a4;subst d
 refine l0.ok ?_
 unfold l0.t l0.aL.t
 refine p1 rfl (by omega) fun bJ bG o h i=>?_
 refine vS i.rd rfl rfl (by omega) (by omega) fun c3 cR p j b=>?_
 refine kO (N:=0) rfl (by decide) fun eA eF q c k=>?_
 refine kO (N:=0) rfl (by decide) fun bP bO l a m=>?_
 unfold l0.bF.t
 have R:2 ^ aB / n=fB n aB 0:=(Cl n aB).symm
 rw [R] at b ⊢
 exact⟨aB+2+1,Lq e f g (aB+2) 0 _ _ _ _ _ _ _ _ _ l (by omega) (by omega) (Or.inl rfl) (h.trans (j.trans (c.trans a))) (b.rd.aR (c.trans a)) rfl (k.rd.aR a) rfl m.rd rfl⟩
theorem Cm{n aB:Nat}{O aC:Int}{Z:U}{aF:M→Nat→Nat→Int→U→Prop}(a4:O=(n:Int))(b:aC=(aB:Int))(d:2≤n)(e:n < 65536)(f:aB≤100000)
  (g:∀ S a c K,fB n aB S=0→2*S≤aB+1→(S=0∨fB n aB (S - 1) ≠ 0)→bA Z K→cV b6 Z K a c (D.aK (dT n aB S - dU n aB S))→aF a (D.aK (dT n aB S - dU n aB S)).length c (S:Int) K) :
  aY l0.id #[.int .u32 O,.int .i64 aC] Z fun v K=>cT v fun aP=>cQ aP fun h eH=>aQ h fun a l c=>cQ eH fun i j=>aW .i64 i fun N=>b5 j (aF a l c N K):=by
 refine cA (Lr a4 b Z d e f) fun v K ⟨b3,S,a,c,k,m,o,p,r⟩=>?_
 subst p
 exact gE rfl (cF (bE rfl (cF (bQ rfl (dR (g S a c K k m o b3 r))))))
theorem Cn{n aC aB t:Nat}(c:aB≤100000)(a:2*aC≤aB+1)(b:t < 64):fP (dT n aB aC - dU n aB aC)∧(D.aK ((dT n aB aC - dU n aB aC)*t)).length≤999999:=by
 have Z:=Cj n a
 have R:2 ^ (aB+aB+7)=2 ^ (aB+aB+1)*64:=by rw [show aB+aB+7=(aB+aB+1)+6 by omega,Nat.pow_add]
 refine⟨vQ (S:=aB+aB+1) (by omega) (by omega),xK (S:=aB+aB+7) (m:=999999) ?_ (by omega)⟩
 rw [R]
 exact Nat.mul_lt_mul'' (by omega) b
theorem Ls{N aP:Nat}(a:(D.aK N).length≤999999)(b:(D.aK aP).length≤999999):fP (N+aP):=D.zL a b
theorem Al{aE:Nat}{O:Int}{Z:U}{aF:M→Nat→Nat→U→Prop}(a4:O=(aE:Int))(B:aE < 4200)
  (g:∀ a c K,bA Z K→cV b6 Z K a c (D.aK (dG aE))→aF a (D.aK (dG aE)).length c K) :
  aY oB.id #[.int .i64 O] Z fun v K=>aQ v fun a l c=>aF a l c K:=by
 subst a4
 refine cA (c6:=fun v K=>bA Z K∧gO Z K v (dG aE)) ?_ fun v K ⟨S,aH⟩=>aH.elim fun a c r=>g a c K S r
 refine oB.ok ?_
 unfold oB.t oB.aL.t
 rw [if_neg (show ¬ (0:Int) > (aE:Int) by omega)]
 refine⟨1,?_⟩
 unfold oB.dA.t oB.bF.t
 have b:aE+64≤4400:=by omega
 refine cO ((aE+64:Nat):Int) (by omega) (by omega) (by omega) ?_
 refine Cm (n:=18) rfl rfl (by decide) (by decide) (by omega) fun O aJ aG aZ C aI lM b3 E=>?_
 refine cO ((aE+64:Nat):Int) (by omega) (by omega) (by omega) ?_
 refine Cm (n:=57) rfl rfl (by decide) (by decide) (by omega) fun aC bJ bG PE F bZ l1 p G=>?_
 refine cO ((aE+64:Nat):Int) (by omega) (by omega) (by omega) ?_
 refine Cm (n:=239) rfl rfl (by decide) (by decide) (by omega) fun S c3 cR PF H dV lN d I=>?_
 have J:=Ce b FT lM
 have P:=Ce b FU l1
 have Q:=Ce b Cg lN
 have m:=Le b C F H J P Q
 have d1:=Cn (n:=18) (aC:=O) (aB:=aE+64) (t:=48) (by omega) aI (by decide)
 have d2:=Cn (n:=57) (aC:=aC) (aB:=aE+64) (t:=32) (by omega) bZ (by decide)
 have d3:=Cn (n:=239) (aC:=S) (aB:=aE+64) (t:=20) (by omega) dV (by decide)
 rw [Nat.mul_comm 48 (dT 18 (aE+64) O - dU 18 (aE+64) O),Nat.mul_comm 32 (dT 57 (aE+64) aC - dU 57 (aE+64) aC),Nat.mul_comm 20 (dT 239 (aE+64) S - dU 239 (aE+64) S)] at m
 generalize dT 18 (aE+64) O - dU 18 (aE+64) O=T at *
 generalize dT 57 (aE+64) aC - dU 57 (aE+64) aC=bC at *
 generalize dT 239 (aE+64) S - dU 239 (aE+64) S=aO at *
 obtain⟨f1,f2⟩:=Lg B m
 have V:fP (T*48+bC*32):=Ls d1.2 d2.2
 refine Ae (E.rd.aR (p.trans d)) rfl (aB:=48) rfl (by decide) d1.1 fun eA eF PG e Pt=>?_
 refine Ae (G.rd.aR (d.trans e)) rfl (aB:=32) rfl (by decide) d2.1 fun bP bO PH f Pu=>?_
 refine nG (Pt.rd.aR f) rfl Pu.rd rfl (Nat.le_trans d1.2 (by decide)) (Nat.le_trans d2.2 (by decide)) fun a7 a9 PI q Pv=>?_
 refine Ae (I.rd.aR (e.trans (f.trans q))) rfl (aB:=20) rfl (by decide) d3.1 fun b0 b2 PJ s Pw=>?_
 refine n3 (Pv.rd.aR s) rfl Pw.rd rfl fun bR bT PK Px u=>?_
 refine cO ((O+2:Nat):Int) (by omega) (by omega) (by omega) ?_
 refine cO ((48*(O+2):Nat):Int) (by omega) (by omega) (by omega) ?_
 refine cO ((aC+2:Nat):Int) (by omega) (by omega) (by omega) ?_
 refine cO ((32*(aC+2):Nat):Int) (by omega) (by omega) (by omega) ?_
 refine cO ((48*(O+2)+32*(aC+2):Nat):Int) (by omega) (by omega) (by omega) ?_
 refine cO ((S+2:Nat):Int) (by omega) (by omega) (by omega) ?_
 refine cO ((20*(S+2):Nat):Int) (by omega) (by omega) (by omega) ?_
 refine cO ((48*(O+2)+32*(aC+2)+20*(S+2):Nat):Int) (by omega) (by omega) (by omega) ?_
 refine cO ((4*(48*(O+2)+32*(aC+2)+20*(S+2)):Nat):Int) (by omega) (by omega) (by omega) ?_
 have Py:4*(48*(O+2)+32*(aC+2)+20*(S+2)) < 9223372036854775808:=by omega
 generalize 4*(48*(O+2)+32*(aC+2)+20*(S+2))=PL at *
 refine Lp rfl Py fun PM PN PO h w=>?_
 refine n3 (u.rd.aR h) rfl w.rd rfl fun PQ PR fM i Pz=>?_
 refine Ac (n:=64) rfl Pz.rd rfl (by decide) fun PA PB PS x j=>?_
 have y:=h.trans (i.trans x)
 refine nG (u.rd.aR y) rfl (w.rd.aR (i.trans x)) rfl (rX (Nat.sub_le _ _) V) (lW (by omega)) fun PT PU PV k PC=>?_
 refine Ac (n:=64) rfl PC.rd rfl (by decide) fun PW PX PY o z=>?_
 rw [show(2:Nat) ^ 64=18446744073709551616 by decide] at *
 rw [f1] at j ⊢
 rw [f2] at z ⊢
 refine pT (j.rd.aR (k.trans o)) rfl z.rd rfl ?_
 refine eY (fun _=>?_) fun PD=>absurd (by simp [fA]) PD
 have A:=b3.trans (p.trans (d.trans (e.trans (f.trans (q.trans (s.trans Px))))))
 exact⟨A.trans (y.trans (k.trans o)),PA,PB,rfl,(j.aR (k.trans o)).from (A.trans (h.trans i)).le⟩
def jO:List Nat→Nat→Nat→Nat→Nat→Prop
 | [],_,_,_,_=>True
 | aE :: Q,a,L,c,aV=>(0 < L∧0 < aV∧a / L=aE∧c / aV=aE∧aE < 18446744073709551616)∧jO Q L (a % L) aV (c % aV)
theorem jO.pre:∀ {P Q:List Nat} {a L c aV:Nat},jO P a L c aV→jO Q a L c aV→P.length≤Q.length→P=Q.take P.length
 | [],Q,a,L,c,aV,_,_,_=>by simp
 | p :: P,[],a,L,c,aV,_,_,b=>by simp at b
 | p :: P,aE :: Q,a,L,c,aV,d,e,b=>by
  obtain⟨⟨_,_,aZ,_,_⟩,d⟩:=d
  obtain⟨⟨_,_,f,_,_⟩,e⟩:=e
  have g:p=aE:=aZ.symm.trans f
  have h:=jO.pre d e (by simpa using b)
  rw [List.length_cons,List.take_succ_cons,g,← h]
theorem jO.take:∀ {Q:List Nat} {a L c aV:Nat} (n:Nat),jO Q a L c aV→jO (Q.take n) a L c aV
 | [],a,L,c,aV,n,_=>by simp [jO]
 | aE :: Q,a,L,c,aV,0,_=>by simp [jO]
 | aE :: Q,a,L,c,aV,n+1,Z=>⟨Z.1,jO.take n Z.2⟩
def gM:List Nat→Nat × Nat→Nat × Nat
 | [],bI=>bI
 | aE :: Q,bI=>(aE*(gM Q bI).1+(gM Q bI).2,(gM Q bI).1)
theorem F4:∀ {Q:List Nat} {N aP:Nat},(∀ aE ∈ Q,1≤aE)→0 < aP→aP < N→0 < (gM Q (N,aP)).2∧(gM Q (N,aP)).2 < (gM Q (N,aP)).1
 | [],N,aP,_,aX,aZ=>⟨aX,aZ⟩
 | aE :: Q,N,aP,a,aX,aZ=>by
  obtain⟨d,e⟩:=F4 (Q:=Q) (fun r b=>a r (by simp [b])) aX aZ
  have c:=a aE (by simp)
  have f:(gM Q (N,aP)).1≤aE*(gM Q (N,aP)).1:=Nat.le_mul_of_pos_left _ c
  refine⟨?_,?_⟩
  ·show 0 < (gM Q (N,aP)).1;omega
  ·show(gM Q (N,aP)).1 < aE*(gM Q (N,aP)).1+(gM Q (N,aP)).2;omega
theorem Co{Q:List Nat}{aE N aP:Nat}(c:∀ r ∈ Q,1≤r)(aX:0 < aP)(aZ:aP < N):
  0 < (gM (aE :: Q) (N,aP)).2∧(gM (aE :: Q) (N,aP)).1 / (gM (aE :: Q) (N,aP)).2=aE∧(gM (aE :: Q) (N,aP)).1 % (gM (aE :: Q) (N,aP)).2=(gM Q (N,aP)).2∧(gM (aE :: Q) (N,aP)).2=(gM Q (N,aP)).1:=by
 obtain⟨d,a⟩:=F4 c aX aZ
 show 0 < (gM Q (N,aP)).1∧(aE*(gM Q (N,aP)).1+(gM Q (N,aP)).2) / (gM Q (N,aP)).1=aE∧(aE*(gM Q (N,aP)).1+(gM Q (N,aP)).2) % (gM Q (N,aP)).1=(gM Q (N,aP)).2∧_
 have b:0 < (gM Q (N,aP)).1:=by omega
 refine⟨b,?_,?_,rfl⟩
 ·rw [Nat.mul_comm,Nat.mul_add_div b,Nat.div_eq_of_lt a,Nat.add_zero]
 ·rw [Nat.mul_comm,Nat.mul_add_mod,Nat.mod_eq_of_lt a]
theorem F5:∀ {Q:List Nat} {N aP cU v:Nat},(∀ aE ∈ Q,1≤aE∧aE < 18446744073709551616)→0 < aP→aP < N→0 < v→v < cU→jO Q (gM Q (N,aP)).1 (gM Q (N,aP)).2 (gM Q (cU,v)).1 (gM Q (cU,v)).2
 | [],N,aP,cU,v,_,_,_,_,_=>trivial
 | aE :: Q,N,aP,cU,v,a,aX,aZ,c,d=>by
  have e:∀ r ∈ Q,1≤r:=fun r b=>(a r (by simp [b])).1
  obtain⟨aJ,bJ,c3,eA⟩:=Co (aE:=aE) e aX aZ
  obtain⟨e6,eM,gN,hA⟩:=Co (aE:=aE) e c d
  refine⟨⟨aJ,e6,bJ,eM,(a aE (by simp)).2⟩,?_⟩
  rw [c3,gN,eA,hA]
  exact F5 (fun r b=>a r (by simp [b])) aX aZ c d
theorem F6:∀ {Q:List Nat} {aE:Nat} {N aP:Nat},gM (Q ++ [aE]) (N,aP)=gM Q (aE*N+aP,N)
 | [],aE,N,aP=>rfl
 | p :: Q,aE,N,aP=>by
  show(p*(gM (Q ++ [aE]) (N,aP)).1+(gM (Q ++ [aE]) (N,aP)).2,(gM (Q ++ [aE]) (N,aP)).1)=_
  rw [F6];rfl
structure qV where
 P:Nat
 gT:Nat
 Y:Nat
 gZ:Nat
def qV.next(m:qV)(aE:Nat):qV:=⟨aE*m.P+m.gT,m.P,aE*m.Y+m.gZ,m.Y⟩
def Am:qV:=⟨1,0,0,1⟩
def jA(Q:List Nat):qV:=Q.foldl qV.next Am
theorem An(Q:List Nat)(aE:Nat):jA (Q ++ [aE])=(jA Q).next aE:=by simp [jA,List.foldl_append]
theorem Cp:∀ (S:Nat) (Q:List Nat),Q.length=S→∀ N aP,gM Q (N,aP)=((jA Q).P*N+(jA Q).gT*aP,(jA Q).Y*N+(jA Q).gZ*aP):=by
 intro S
 induction S with
 | zero=>intro Q Z N aP;have:Q=[]:=List.length_eq_zero_iff.mp Z;subst this;simp [gM,jA,Am]
 | succ S bU=>
  intro Q Z N aP
  have a:Q ≠ []:=fun R=>by subst R;simp at Z
  obtain⟨T,aE,rfl⟩:∃ T aE,Q=T ++ [aE]:=⟨Q.dropLast,Q.getLast a,(List.dropLast_concat_getLast a).symm⟩
  rw [F6,An,bU T (by simpa using Z)]
  simp only [qV.next,Nat.mul_add,Nat.add_mul]
  simp only [Nat.mul_assoc,Nat.mul_left_comm _ aE]
  congr 1 <;> omega
def eX:List Nat:=[1,1,1,3,31,1,145,1,4,2,8,1,6,1,2,3,1,4,1,5,1,41,1,2,3,7,1,1,1,27,1,1,1,2,1,2,1,1,2,1,1,49,2,1,4,3,6,2,1,3,3,17,1,3,2,1,6,3,1,6,26,3,1,1,3,4,3,2,14,11,1,4,1,1,5,2,8,8,2,80,1,1,22,2,11,2,1,5,1,1,1,5,12,2,1,2,1,1,6,21,1,10,2,2,1,4,4,2,2,1,2,2,1,12,1,10,17,1,84,1,2,3,1,1,1,7,15,1,8,4,1,1,3,4,1,1,116,1,8,1,19,9,1,5,9,2,1,1,1,3,61,3,1,1,1,1,7,2,1,3,1,3,1,2,7,1,5,6,1,6,1,1,1,26,7,1,1,1,13,1,21,1,1,2,1,9,1,4,10,3,2,1,1,1,5,1,2,1,10,1,59,1,2,3,1,1,48,1,7,2,1,1,1,3,2,8,2,1,2,10,1,2,3,1,19,1,2,1,1,1,1,1,63,28,2,1,7,6,1,1,3,19,4,11,2,3,1,1,3,1,14,7,5,1,2,1,1,4,1,1,3,1,4,1,1,1,2,1,1,6,1,5,1,10,4,1,3,3,2,23,1,1,16,1,1,1,97,8,2,2,10,1,3,1,1,1,1,1,2,1,7,2,2,5,2,1,1,9,1,3,2,1,1,1,1,873,4,2,1,5,4,12,2,7,3,22,2,7,3,1,10,2,12,4,1,12,1,2,31,1,5,48,2,8,2,1,2,10,1,2,1,4,1,1,1,1,1,4,1,3,2,117,2,1,6,2,3,1,4,3,1,32,1,1,1,1,3,1,3,2,5,3,1,1,4,2,4,3,4,1,9,1,1,1,7,2,1,2,6,1,4,1,1,49,2,1,1,1,1,4,1,1,2,24,1,1,1,1,43,2,70,3,2,31,1,1,1,1,21,1,9,10388,3,4,3,11,1,15,1,2,47,111,6,8,65,2,1,30,4,7,25,4,8,11,2,9,3,7,1,1,7,2,2,2,1,2,4,1,4,14,3,1,6,2,2,1,1,21,2,2,6,2,1,1,1,2,2,3,2,2,3,9,1,2,1,3,2,36,7,2,1,1,14,5,1,6,5,1,3,2,4,3,16,1,1,3,39,1,9,7,1,1,1,4,5,1,1,7,1,4,1,4,2,3,9,1,7,4,1,5,3,2,6,2,2,15,1,55,13,1,2,4,1,1,2,1,1,12,1,3,1,1,2,4,3,7,1,73,2,4,1,2,11,5,1,52,1,2,2,8,1,5,1,1,4,1,1,3,2,1,3,3,4,4,2,10,1,1,2,9,11,1,37,1,20,1,1,13,3,26,4,12,1,4,1,5,3,1,1,15,8,1,4,2,1,2,11,5,5,1,14,1,2,1,59,2,58,1,1,1,2,7,1,70,2,1,14,3,1,2,2,1,3,3,1,3,2,3,1,5,2,3,62,1,5,1,1,1,1,1,8,1,1,4,1,2,1,3,1,5,1,4,2,27,1,2,9,1,2,1,3,5,1,2,1,1,1,2,3,1,1,1,1,25,79,2,1,3,8,251,1,1,1,6,1,9,2,2,3,2,10,1,4,1,9,1,3,11,5,8,7,2,6,1,1,20,2,2,2,4,3,2,8,1,2,1,7,1,4,1,2,2,2,7,2,1,17,1,3,1,1,1,6,1,1,75,2,4,2,2,1,1,1,1,1,1,12,8,13,1,2,1,3,3,2,1,2,1,4,1,5,1,5,1,4,6,1,1,5,1,8,1,2,1,3,16,1,11,1,1,11,7,1,1,3,1,1,3,1,1,23,2,1,1,2,1,5,1,2,1,5,1,26,2,1,2,7,4,2,1,1,10,2,5,12,1,4,29,7,1,2,4,1,1,1,44,6,1,3,1,1,1,9,1,3,30,1,753,1,215,1,4,1,1,1,4,1,63,2,1,4,1,2,2,1,30,1,2,2,1,3,8,2,1,1,2,1,4,5,4,4,36,1,1,1,10,21,2,1,1,2,3,29,1,1,2,1,4,1,2,2,3,2,1,13,4,1,1,5,1,1,2,4,2,2,4,2,1,1,1,1,1,3,2,2,4,1,13,5,1,3,4,2,5,1,11,2,3,5,2,3,2,64,1,9,32,1,2,1,1,1,1,1,1,1,1,4,1,1,3,2,1,4,3,1,5,2,3,1,5,2,1,1,2,1,2,1,8,1,2]
def Ao(P gT Y gZ bY one:Nat):Prop:=∃ N aP,P*N+gT*aP=bY∧Y*N+gZ*aP=one∧0 < aP∧aP < N
noncomputable def r4(P gT Y gZ bY one:Nat):Bool:=
 force (Nat.add (Nat.sub (Nat.mul gZ bY) (Nat.mul gT one)) (Nat.sub (Nat.mul gT one) (Nat.mul gZ bY))) fun N=>
 force (Nat.add (Nat.sub (Nat.mul Y bY) (Nat.mul P one)) (Nat.sub (Nat.mul P one) (Nat.mul Y bY))) fun aP=>
  Nat.beq (Nat.add (Nat.mul P N) (Nat.mul gT aP)) bY && (Nat.beq (Nat.add (Nat.mul Y N) (Nat.mul gZ aP)) one && (Nat.blt 0 aP && Nat.blt aP N))
theorem F7{P gT Y gZ bY one:Nat}(Z:r4 P gT Y gZ bY one=true):Ao P gT Y gZ bY one:=by
 unfold r4 at Z
 rw [force_eq,force_eq] at Z
 simp only [Bool.and_eq_true,Nat.blt_eq] at Z
 exact⟨_,_,Nat.eq_of_beq_eq_true Z.1,Nat.eq_of_beq_eq_true Z.2.1,Z.2.2.1,Z.2.2.2⟩
noncomputable def xW:List Nat→Nat→Nat→Nat→Nat→Nat→Bool:=
 List.rec (fun _ _ _ _ _=>true) (fun aE _ bU p P gT Y gZ=>
  force (Nat.add (Nat.mul aE P) gT) fun a=>force (Nat.add (Nat.mul aE Y) gZ) fun bC=>force p fun p=>
  force (dG p) fun bY=>force (Nat.pow 2 (Nat.succ p)) fun one=>
   Nat.blt 0 aE && (Nat.blt aE 18446744073709551616 && (r4 a P bC Y bY one && (r4 a P bC Y (Nat.succ bY) one && bU (Nat.add p 4) a P bC Y))))
attribute [local irreducible] dG in
theorem Lt(aE:Nat)(Q:List Nat)(p P gT Y gZ:Nat):xW (aE :: Q) p P gT Y gZ=(Nat.blt 0 aE && (Nat.blt aE 18446744073709551616 && (r4 (aE*P+gT) P (aE*Y+gZ) Y (dG p) (2 ^ (p+1)) && (r4 (aE*P+gT) P (aE*Y+gZ) Y (dG p+1) (2 ^ (p+1)) && xW Q (p+4) (aE*P+gT) P (aE*Y+gZ) Y)))):=by
 show(force (aE*P+gT) fun a=>force (aE*Y+gZ) fun bC=>force p fun p=>force (dG p) fun bY=>force (Nat.pow 2 (p+1)) fun one=>
   Nat.blt 0 aE && (Nat.blt aE 18446744073709551616 && (r4 a P bC Y bY one && (r4 a P bC Y (bY+1) one && xW Q (p+4) a P bC Y))))=_
 simp only [force_eq];rfl
theorem xX:∀ (Q:List Nat) (T:List Nat) (p:Nat),xW Q p (jA T).P (jA T).gT (jA T).Y (jA T).gZ=true→∀ n,1≤n→n≤Q.length→(∀ aE ∈ Q.take n,1≤aE∧aE < 18446744073709551616)∧
   Ao (jA (T ++ Q.take n)).P (jA (T ++ Q.take n)).gT (jA (T ++ Q.take n)).Y (jA (T ++ Q.take n)).gZ (dG (p+4*(n - 1))) (2 ^ (p+4*(n - 1)+1))∧
   Ao (jA (T ++ Q.take n)).P (jA (T ++ Q.take n)).gT (jA (T ++ Q.take n)).Y (jA (T ++ Q.take n)).gZ (dG (p+4*(n - 1))+1) (2 ^ (p+4*(n - 1)+1))
 | [],T,p,_,n,aZ,b=>by simp at b;omega
 | aE :: Q,T,p,Z,n,aZ,b=>by
  rw [Lt] at Z
  simp only [Bool.and_eq_true,Nat.blt_eq] at Z
  obtain⟨aJ,bJ,c3,eA,bP⟩:=Z
  cases n with
  | zero=>omega
  | succ m=>
   cases m with
   | zero=>
    rw [show(aE :: Q).take (0+1)=[aE] from rfl,An]
    refine⟨fun r a=>?_,F7 c3,F7 eA⟩
    simp only [List.mem_singleton] at a;subst a;exact⟨aJ,bJ⟩
   | succ m=>
    have R:(jA (T ++ [aE]))=(jA T).next aE:=An T aE
    have bU:=xX Q (T ++ [aE]) (p+4) (by rw [R];exact bP) (m+1) (by omega) (by simpa using b)
    rw [show p+4+4*(m+1 - 1)=p+4*(m+1+1 - 1) by omega,List.append_assoc] at bU
    refine⟨fun r a=>?_,bU.2⟩
    rw [List.take_succ_cons,List.mem_cons] at a
    rcases a with rfl | a
    ·exact⟨aJ,bJ⟩
    ·exact bU.1 r a
theorem Ap:xW eX 68 1 0 0 1=true:=by kernel_rfl
theorem p2:eX.length=1000:=by kernel_rfl
theorem Lu{n:Nat}(aZ:1≤n)(b:n≤1000):jO (eX.take n) (dG (4*n+64)) (2 ^ (4*n+64+1)) (dG (4*n+64)+1) (2 ^ (4*n+64+1)):=by
 obtain⟨a,⟨N,aP,e6,eM,gN,hA⟩,⟨cU,v,aG,bG,cR,eF⟩⟩:=xX eX [] 68 Ap n aZ (by rw [p2];exact b)
 rw [show 68+4*(n - 1)=4*n+64 by omega] at e6 eM aG bG
 have bM:=F5 a gN hA cR eF
 rw [Cp _ _ rfl,Cp _ _ rfl] at bM
 simp only [List.nil_append] at e6 eM aG bG
 simp only at bM
 rw [e6,eM,aG,bG] at bM
 exact bM
theorem Lv{n:Nat}(aZ:1≤n)(a:n≤1000):∀ aE ∈ eX.take n,1≤aE∧aE < 18446744073709551616:=
 (xX eX [] 68 Ap n aZ (by rw [p2];exact a)).1
theorem F8{N aP aC S:Nat}(a:N < 2 ^ aC)(b:aP < 2 ^ S)(Z:aC+S≤524288):fE (N*aP):=
 jJ (S:=aC+S) (by rw [Nat.pow_add];exact Nat.mul_lt_mul'' a b) Z
theorem xY{t:Nat}(Z:t < 18446744073709551616):t < 2 ^ 64:=Z
def fN(N:Nat):Prop:=N < 2 ^ 400
theorem fN.g5{N:Nat}(Z:fN N):fE N:=jJ Z (by omega)
theorem fN.le{N aP:Nat}(Z:fN aP)(R:N≤aP):fN N:=Nat.lt_of_le_of_lt R Z
theorem fN.xZ{N t:Nat}(Z:fN N)(a:t < 18446744073709551616):fE (N*t):=F8 Z (xY a) (by omega)
section
variable {a L:M} {c aV l m N aP t n:Nat} {Z:U}
theorem x0{aF:M→Nat→Nat→U→Prop}(r:cG Z a c (aK N))(e:l=(aK N).length)(aH:cG Z L aV (aK aP))(f:m=(aK aP).length)(b:t < 18446744073709551616)(gW:fN N)(d:fN aP)
  (g:∀ a c K,bA Z K→cV dP Z K a c (aK (N - aP*t))→aF a (aK (N - aP*t)).length c K) :
  aY oZ.id #[.slice a l c,.slice L m aV,.int .u64 (t:Int)] Z fun v K=>aQ v fun a l c=>aF a l c K:=by
 refine cA (c6:=fun v K=>bA Z K∧∃ a c,v=.slice a (aK (N - aP*t)).length c∧cV dP Z K a c (aK (N - aP*t))) ?_ fun v K ⟨S,a,c,R,r⟩=>by subst R;exact g a c K S r
 refine oZ.ok ?_
 unfold oZ.t oZ.aL.t
 refine tL aH f b d.g5 (d.xZ b) fun aJ aG aZ b3 h=>?_
 refine tK (r.aR b3) e h.eJ rfl gW.g5 (d.xZ b) fun bJ bG k i j=>?_
 exact⟨b3.trans i,_,_,rfl,j.from b3.le⟩
theorem Lw{aE:Nat}(aX:aE ≠ 0)(aZ:aE < 18446744073709551616):aK aE=[aE]:=by
 rw [kE aX,show aE / 18446744073709551616=0 by omega,eP,Nat.mod_eq_of_lt aZ]
theorem Aq{aF:Int→U→Prop}(r:cG Z a c (aK N))(h:l=(aK N).length)(aH:cG Z L aV (aK aP))(i:m=(aK aP).length)(aX:aP ≠ 0)(w:n < 18446744073709551616)(gW:fN N)(j:fN aP)
  (g:∀ K,bA Z K→aF ((hB N aP n:Nat):Int) K) :
  aY o0.id #[.slice a l c,.slice L m aV,.int .u64 (n:Int)] Z fun v K=>aW .u64 v fun N=>aF N K:=by
 refine cA (c6:=fun v K=>bA Z K∧v=.int .u64 ((hB N aP n:Nat):Int)) ?_ fun v K ⟨S,R⟩=>by subst R;exact g K S
 refine o0.ok ?_
 unfold o0.t o0.aL.t
 refine xJ r h aH i aX gW.g5 j.g5 fun aJ aG e6 d1 aZ b3 k _=>?_
 have b:=k.eJ
 have o:hB N aP n=min (N / aP) n:=by unfold hB;rw [nL]
 rw [o]
 generalize N / aP=aE at *
 have f:(aK aE).length≤1↔aE < 18446744073709551616:=gR (S:=1)
 refine eY (fun R=>⟨b3,?_⟩) fun R=>?_
 ·have:aE=0:=pY.mp (by omega)
  rw [show min aE n=0 by omega];rfl
 refine b9 (fun p=>⟨b3,?_⟩) fun p=>?_
 ·have:¬ aE < 18446744073709551616:=fun d=>by have:=f.mpr d;omega
  rw [show min aE n=n by omega]
 have b8:aE < 18446744073709551616:=f.mp (by omega)
 have q:aE ≠ 0:=fun d=>by subst d;rw [eP] at R;exact R rfl
 have s:=Lw q b8
 rw [s] at b ⊢
 refine fX b (aC:=0) rfl rfl (by simp) ?_
 refine b9 (fun e=>⟨b3,?_⟩) fun e=>?_
 ·have u:aE > n:=by have:((aE:Nat):Int) > (n:Int):=e;omega
  rw [show min aE n=n by omega]
 ·unfold o0.a0.t
  refine fX b (aC:=0) rfl rfl (by simp) ⟨b3,?_⟩
  have u:¬ aE > n:=by have:¬ ((aE:Nat):Int) > (n:Int):=e;omega
  rw [show min aE n=aE by omega];rfl
theorem F9{aF:Int→U→Prop}{a:Nat}(aX:0 < a)(c:0 < t)(j:N≤n+1)(k:n < 18014398509481984)(l:a≤n+1)(m:t < 18446744073709551616)
  (g:aF ((lO N t a n:Nat):Int) Z) :
  aY qW.id #[.int .u64 (N:Int),.int .u64 (t:Int),.int .u64 (a:Int),.int .u64 (n:Int)] Z fun v K=>aW .u64 v fun N=>aF N K:=by
 refine cA (c6:=fun v K=>K=Z∧v=.int .u64 ((lO N t a n:Nat):Int)) ?_ fun v K ⟨d,R⟩=>by subst d;subst R;exact g
 refine qW.ok ?_
 unfold qW.t qW.aL.t
 have e:lO N t a n=min (N+t*a) (n+1):=by unfold lO;rw [nL]
 rw [e]
 have o:1*a≤t*a:=Nat.mul_le_mul_right _ c
 refine b9 (fun R=>?_) fun R=>?_
 ·refine dB (n+1) (by omega) (by omega) ⟨rfl,?_⟩
  rw [show min (N+t*a) (n+1)=n+1 by omega]
 have f:(if (1:Int) > (a:Int) then(1:Int) else(a:Int))=(a:Int):=by split <;> omega
 rw [f]
 refine⟨by omega,?_⟩
 have p:n / a≤n:=Nat.div_le_self _ _
 refine dB (n / a) (by rw [Int.tdiv_eq_ediv_of_nonneg (by omega),← Int.natCast_ediv]) (by omega) ?_
 refine dB (n / a+1) (by omega) (by omega) ?_
 have h:=Nat.lt_mul_div_succ n aX
 have q:=Nat.mul_div_le n a
 rw [Nat.mul_add,Nat.mul_one] at h
 refine b9 (fun i=>?_) fun i=>?_
 ·refine dB (n+1) (by omega) (by omega) ⟨rfl,?_⟩
  have b:(n / a+1)*a≤t*a:=Nat.mul_le_mul_right _ (by omega)
  rw [Nat.add_mul,Nat.one_mul,Nat.mul_comm] at b
  rw [show min (N+t*a) (n+1)=n+1 by omega]
 ·unfold qW.a0.t
  have b:t*a≤(n / a+1)*a:=Nat.mul_le_mul_right _ (by omega)
  rw [Nat.add_mul,Nat.one_mul,Nat.mul_comm (n / a)] at b
  refine dB (t*a) (by rw [Int.natCast_mul]) (by omega) ?_
  refine dB (N+t*a) (by omega) (by omega) ?_
  refine dB (n+1) (by omega) (by omega) ⟨rfl,?_⟩
  congr 1
  split <;> omega
end
theorem Ga{m n:Nat}:fA m n≤0↔m≤n:=by unfold fA;split <;> (try split) <;> omega
theorem p3{m n:Nat}:fA m n < 0↔m < n:=by unfold fA;split <;> (try split) <;> omega
theorem r5{cX:Type}{L:Bool}{a bC aO:cX}(Z:(bif L then a else bC)=aO)(R:L=true):a=aO:=by rw [R] at Z;exact Z
theorem Ar{cX:Type}{L:Bool}{a bC aO:cX}(Z:(bif L then a else bC)=aO)(R:¬ L=true):bC=aO:=by
 rw [Bool.not_eq_true] at R;rw [R] at Z;exact Z
abbrev vY:Type:=Nat→Nat→Nat→Nat→Nat→Nat→Option (Nat × Nat)
abbrev Gb:Type:=Int→M→Nat→Nat→Int→M→Nat→Nat→Int→M→Nat→Nat→Int→U→Prop
def lN(n:Nat)(bU:vY)(N O aV cJ r c9 bI:Nat):Option (Nat × Nat):=
 bif Nat.beq bI 0 then some (O,N) else bif Nat.beq (aV - r*bI) 0 || Nat.blt n (lO cJ bI c9 n) then some (O,N) else bU N O (aV - r*bI) (lO cJ bI c9 n) r c9
def l1(n:Nat)(bU:vY)(N O aV cJ r c9:Nat):Option (Nat × Nat):=
 bif Nat.beq r 0 || Nat.blt n c9 then some (O,N) else lN n bU N O aV cJ r c9 (mR (bif Nat.blt (r*hB (aV - N) r n) (aV - N) then hB (aV - N) r n+1 else hB (aV - N) r n) (hB aV r n))
def lM(n:Nat)(bU:vY)(N O aV cJ r c9:Nat):Option (Nat × Nat):=
 bif Nat.blt (n - 1) (O+cJ) || (Nat.beq N 0 || Nat.ble aV N) then some (O,N) else l1 n bU N O aV cJ (r - aV*hB r aV n) (bif Nat.beq (hB r aV n) 0 then c9 else lO c9 (hB r aV n) cJ n)
theorem Lx(n:Nat)(bU:vY)(N O aV cJ r c9:Nat):r6 n bU N O aV cJ r c9=lM n bU (N - aV*mR (hB N aV n) ((n - 1 - O) / cJ)) (O+mR (hB N aV n) ((n - 1 - O) / cJ)*cJ) aV cJ r c9:=by
 unfold r6
 simp only [Cq]
 rfl
def r7(Y:aD)(aX:U)(p:Nat × Nat):Prop:=∀ a c K,bA aX K→cG K a c (aK p.2)→Y (.tuple #[.int .u64 (p.1:Int),.slice a (aK p.2).length c]) K
theorem r7.now{Y:aD}{aX Z:U}{p:Nat × Nat}(b:r7 Y aX p){S aP:Nat}(R:some (S,aP)=some p){a:M}{c:Nat}(d:bA aX Z)(r:cG Z a c (aK aP)):Y (.tuple #[.int .u64 (S:Int),.slice a (aK aP).length c]) Z:=by
 have R:=Option.some.inj R
 subst R;exact b a c Z d r
def vZ(bX:Gb)(n:Nat)(aX:U)(p:Nat × Nat)(bU:vY):Prop:=
 ∀ (N O aV cJ r c9:Nat) (iM mS l2:M) (iN mT l3:Nat) (Z:U),bU N O aV cJ r c9=some p→bA aX Z→cG Z iM iN (aK N)→cG Z mS mT (aK aV)→cG Z l2 l3 (aK r)→fN N→fN aV→fN r→0 < aV→0 < cJ→0 < c9→cJ≤n→c9≤n→O < n→
   bX (n:Int) iM (aK N).length iN (O:Int) mS (aK aV).length mT (cJ:Int) l2 (aK r).length l3 (c9:Int) Z
section
variable {Y:aD} {bX:Gb} {n:Nat} {aX Z:U} {p:Nat × Nat} {bU:vY} {N O aV cJ r c9:Nat} {iM mS l2:M} {iN mT l3:Nat}
theorem Gc(k:n < 18014398509481984)(c:r7 Y aX p)(l:vZ bX n aX p bU){bI:Nat}(a:lN n bU N O aV cJ r c9 bI=some p)(B:bI≤n)(e:bA aX Z)(rx:cG Z iM iN (aK N))(rd:cG Z mS mT (aK aV))(f:cG Z l2 l3 (aK r))(m:fN N)(g:fN aV)(h:fN r)
  (gY:0 < cJ) (iH:0 < c9) (C:cJ≤n) (o:c9≤n) (a4:O < n) :
  jX.gK.t Y bX (n:Int) iM (aK N).length iN (O:Int) mS (aK aV).length mT (cJ:Int) l2 (aK r).length l3 (c9:Int) (bI:Int) Z:=by
 unfold lN at a
 unfold jX.gK.t
 refine eY (fun q=>c.now (r5 a (by rw [Nat.beq_eq];omega)) e rx) fun q=>?_
 replace a:=Ar a (by rw [Nat.beq_eq];omega)
 refine x0 rd rfl f rfl (by omega) g h fun bP bO s b u=>?_
 refine F9 iH (by omega) (by omega) k (by omega) (by omega) ?_
 have v:=g.le (Nat.sub_le aV (r*bI))
 have w:0 < lO cJ bI c9 n:=by unfold lO;rw [nL];omega
 have d:=e.trans b
 have x:=u.eJ
 generalize aV - r*bI=i at *
 generalize lO cJ bI c9 n=y at *
 unfold jX.iL.t
 refine eY (fun j=>c.now (r5 a (by simp only [Bool.or_eq_true,Nat.blt_eq,Nat.beq_eq];left;exact pY.mp (by omega))) d (rx.aR b)) fun j=>?_
 have d1:i ≠ 0:=fun z=>j (by rw [z,eP];rfl)
 refine b9 (fun A=>c.now (r5 a (by simp only [Bool.or_eq_true,Nat.blt_eq,Nat.beq_eq];right;omega)) d (rx.aR b)) fun A=>?_
 replace a:=Ar a (by simp only [Bool.or_eq_true,Nat.blt_eq,Nat.beq_eq];omega)
 exact l N O i y r c9 iM bP l2 iN bO l3 s a d (rx.aR b) x (f.aR b) m v h (by omega) w iH (by omega) o a4
theorem Gd(f:n < 18014398509481984)(g:r7 Y aX p)(h:vZ bX n aX p bU){aB:Nat}(b:lN n bU N O aV cJ r c9 (mR aB (hB aV r n))=some p)(q:aB≤n+1)(m:r ≠ 0)(i:bA aX Z)(rx:cG Z iM iN (aK N))(rd:cG Z mS mT (aK aV))(c:cG Z l2 l3 (aK r))(j:fN N)(d:fN aV)(e:fN r)
  (gY:0 < cJ) (iH:0 < c9) (k:cJ≤n) (l:c9≤n) (a4:O < n) :
  jX.eW.t Y bX (n:Int) iM (aK N).length iN (O:Int) mS (aK aV).length mT (cJ:Int) l2 (aK r).length l3 (c9:Int) (aB:Int) Z:=by
 unfold jX.eW.t
 refine Aq rd rfl c rfl m (by omega) d e fun s a=>?_
 have u:hB aV r n≤n:=by unfold hB;rw [nL];omega
 rw [nL] at b
 generalize hB aV r n=t at *
 refine b9 (fun o=>?_) fun o=>?_
 ·refine Gc f g h (bI:=t) (by rw [show min aB t=t by omega] at b;exact b) (by omega) (i.trans a) (rx.aR a) (rd.aR a) (c.aR a) j d e gY iH k l a4
 ·refine Gc f g h (bI:=aB) (by rw [show min aB t=aB by omega] at b;exact b) (by omega) (i.trans a) (rx.aR a) (rd.aR a) (c.aR a) j d e gY iH k l a4
theorem Ge(l:n < 18014398509481984)(c:r7 Y aX p)(m:vZ bX n aX p bU)(a:l1 n bU N O aV cJ r c9=some p)(d:bA aX Z)(rx:cG Z iM iN (aK N))(rd:cG Z mS mT (aK aV))(e:cG Z l2 l3 (aK r))(g:fN N)(f:fN aV)(b:fN r)
  (gY:0 < cJ) (iH:0 < c9) (o:cJ≤n) (a4:O < n) :
  jX.c8.t Y bX (n:Int) iM (aK N).length iN (O:Int) mS (aK aV).length mT (cJ:Int) l2 (aK r).length l3 (c9:Int) Z:=by
 unfold l1 at a
 unfold jX.c8.t
 refine eY (fun q=>c.now (r5 a (by simp only [Bool.or_eq_true,Nat.blt_eq,Nat.beq_eq];left;exact pY.mp (by omega))) d rx) fun q=>?_
 have h:r ≠ 0:=fun i=>q (by rw [i,eP];rfl)
 refine b9 (fun u=>c.now (r5 a (by simp only [Bool.or_eq_true,Nat.blt_eq,Nat.beq_eq];right;omega)) d rx) fun u=>?_
 replace a:=Ar a (by simp only [Bool.or_eq_true,Nat.blt_eq,Nat.beq_eq];omega)
 unfold jX.e0.t
 refine tK rd rfl rx rfl f.g5 g.g5 fun y z aZ b3 rg=>?_
 have w:=f.le (Nat.sub_le aV N)
 refine Aq rg.eJ rfl (e.aR b3) rfl h (by omega) w b fun A j=>?_
 have bW:hB (aV - N) r n≤n:=by unfold hB;rw [nL];omega
 generalize hB (aV - N) r n=v at *
 refine tL ((e.aR b3).aR j) rfl (by omega) b.g5 (b.xZ (by omega)) fun B C D s x=>?_
 refine qO x.eJ rfl ((rg.eJ.aR j).aR s) rfl ?_
 have eK:=(b3.trans j).trans s
 refine b9 (fun k=>?_) fun k=>?_
 ·refine dB (v+1) (by omega) (by omega) ?_
  have R:Nat.blt (r*v) (aV - N)=true:=by rw [Nat.blt_eq];exact p3.mp k
  rw [R] at a
  exact Gd l c m a (by omega) h (d.trans eK) (rx.aR eK) (rd.aR eK) (e.aR eK) g f b gY iH o (by omega) a4
 ·have R:Nat.blt (r*v) (aV - N)=false:=by
   rw [← Bool.not_eq_true,Nat.blt_eq];exact fun i=>k (p3.mpr i)
  rw [R] at a
  exact Gd l c m a (by omega) h (d.trans eK) (rx.aR eK) (rd.aR eK) (e.aR eK) g f b gY iH o (by omega) a4
theorem Gf(f:n < 18014398509481984)(b:r7 Y aX p)(j:vZ bX n aX p bU)(a:lM n bU N O aV cJ r c9=some p)(c:bA aX Z)(rx:cG Z iM iN (aK N))(rd:cG Z mS mT (aK aV))(g:cG Z l2 l3 (aK r))(k:fN N)(d:fN aV)(e:fN r)
  (d0:0 < aV) (gY:0 < cJ) (iH:0 < c9) (l:cJ≤n) (u:c9≤n) (a4:O < n) :
  jX.cE.t Y bX (n:Int) iM (aK N).length iN (O:Int) mS (aK aV).length mT (cJ:Int) l2 (aK r).length l3 (c9:Int) Z:=by
 unfold lM at a
 unfold jX.cE.t
 refine dB (O+cJ) (by omega) (by omega) ?_
 refine dB (n - 1) (by omega) (by omega) ?_
 refine b9 (fun R=>b.now (r5 a (by simp only [Bool.or_eq_true,Nat.blt_eq,Nat.beq_eq,Nat.ble_eq];left;omega)) c rx) fun R=>?_
 refine eY (fun m=>b.now (r5 a (by simp only [Bool.or_eq_true,Nat.blt_eq,Nat.beq_eq,Nat.ble_eq];right;left;exact pY.mp (by omega))) c rx) fun m=>?_
 refine qO rd rfl rx rfl ?_
 refine b9 (fun h=>b.now (r5 a (by simp only [Bool.or_eq_true,Nat.blt_eq,Nat.beq_eq,Nat.ble_eq];right;right;exact Ga.mp h)) c rx) fun h=>?_
 have iV:N ≠ 0:=fun i=>m (by rw [i,eP];rfl)
 have v:N < aV:=Nat.lt_of_not_le fun i=>h (Ga.mpr i)
 replace a:=Ar a (by simp only [Bool.or_eq_true,Nat.blt_eq,Nat.beq_eq,Nat.ble_eq];omega)
 unfold jX.b7.t
 refine Aq g rfl rd rfl (by omega) (by omega) e d fun aZ b3=>?_
 have hu:hB r aV n≤n:=by unfold hB;rw [nL];omega
 generalize hB r aV n=cU at *
 refine b9 (fun o=>?_) fun o=>?_
 ·refine x0 (g.aR b3) rfl (rd.aR b3) rfl (by omega) e d fun bJ bG w q s=>?_
  refine F9 gY (by omega) (by omega) f (by omega) (by omega) ?_
  have eK:=b3.trans q
  have:Nat.beq cU 0=false:=by rw [← Bool.not_eq_true,Nat.beq_eq];omega
  rw [this] at a
  exact Ge f b j a (c.trans eK) (rx.aR eK) (rd.aR eK) s.eJ k d (e.le (Nat.sub_le _ _)) gY (by show 0 < lO c9 cU cJ n;unfold lO;rw [nL];omega) l a4
 ·obtain rfl:cU=0:=by omega
  rw [Nat.mul_zero,Nat.sub_zero] at a
  exact Ge f b j a (c.trans b3) (rx.aR b3) (rd.aR b3) (g.aR b3) k d e gY iH l a4
theorem Ly(d:n < 18014398509481984)(e:r7 Y aX p)(f:vZ bX n aX p bU)(a:r6 n bU N O aV cJ r c9=some p)(g:bA aX Z)(rx:cG Z iM iN (aK N))(rd:cG Z mS mT (aK aV))(h:cG Z l2 l3 (aK r))(b:fN N)(c:fN aV)(i:fN r)
  (d0:0 < aV) (gY:0 < cJ) (iH:0 < c9) (j:cJ≤n) (k:c9≤n) (a4:O < n) :
  jX.bF.t Y bX (n:Int) iM (aK N).length iN (O:Int) mS (aK aV).length mT (cJ:Int) l2 (aK r).length l3 (c9:Int) Z:=by
 rw [Lx] at a
 unfold jX.bF.t
 refine Aq rx rfl rd rfl (by omega) (by omega) b c fun aZ b3=>?_
 refine dB (n - 1) (by omega) (by omega) ?_
 refine dB (n - 1 - O) (by omega) (by omega) ?_
 refine⟨by omega,?_⟩
 have s:(n - 1 - O) / cJ≤n - 1 - O:=Nat.div_le_self _ _
 refine dB ((n - 1 - O) / cJ) (by rw [Int.tdiv_eq_ediv_of_nonneg (by omega),← Int.natCast_ediv]) (by omega) ?_
 have l:(if (((n - 1 - O) / cJ:Nat):Int) < ((hB N aV n:Nat):Int) then(((n - 1 - O) / cJ:Nat):Int) else((hB N aV n:Nat):Int))=((mR (hB N aV n) ((n - 1 - O) / cJ):Nat):Int):=by
  rw [nL];split <;> omega
 rw [l]
 have t2:mR (hB N aV n) ((n - 1 - O) / cJ)*cJ≤n - 1 - O:=(Nat.le_div_iff_mul_le gY).mp (by rw [nL];omega)
 have t3:mR (hB N aV n) ((n - 1 - O) / cJ)≤n:=by rw [nL];omega
 generalize mR (hB N aV n) ((n - 1 - O) / cJ)=t at *
 refine b9 (fun m=>?_) fun m=>?_
 ·refine x0 (rx.aR b3) rfl (rd.aR b3) rfl (by omega) b c fun bJ bG u o q=>?_
  have eK:=b3.trans o
  refine dB (t*cJ) (by rw [Int.natCast_mul]) (by omega) ?_
  refine dB (O+t*cJ) (by omega) (by omega) ?_
  exact Gf d e f a (g.trans eK) q.eJ (rd.aR eK) (h.aR eK) (b.le (Nat.sub_le _ _)) c i d0 gY iH j k (by omega)
 ·obtain rfl:t=0:=by omega
  rw [Nat.mul_zero,Nat.sub_zero,Nat.zero_mul,Nat.add_zero] at a
  exact Gf d e f a (g.trans b3) (rx.aR b3) (rd.aR b3) (h.aR b3) b c i d0 gY iH j k a4
end
theorem Gg{Y:aD}{n:Nat}(b:n < 18014398509481984){aX:U}{p:Nat × Nat}(c:r7 Y aX p):∀ f,vZ (jX.dA.t Y f) n aX p (As n f)
 | 0=>fun _ _ _ _ _ _ _ _ _ _ _ _ _ a=>by cases a
 | f+1=>fun N O aV cJ r c9 iM mS l2 iN mT l3 Z a d rx rd e g h i d0 gY iH j k a4=>Ly b c (Gg b c f) a d rx rd e g h i d0 gY iH j k a4
theorem tW:2 ^ 320=b1:=by kernel_rfl
theorem v3{aC S:Nat}(Z:aC < S):2 ^ aC < 2 ^ S:=Nat.pow_lt_pow_right (by decide) Z
theorem Lz{m aC S:Nat}(R:2 ^ aC=m)(Z:aC < S):m < 2 ^ S:=by rw [← R];exact v3 Z
theorem Cr{S:Nat}(Z:320 < S):b1 < 2 ^ S:=Lz (aC:=320) tW Z
theorem LA(n:Nat):1*2 ^ n=2 ^ n:=Nat.one_mul _
theorem At{N t aC S:Nat}(a:N < 2 ^ aC)(b:t < 2 ^ S):N*t < 2 ^ (aC+S):=by rw [Nat.pow_add];exact Nat.mul_lt_mul'' a b
theorem Gh{aP S:Nat}(Z:aP < 2 ^ S):aP+1 < 2 ^ (S+1):=by rw [Nat.pow_succ];omega
theorem o1{N:Nat}(Z:N≤b1):fN N:=Nat.lt_of_le_of_lt Z (Cr (S:=400) (by decide))
theorem iB:0 < b1:=Nat.lt_of_lt_of_le (show 0 < 1 by decide) (Nat.le_of_ble_eq_true (by kernel_rfl))
theorem Au(N:Nat):hD N=if N=0 then 0 else b1 - N:=by
 unfold hD
 by_cases Z:N=0
 ·subst Z;rfl
 ·rw [if_neg Z]
  have:Nat.beq N 0=false:=by rw [← Bool.not_eq_true,Nat.beq_eq];exact Z
  rw [this];rfl
theorem qX{N:Nat}(Z:N < b1):hD N < b1:=by
 rw [Au];split <;> omega
section
variable {a L:M} {c aV l m N aP t n:Nat} {Z:U}
theorem Gi{aF:M→Nat→Nat→U→Prop}(g:∀ a c K,bA Z K→cV dP Z K a c (aK b1)→aF a (aK b1).length c K):
  aY r8.id #[] Z fun v K=>aQ v fun a l c=>aF a l c K:=by
 refine cA (c6:=fun v K=>bA Z K∧∃ a c,v=.slice a (aK b1).length c∧cV dP Z K a c (aK b1)) ?_ fun v K ⟨S,a,c,R,r⟩=>by subst R;exact g a c K S r
 refine r8.ok ?_
 unfold r8.t r8.aL.t
 refine n2 (N:=1) (by decide) fun aJ aG aZ b3 d=>?_
 have R:1*2 ^ 320=b1:=(LA 320).trans tW
 refine xI (n:=320) rfl d.eJ rfl (by decide) (oV (by decide)) (by rw [R];exact(o1 (Nat.le_refl _)).g5) fun bJ bG f e b=>?_
 rw [R] at b ⊢
 exact⟨b3.trans e,_,_,rfl,b.from b3.le⟩
theorem Gj{aF:M→Nat→Nat→U→Prop}(r:cG Z a c (aK N))(b:l=(aK N).length)(j:N < b1)(g:∀ a c K,bA Z K→cG K a c (aK (hD N))→aF a (aK (hD N)).length c K):
  aY r9.id #[.slice a l c] Z fun v K=>aQ v fun a l c=>aF a l c K:=by
 refine cA (c6:=fun v K=>bA Z K∧∃ a c,v=.slice a (aK (hD N)).length c∧cG K a c (aK (hD N))) ?_ fun v K ⟨S,a,c,R,r⟩=>by subst R;exact g a c K S r
 refine r9.ok ?_
 unfold r9.t r9.aL.t
 refine eY (fun R=>?_) fun R=>?_
 ·have:N=0:=pY.mp (by omega)
  subst this
  exact⟨bA.refl _,none,0,by show _=Value.slice none (aK 0).length 0;rw [eP];rfl,by show cG _ _ _ (aK 0);rw [eP];exact cG.nil _ _ _⟩
 ·have aS:N ≠ 0:=fun e=>R (by rw [b,e,eP];rfl)
  have f:b1 - N*1=hD N:=by rw [Au,if_neg aS,Nat.mul_one]
  refine Gi fun aJ aG aZ b3 h=>?_
  refine x0 (t:=1) h.eJ rfl (r.aR b3) b (by decide) (o1 (Nat.le_refl _)) (o1 (by omega)) fun bJ bG k i d=>?_
  rw [f] at d ⊢
  exact⟨b3.trans i,_,_,rfl,d.eJ⟩
theorem LB{aF:Int→M→Nat→Nat→U→Prop}{b at_ f:Nat}{p:Nat × Nat}(j:x1 b1 b at_ n f=some p)(r:cG Z a c (aK at_))(k:l=(aK at_).length)(aH:cG Z L aV (aK b))(o:m=(aK b).length)
  (bM:b < b1) (A:at_ < b1) (c0:0 < n) (q:n < 18014398509481984) (g:∀ a c K,bA Z K→cG K a c (aK p.2)→aF (p.1:Int) a (aK p.2).length c K) :
  aY jX.id #[.agg #[.slice a l c,.slice L m aV],.int .u64 (n:Int)] Z fun v K=>cT v fun aP=>cQ aP fun s eH=>aW .u64 s fun N=>cQ eH fun u w=>aQ u fun a l c=>b5 w (aF N a l c K):=by
 refine cA (c6:=fun v K=>bA Z K∧∃ a c,v=.tuple #[.int .u64 (p.1:Int),.slice a (aK p.2).length c]∧cG K a c (aK p.2)) ?_ fun v K ⟨S,a,c,R,r⟩=>by subst R;exact gE rfl (cF (bQ rfl (cF (bE rfl (dR (g a c K S r))))))
 have x:=Gk bM c0 j
 subst k;subst o
 refine jX.ok ?_
 unfold jX.t jX.aL.t
 refine eZ fun aZ e b3=>?_
 refine nX e (S:=0) rfl ?_
 refine Gi fun bJ bG B d y=>?_
 refine⟨d.pre,e.zQ 1,?_⟩
 refine nX (e.aR d) (S:=1) rfl ?_
 refine x0 (t:=1) y.eJ rfl ((aH.aR b3).aR d) rfl (by decide) (o1 (Nat.le_refl _)) (o1 (by omega)) fun c3 cR z h i=>?_
 refine⟨h.fV d.le,?_⟩
 refine nX ((e.aR d).aR h) (S:=1) rfl ?_
 have R:b1 - b*1=b1 - b:=by rw [Nat.mul_one]
 rw [R] at i ⊢
 have eK:=(b3.trans d).trans h
 exact⟨f,Gg q (aX:=Z) (p:=p) (fun a c K S r=>⟨S,a,c,rfl,r⟩) f at_ 0 (b1 - b) 1 b 1 _ _ _ _ _ _ z x eK (r.aR eK) i.eJ (aH.aR eK) (o1 (by omega)) (o1 (by omega)) (o1 (by omega)) (by omega) (by decide) (by decide) (by omega) (by omega) c0⟩
theorem Gl{aF:Int→M→Nat→Nat→U→Prop}{bY a4 f:Nat}{up:Bool}{p:Nat × Nat}(b:oC f N bY a4 up=some p)(r:cG Z a c (aK N))(E:l=(aK N).length)(F:N < 2 ^ 1400)
  (Pw:bY≤a4) (Px:a4 < 9007199254740992) (g:∀ a c K,bA Z K→cG K a c (aK p.2)→aF (p.1:Int) a (aK p.2).length c K) :
  aY p4.id #[.slice a l c,.int .u64 (bY:Int),.int .u64 (a4:Int),.bool up] Z fun v K=>cT v fun aP=>cQ aP fun G eH=>aW .u64 G fun N=>cQ eH fun H I=>aQ H fun a l c=>b5 I (aF N a l c K):=by
 refine cA (c6:=fun v K=>bA Z K∧∃ a c,v=.tuple #[.int .u64 (p.1:Int),.slice a (aK p.2).length c]∧cG K a c (aK p.2)) ?_ fun v K ⟨S,a,c,R,r⟩=>by subst R;exact gE rfl (cF (bQ rfl (cF (bE rfl (dR (g a c K S r))))))
 have gW:fE N:=jJ F (by omega)
 unfold oC at b
 simp only [k6,x2,Nat.mul_eq,Nat.sub_eq,Nat.succ_eq_add_one,Nat.add_eq] at b
 refine p4.ok ?_
 unfold p4.t p4.aL.t
 refine Fm (n:=320) rfl r E (by decide) gW fun aJ aG aZ b3 j=>?_
 rw [tW] at j ⊢
 have k:N % b1 < b1:=Nat.mod_lt _ iB
 refine tL j.eJ rfl (by omega) (o1 (by omega)).g5 ((o1 (by omega)).xZ (by omega)) fun bJ bG Py w J=>?_
 refine Fm (n:=320) rfl J.eJ rfl (by decide) ((o1 (by omega)).xZ (by omega)) fun c3 cR P x y=>?_
 rw [tW] at y ⊢
 have hN:N % b1*bY % b1 < b1:=Nat.mod_lt _ iB
 have b8:=(j.eJ.aR w).aR x
 have z:=y.eJ
 have eK:=(b3.trans w).trans x
 generalize N % b1*bY % b1=A at *
 generalize N % b1=B at *
 have two:∀ (e at_:Nat) (m o:M) (q s:Nat) (d:U),e=cond up (hD B) B→at_=cond up (hD A) A→bA Z d→cG d o s (aK at_)→cG d m q (aK e)→e < b1→at_ < b1→
   p4.a0.t (fun v K=>bA Z K∧∃ a c,v=.tuple #[.int .u64 (p.1:Int),.slice a (aK p.2).length c]∧cG K a c (aK p.2)) (bY:Int) (a4:Int) m (aK e).length q o (aK at_).length s d:=by
  intro e at_ m o q s d Q T h V Pt bM C
  rw [← Q,← T] at b
  unfold p4.a0.t
  refine dB (a4 - bY) (by omega) (by omega) ?_
  refine dB (a4 - bY+1) (by omega) (by omega) ?_
  split at b
  ·rename_i O v bW
   have Pu:=(x3 bM C (by omega) bW).1
   refine LB bW V rfl Pt rfl bM C (by omega) (by omega) fun bP bO D i u=>?_
   have b:=Option.some.inj b
   subst b
   have Pz:O < a4 - bY+1:=Pu
   refine dB (bY+O) (by show((bY:Int)+((O:Nat):Int))=_;omega) (by omega) ?_
   exact⟨h.trans i,bP,bO,rfl,u⟩
  ·cases b
 cases up with
 | true=>
  simp only [cond_true]
  refine Gj b8 rfl k fun eA eF d h Pv=>?_
  refine Gj (z.aR h) rfl hN fun bP bO D i u=>?_
  exact two _ _ _ _ _ _ D rfl rfl ((eK.trans h).trans i) u (Pv.aR i) (qX k) (qX hN)
 | false=>exact two _ _ _ _ _ _ P rfl rfl eK z b8 k hN
theorem Gm{aF:M→Nat→Nat→U→Prop}{up:Bool}(r:cG Z a c (aK N))(i:l=(aK N).length)(b:N < 2 ^ 1400)(d:t < 18446744073709551616)
  (g:∀ a c K,bA Z K→cV dP Z K a c (aK (iC N t up))→aF a (aK (iC N t up)).length c K) :
  aY sA.id #[.slice a l c,.int .u64 (t:Int),.bool up] Z fun v K=>aQ v fun a l c=>aF a l c K:=by
 refine cA (c6:=fun v K=>bA Z K∧∃ a c,v=.slice a (aK (iC N t up)).length c∧cV dP Z K a c (aK (iC N t up))) ?_ fun v K ⟨S,a,c,R,r⟩=>by subst R;exact g a c K S r
 refine sA.ok ?_
 unfold sA.t sA.aL.t
 have g5:fE (N*t):=F8 b (xY d) (by omega)
 refine tL r i d (jJ b (by omega)) g5 fun aJ aG aZ b3 j=>?_
 refine BY (n:=320) rfl j.eJ rfl (by decide) g5 fun bJ bG s e f=>?_
 rw [tW] at f ⊢
 have R:iC N t up=N*t / b1+cond up 1 0:=by unfold iC;rw [show Nat.mul t N=t*N from rfl,Nat.mul_comm];rfl
 rw [R]
 have k:N*t / b1≤N*t:=Nat.div_le_self _ _
 have m:fE (N*t / b1+1):=jJ (Gh (Nat.lt_of_le_of_lt k (At b (xY d)))) (by omega)
 cases up with
 | true=>
  simp only [cond_true]
  refine n2 (N:=1) (by decide) fun c3 cR u h o=>?_
  refine tJ (f.eJ.aR h) rfl o.eJ rfl m fun eA eF w p q=>?_
  exact⟨((b3.trans e).trans h).trans p,_,_,rfl,q.from ((b3.trans e).trans h).le⟩
 | false=>exact⟨b3.trans e,_,_,rfl,f.from b3.le⟩
structure v5(N bY a4 aN:Nat):Prop where
 l4:bY≤aN
 l5:aN≤a4+1
 under:∀ m,bY≤m→m < aN→m*N < b1
 nM:aN≤a4→b1≤aN*N
theorem v5.uniq{N bY a4 aN fO:Nat}(cU:v5 N bY a4 aN)(v:v5 N bY a4 fO):aN=fO:=by
 rcases Nat.lt_trichotomy aN fO with Z | Z | Z
 ·have:=cU.nM (by have:=v.l5;omega)
  have:=v.under aN cU.l4 Z;omega
 ·exact Z
 ·have:=v.nM (by have:=cU.l5;omega)
  have:=cU.under fO v.l4 Z;omega
theorem Av{N bY a4:Nat}(e:bY≤a4):v5 N bY a4 (oD N bY a4):=by
 unfold oD
 rw [qY,qY]
 simp only [Cs,Nat.mul_eq,Nat.sub_eq,Nat.succ_eq_add_one,Nat.add_eq]
 by_cases aZ:b1≤bY*N
 ·rw [if_pos aZ];exact⟨Nat.le_refl _,by omega,fun m a L=>by omega,fun _=>aZ⟩
 rw [if_neg aZ]
 by_cases b:b1≤a4*N
 ·rw [if_pos b]
  have aS:0 < N:=Nat.pos_of_ne_zero fun R=>by rw [R,Nat.mul_zero] at b;have:=iB;omega
  have f:(b1+N - 1) / N*N≤b1+N - 1:=Nat.div_mul_le_self _ _
  have d:=Nat.lt_mul_div_succ (b1+N - 1) aS
  rw [Nat.mul_add,Nat.mul_one,Nat.mul_comm] at d
  have mono:∀ a L,a≤L→a*N≤L*N:=fun a L Z=>Nat.mul_le_mul_right N Z
  refine⟨Nat.le_of_not_lt fun c=>?_,?_,fun m _ L=>?_,fun _=>by omega⟩
  ·have:=mono _ _ (show(b1+N - 1) / N+1≤bY by omega)
   rw [Nat.add_mul,Nat.one_mul] at this;omega
  ·refine Nat.le_of_not_lt fun c=>?_
   have:=mono _ _ (show a4+1+1≤(b1+N - 1) / N by omega)
   rw [Nat.add_mul,Nat.add_mul,Nat.one_mul] at this;omega
  ·have:=mono _ _ (show m+1≤(b1+N - 1) / N by omega)
   rw [Nat.add_mul,Nat.one_mul] at this;omega
 ·rw [if_neg b]
  refine⟨by omega,Nat.le_refl _,fun m _ L=>?_,fun c=>by omega⟩
  have:=Nat.mul_le_mul_right N (show m≤a4 by omega);omega
theorem LC{Y:aD}{bY a4:Nat}{aX:U}(k:N < 2 ^ 1400)(n:l=(aK N).length)(w:1≤bY)(j:bY≤a4)(x:a4 < 9007199254740992)(o:cG aX a c (aK N))(g:∀ K,bA aX K→Y (.int .u64 ((oD N bY a4:Nat):Int)) K):
  ∀ (S cU v:Nat) (Z:U),v+1≤cU+S→bY≤cU→cU≤v+1→v≤a4→(∀ m,bY≤m→m < cU→m*N < b1)→(∀ m,v < m→m≤a4→b1≤m*N)→bA aX Z→
   mU.cK.t Y (S+1) a l c (cU:Int) (v:Int) Z:=by
 intro S
 induction S with
 | zero=>
  intro cU v Z p hu q bW f h e
  obtain rfl:cU=v+1:=by omega
  unfold mU.cK.t mU.cE.t
  refine b9 (fun R=>absurd R (by omega)) fun _=>?_
  unfold mU.a0.t
  have:v+1=oD N bY a4:=v5.uniq ⟨hu,by omega,f,fun d=>h (v+1) (by omega) d⟩ (Av j)
  rw [this];exact g Z e
 | succ S bU=>
  intro cU v Z p hu q bW f h e
  unfold mU.cK.t mU.cE.t
  refine b9 (fun R=>?_) fun R=>?_
  ·refine dB (v - cU) (by omega) (by omega) ?_
   refine⟨by decide,?_⟩
   refine dB ((v - cU) / 2) (by rw [Int.tdiv_eq_ediv_of_nonneg (by omega)];omega) (by omega) ?_
   refine dB (cU+(v - cU) / 2) (by omega) (by omega) ?_
   have y:cU≤cU+(v - cU) / 2:=by omega
   have z:cU+(v - cU) / 2≤v:=by omega
   have A:(v - cU) / 2+(v - cU) / 2≤v - cU:=by omega
   generalize cU+(v - cU) / 2=b at *
   refine Gm (o.aR e) n k (by omega) fun aJ aG aZ b3 B=>?_
   have r:iC N b false=b*N / b1:=rfl
   rw [r]
   refine b9 (fun i=>?_) fun i=>?_
   ·have:b*N / b1 ≠ 0:=fun d=>by rw [d,eP] at i;exact absurd i (by decide)
    have C:b1≤b*N:=Nat.le_of_not_lt fun d=>this (Nat.div_eq_of_lt d)
    refine dB (b - 1) (by omega) (by omega) ?_
    refine bU cU (b - 1) aZ (by omega) hu (by omega) (by omega) f (fun m s u=>?_) (e.trans b3)
    have:=Nat.mul_le_mul_right N (show b≤m by omega);omega
   ·have:b*N / b1=0:=pY.mp (by omega)
    have D:b*N < b1:=by
     refine Nat.lt_of_not_le fun d=>?_
     have:=Nat.div_pos d iB;omega
    refine dB (b+1) (by omega) (by omega) ?_
    refine bU (b+1) v aZ (by omega) (by omega) (by omega) bW (fun m s u=>?_) h (e.trans b3)
    have:=Nat.mul_le_mul_right N (show m≤b by omega);omega
  ·unfold mU.a0.t
   obtain rfl:cU=v+1:=by omega
   have:v+1=oD N bY a4:=v5.uniq ⟨hu,by omega,f,fun d=>h (v+1) (by omega) d⟩ (Av j)
   rw [this];exact g Z e
theorem LD{aF:Int→U→Prop}{bY a4:Nat}(r:cG Z a c (aK N))(b:l=(aK N).length)(d:N < 2 ^ 1400)(e:1≤bY)(f:bY≤a4)(h:a4 < 9007199254740992)(g:∀ K,bA Z K→aF ((oD N bY a4:Nat):Int) K):
  aY mU.id #[.slice a l c,.int .u64 (bY:Int),.int .u64 (a4:Int)] Z fun v K=>aW .u64 v fun N=>aF N K:=by
 refine cA (c6:=fun v K=>bA Z K∧v=.int .u64 ((oD N bY a4:Nat):Int)) ?_ fun v K ⟨S,R⟩=>by subst R;exact g K S
 refine mU.ok ?_
 unfold mU.t mU.aL.t
 exact⟨a4+1 - bY+1,LC d b e f h r (fun K S=>⟨S,rfl⟩) (a4+1 - bY) bY a4 Z (by omega) (Nat.le_refl _) (by omega) (Nat.le_refl _) (fun m aZ i=>by omega) (fun m aZ i=>by omega) (bA.refl _)⟩
def e4(N aP:Nat):Nat:=if N < aP then aP - N else N - aP
theorem Gn{aF:M→Nat→Nat→U→Prop}(r:cG Z a c (aK N))(b:l=(aK N).length)(aH:cG Z L aV (aK aP))(d:m=(aK aP).length)(gW:fE N)(h:fE aP)
  (g:∀ a c K,bA Z K→cG K a c (aK (e4 N aP))→aF a (aK (e4 N aP)).length c K) :
  aY p5.id #[.slice a l c,.slice L m aV] Z fun v K=>aQ v fun a l c=>aF a l c K:=by
 refine cA (c6:=fun v K=>bA Z K∧∃ a c,v=.slice a (aK (e4 N aP)).length c∧cG K a c (aK (e4 N aP))) ?_ fun v K ⟨S,a,c,R,r⟩=>by subst R;exact g a c K S r
 refine p5.ok ?_
 unfold p5.t p5.aL.t
 refine qO r b aH d ?_
 refine b9 (fun R=>?_) fun R=>?_
 ·have e:e4 N aP=aP - N:=if_pos (p3.mp R)
  unfold p5.a0.t
  refine tK aH d r b h gW fun aJ aG aZ b3 f=>?_
  rw [e]
  exact⟨b3,aJ,aG,rfl,f.eJ⟩
 ·have e:e4 N aP=N - aP:=if_neg fun i=>R (p3.mpr i)
  unfold p5.a0.t
  refine tK r b aH d gW h fun aJ aG aZ b3 f=>?_
  rw [e]
  exact⟨b3,aJ,aG,rfl,f.eJ⟩
theorem LF{aF:M→Nat→Nat→Int→U→Prop}(r:cG Z a c (aK N))(b:l=(aK N).length)(aH:cG Z L aV (aK aP))(d:m=(aK aP).length)(gW:fE N)(e:fE aP)(g5:fE (N*aP))
  (g:∀ a c K,bA Z K→cV dP Z K a c (aK (N*aP))→aF a (aK (N*aP)).length c 0 K) :
  aY qQ.id #[.slice a l c,.slice L m aV] Z fun v K=>cT v fun aP=>cQ aP fun f eH=>aQ f fun a l c=>cQ eH fun h i=>aW .i64 h fun N=>b5 i (aF a l c N K):=by
 refine cA (Kt r aH b d) fun v K ⟨S,t⟩=>?_
 have R:vT (aK N) (aK aP)=(aK (N*aP),0):=by unfold vT;rw [if_pos ⟨nF gW,nF e⟩,e1,e1,tI g5]
 rw [R] at t
 exact t.h9 fun a c r O=>g a c K S r
end
theorem sB(n:Nat):Nat.pow 2 n=2 ^ n:=rfl
theorem LG{N aP aC:Nat}(a:N < 2 ^ aC)(b:aP < 2 ^ aC):N+aP < 2 ^ (aC+1):=by rw [Nat.pow_succ];omega
theorem Gp{aB n:Nat}(Z:n=4400 - aB):Nat.div hI (Nat.pow 2 n)=dG aB:=by subst Z;rfl
theorem LH{n:Nat}(Z:n ≠ 0):eB n=Nat.log2 n+1:=if_neg Z
theorem Gq{a L:Nat}(Z:Nat.xor a L < Nat.land a L):a ≠ 0∧L ≠ 0∧eB a=eB L:=by
 have aZ:Nat.land a L≤a:=Nat.and_le_left
 have c:Nat.land a L≤L:=Nat.and_le_right
 have b:a ≠ 0:=by omega
 have d:L ≠ 0:=by omega
 refine⟨b,d,?_⟩
 have key:∀ a L:Nat,a ≠ 0→Nat.land a L≤L→Nat.xor a L < Nat.land a L→¬ eB L < eB a:=by
  intro a L b c Z e
  have f:L < 2 ^ Nat.log2 a:=h8.mp (by rw [LH b] at e;omega)
  have g:a.testBit (Nat.log2 a)=true:=Nat.testBit_log2 b
  have h:L.testBit (Nat.log2 a)=false:=Nat.testBit_lt_two_pow f
  have i:(a ^^^ L).testBit (Nat.log2 a)=true:=by rw [Nat.testBit_xor,g,h];rfl
  have:=Nat.ge_two_pow_of_testBit i
  have R:Nat.xor a L=a ^^^ L:=rfl
  omega
 have b3:=key a L b c Z
 have j:=key L a d (by have R:Nat.land L a=Nat.land a L:=Nat.and_comm L a;omega) (by
  have R:Nat.land L a=Nat.land a L:=Nat.and_comm L a
  have k:Nat.xor L a=Nat.xor a L:=Nat.xor_comm L a
  omega)
 omega
theorem Gr{cU v a L:Nat}(Z:Aw cU v a L=true):a ≠ 0∧L ≠ 0∧eB a=eB L∧2 ^ cU≤a∧a≤2 ^ v:=by
 unfold Aw at Z
 rw [k6,k6,qY,qY,sB,sB] at Z
 split at Z
 ·rename_i aZ
  split at Z
  ·rename_i b
   obtain⟨N,aP,bI⟩:=Gq aZ
   exact⟨N,aP,bI,b,Nat.le_of_ble_eq_true Z⟩
  ·cases Z
 ·cases Z
structure Told(aB N S:Nat):Prop where
 side:S*dG aB+S < N∨N < S*dG aB
 bits:eB (e4 N (S*dG aB))=eB (e4 N (S*dG aB+S))
 low:2 ^ 1201≤e4 N (S*dG aB)
 high:e4 N (S*dG aB)≤2 ^ 1470
 c0:e4 N (S*dG aB) ≠ 0
 dY:e4 N (S*dG aB+S) ≠ 0
theorem Gs{n aB N S:Nat}(e:n=4400 - aB)(Z:x4 n N S=true):Told aB N S:=by
 unfold x4 at Z
 rw [k6,k6,Gp e,qY,qY] at Z
 simp only [Nat.mul_eq,Nat.add_eq,Nat.sub_eq,Nat.succ_eq_add_one] at Z
 split at Z
 ·rename_i aZ
  obtain⟨a,L,c,aV,R⟩:=Gr Z
  have b:e4 N (S*dG aB)=N - S*dG aB:=if_neg (by omega)
  have d:e4 N (S*dG aB+S)=N - (S*dG aB+S):=if_neg (by omega)
  rw [← b] at a c aV R
  rw [← d] at L c
  exact⟨Or.inl aZ,c,aV,R,a,L⟩
 ·split at Z
  ·rename_i aZ f
   obtain⟨a,L,c,aV,R⟩:=Gr Z
   have b:e4 N (S*dG aB)=S*dG aB - N:=if_pos (by omega)
   have d:e4 N (S*dG aB+S)=S*dG aB+S - N:=if_pos (by omega)
   rw [← b] at a c aV R
   rw [← d] at L c
   exact⟨Or.inr f,c,aV,R,a,L⟩
  ·cases Z
def nN(aB N S:Nat):Int:=((aB+2:Nat):Int) - (eB (e4 N (S*dG aB)):Int)
section
variable {a:M} {c l S m R:Nat} {Z:U}
theorem LI{aF:Int→U→Prop}(r:cG Z a c (aK S))(w:l=(aK S).length)(k:m < 18446744073709551616)(Pw:R < 2000)(n:S < 2 ^ 2000)(C:Told 1400 (m*2 ^ (R+1337)) S)
  (g:∀ K,bA Z K→aF (nN 1400 (m*2 ^ (R+1337)) S) K) :
  aY qZ.id #[.int .u64 (m:Int),.int .i64 ((R:Int) - 64),.slice a l c] Z fun v K=>aW .i64 v fun N=>aF N K:=by
 refine cA (c6:=fun v K=>bA Z K∧v=.int .i64 (nN 1400 (m*2 ^ (R+1337)) S)) ?_ fun v K ⟨S,R⟩=>by subst R;exact g K S
 have x:dG 1400 < 2 ^ 4403:=Nat.lt_of_le_of_lt (show dG 1400≤hI from Nat.div_le_self _ _) (Nat.le_of_ble_eq_true (by kernel_rfl))
 have D:fE S:=jJ n (by omega)
 obtain⟨i,Px,o,E⟩:∃ i,i≤7000∧S*dG 1400 < 2 ^ i∧2000 < i:=⟨2000+4403,by omega,At n x,by omega⟩
 have y:fE (S*dG 1400+S):=jJ (LG o (Nat.lt_trans n (v3 (aC:=2000) E))) (by omega)
 have gW:m*2 ^ (R+1337) < 2 ^ (64+(R+1338)):=At (xY k) (v3 (by omega))
 have q:fE (m*2 ^ (R+1337)):=jJ gW (by omega)
 obtain⟨F,G,Py,H,I,J⟩:=C
 have Q:=F1 Z (p:=1400) (by decide) (by decide)
 unfold nN
 clear g
 generalize dG 1400=P at *
 refine qZ.ok ?_
 unfold qZ.t qZ.aL.t
 refine⟨1,?_⟩
 unfold qZ.dA.t qZ.bF.t
 refine cA Q fun v aZ ⟨b3,T⟩=>?_
 refine T.elim fun aJ aG V=>?_
 refine LF (r.aR b3) w V rfl D (jJ x (by omega)) (jJ o (by omega)) fun bJ bG Pz z s=>?_
 refine tJ s.eJ rfl ((r.aR b3).aR z) w y fun c3 cR PA u A=>?_
 refine n2 k fun eA eF PB f Pt=>?_
 refine cO ((R:Int)+1336) (by omega) (by omega) (by omega) ?_
 refine cO ((R+1337:Nat):Int) (by omega) (by omega) (by omega) ?_
 refine xI rfl Pt.eJ rfl (by omega) (oV k) q fun bP bO PC h j=>?_
 refine Gn j.eJ rfl (((s.eJ.aR u).aR f).aR h) rfl q (jJ o (by omega)) fun a7 a9 PD d B=>?_
 refine Gn (j.eJ.aR d) rfl (((A.eJ.aR f).aR h).aR d) rfl q y fun b0 b2 PE e Pu=>?_
 have c0:(aK (e4 (m*2 ^ (R+1337)) (S*P))).length ≠ 0:=fun b=>I (pY.mp b)
 have dY:(aK (e4 (m*2 ^ (R+1337)) (S*P+S))).length ≠ 0:=fun b=>J (pY.mp b)
 refine b9 (fun _=>?_) fun b=>absurd (by omega) b
 refine b9 (fun _=>?_) fun b=>absurd (by omega) b
 refine BZ (B.aR e) rfl ?_
 refine BZ Pu rfl ?_
 rw [← G]
 refine eY (fun _=>?_) fun b=>absurd rfl b
 refine qO ((j.eJ.aR d).aR e) rfl ((((s.eJ.aR u).aR f).aR h).aR d |>.aR e) rfl ?_
 refine qO ((j.eJ.aR d).aR e) rfl ((((A.eJ.aR f).aR h).aR d).aR e) rfl ?_
 have Pv:fA (m*2 ^ (R+1337)) (S*P)=fA (m*2 ^ (R+1337)) (S*P+S):=by
  unfold fA
  rcases F with aH | aH
  ·rw [if_neg (by omega),if_neg (by omega),if_neg (by omega),if_neg (by omega)]
  ·rw [if_pos (by omega),if_pos (by omega)]
 rw [Pv]
 refine eY (fun _=>?_) fun b=>absurd rfl b
 refine cO 1402 (by decide) (by decide) (by decide) ?_
 refine BZ (B.aR e) rfl ?_
 have PF:eB (e4 (m*2 ^ (R+1337)) (S*P))≤1471:=h8.mpr (Nat.lt_of_le_of_lt H (v3 (aC:=1470) (S:=1471) (by decide)))
 refine cO (1402 - (eB (e4 (m*2 ^ (R+1337)) (S*P)):Int)) rfl (by omega) (by omega) ⟨?_,rfl⟩
 exact(((((b3.trans z).trans u).trans f).trans h).trans d).trans e
end
theorem tX:∀ L:Nat,L < 54→h4 .u64 1 (L:Int)=((2 ^ L:Nat):Int):=by decide
theorem Ct{R:Nat}(a:R < 1036):eQ R=p0 (R+256):=by
 unfold eQ p0
 rw [show 4400 - (R+256)=Nat.sub 4144 R by show _=4144 - R;omega];rfl
theorem Gt{p:Nat}(a:p≤4400):p0 p < 2 ^ p:=by
 unfold p0
 rw [Nat.div_lt_iff_lt_mul (Nat.pow_pos (by decide)),← Nat.pow_add,show p+(4400 - p)=4400 by omega]
 exact Nat.le_of_ble_eq_true (by kernel_rfl)
theorem Gu{R:Nat}(a:R < 1036):eQ R < 2 ^ 1400:=Nat.lt_trans (by rw [Ct a];exact Gt (p:=R+256) (by omega)) (v3 (aC:=R+256) (S:=1400) (by omega))
theorem Ax{f a bY a4:Nat}{up:Bool}{p:Nat × Nat}(b:oC f a bY a4 up=some p)(d:bY≤a4):bY≤p.1∧p.1≤a4:=by
 unfold oC at b
 simp only [k6,x2,Nat.mul_eq,Nat.sub_eq,Nat.succ_eq_add_one,Nat.add_eq] at b
 split at b
 ·rename_i O v bW
  have bM:cond up (hD (a % b1)) (a % b1) < b1:=by
   cases up
   ·exact Nat.mod_lt _ iB
   ·exact qX (Nat.mod_lt _ iB)
  have c:cond up (hD (a % b1*bY % b1)) (a % b1*bY % b1) < b1:=by
   cases up
   ·exact Nat.mod_lt _ iB
   ·exact qX (Nat.mod_lt _ iB)
  have aZ:=(x3 bM c (by omega) bW).1
  have b:=Option.some.inj b
  subst b
  have e:O < a4 - bY+1:=aZ
  exact⟨by show bY≤bY+O;omega,by show bY+O≤a4;omega⟩
 ·cases b
section
variable {Z:U} {L R:Nat}
def Cu(Z:U)(m S N:Nat)(v:Value)(K:U):Prop:=
 bA Z K∧∃ a c,v=.tuple #[.agg #[.int .u64 (m:Int),.slice a (aK S).length c,.int .i64 (nN 1400 N S)],.int .i64 0]∧cV dP Z K a c (aK S)
theorem Cv{a:M}{c m aE:Nat}{up:Bool}{aX Z:U}{bV:List Value}(g:bA aX Z)(p:aX.size≤aE)(aN:eC Z aE bV)(q:bV.length=3)(s:R < 1036)(r:cG Z a c (aK (eQ R)))(d:m < 18446744073709551616)
  (u:Told 1400 (m*2 ^ (R+1337)) (iC (eQ R) m up)) :
  jY.bF.t (Cu aX m (iC (eQ R) m up) (m*2 ^ (R+1337))) ((R:Int) - 64) ⟨aE,0,none⟩ a (aK (eQ R)).length c (m:Int) up Z:=by
 have h:eQ R < 2 ^ 1400:=Gu s
 have v:iC (eQ R) m up < 2 ^ 2000:=by
  have aZ:=At (xY d) h
  have i:m*eQ R / b1≤m*eQ R:=Nat.div_le_self _ _
  obtain⟨b,w,j⟩:∃ b,b < 2000∧m*eQ R / b1+1 < 2 ^ b:=⟨64+1400+1,by decide,Gh (Nat.lt_of_le_of_lt i aZ)⟩
  have k:iC (eQ R) m up≤m*eQ R / b1+1:=by unfold iC;cases up <;> simp only [Nat.add_eq,Cs,Nat.mul_eq,cond_true,cond_false] <;> omega
  exact Nat.lt_of_le_of_lt k (Nat.lt_trans j (v3 (aC:=b) (S:=2000) w))
 unfold Cu
 unfold jY.bF.t
 refine Gm r rfl h d fun aJ aG aZ b3 n=>?_
 refine LI n.eJ rfl d (by omega) v u fun i e=>?_
 have x:=aN.lt
 generalize iC (eQ R) m up=S at *
 generalize nN 1400 (m*2 ^ (R+1337)) S=D at *
 match bV,q with
 | [E,F,G],_=>
  refine j4 ((aN.aR b3).aR e) (S:=0) (by simp) fun j y z=>?_
  refine j4 y (S:=1) (by simp) fun k A B=>?_
  refine j4 A (S:=2) (by simp) fun H f C=>?_
  refine e3 f (S:=0) (t:=.u64) (N:=(m:Int)) (by simp) ?_
  refine nX f (S:=1) (a:=aJ) (l:=(aK S).length) (c:=aG) (by simp) ?_
  refine e3 f (S:=2) (t:=.i64) (N:=D) (by simp) ?_
  have o:=(z.trans B).trans C
  exact⟨cD.aR ((g.trans b3).trans e) o p,aJ,aG,rfl,((n.aR e).cL x o).from g.le⟩
theorem Gw{f a bY a4 m:Nat}{up:Bool}(Z:q0 f a bY a4=some (m,up)):
  ∃ b N,oC f a bY a4 true=some (b,N)∧((oD a bY a4≤a4∧∃ c aP,oC f a (oD a bY a4) a4 false=some (c,aP)∧((N≤aP∧m=b∧up=true)∨(aP < N∧m=c∧up=false)))∨(¬ oD a bY a4≤a4∧m=b∧up=true)):=by
 unfold q0 at Z
 split at Z
 ·cases Z
 ·rename_i b N aZ
  rw [k6,qY] at Z
  refine⟨b,N,aZ,?_⟩
  split at Z
  ·rename_i d
   left
   refine⟨d,?_⟩
   split at Z
   ·cases Z
   ·rename_i c aP e
    refine⟨c,aP,e,?_⟩
    rw [qY] at Z
    split at Z
    ·have Z:=Option.some.inj Z;cases Z;exact Or.inl ⟨by assumption,rfl,rfl⟩
    ·have Z:=Option.some.inj Z;cases Z;exact Or.inr ⟨by omega,rfl,rfl⟩
  ·right
   have Z:=Option.some.inj Z;cases Z
   exact⟨by assumption,rfl,rfl⟩
theorem oE{L:Nat}(a:L < 53):1≤2 ^ L∧2 ^ L≤4503599627370496∧2 ^ (L+1)=2 ^ L+2 ^ L:=by
 refine⟨Nat.pow_pos (by decide),?_,by rw [Nat.pow_succ];omega⟩
 exact Nat.le_trans (Nat.pow_le_pow_right (by decide) (show L≤52 by omega)) (by decide)
theorem Gx(Z:U)(A:L < 53)(h:R < 1036){m:Nat}{up:Bool}(B:q0 80 (eQ R) (2 ^ L) (2 ^ (L+1) - 1)=some (m,up))(n:Told 1400 (m*2 ^ (R+1337)) (iC (eQ R) m up)):
  aY jY.id #[.int .i64 ((L+1:Nat):Int),.int .i64 ((R:Int) - 64)] Z (Cu Z m (iC (eQ R) m up) (m*2 ^ (R+1337))):=by
 obtain⟨e6,eM,gN⟩:=oE A
 obtain⟨J,N,aZ,o⟩:=Gw B
 have C:=Ct h
 have q:=Gu h
 refine jY.ok ?_
 unfold jY.t jY.aL.t
 refine eZ fun i D E=>?_
 refine b9 (fun b=>absurd b (by omega)) fun _=>?_
 refine b9 (fun b=>absurd b (by omega)) fun _=>?_
 refine b9 (fun b=>absurd b (by omega)) fun _=>?_
 refine b9 (fun b=>absurd b (by omega)) fun _=>?_
 unfold jY.a0.t
 have X:aY tY.id #[.int .i64 ((R:Int) - 64)] i fun v K=>bA i K∧e2 i K v (aK (eQ R),0):=by
  refine tY.ok ?_
  unfold tY.t tY.aL.t
  refine cO ((R+256:Nat):Int) (by omega) (by omega) (by omega) ?_
  refine cA (Ln i (by omega) (by omega)) fun v F ⟨j,k⟩=>?_
  rw [← C] at k
  exact k.h9 fun a c r O=>⟨j,e2.back (p:=(aK (eQ R),0)) r O⟩
 refine cA X fun v F ⟨j,k⟩=>?_
 refine k.elim fun c3 cR g=>?_
 refine jK (fun b=>absurd rfl b) fun _=>?_
 refine cO (L:Int) (by omega) (by omega) (by omega) ?_
 refine⟨by omega,a5.mk ?_⟩
 rw [tX L (by omega)]
 refine⟨by omega,a5.mk ?_⟩
 rw [tX (L+1) (by omega)]
 refine dB (2 ^ (L+1) - 1) (by omega) (by omega) ?_
 have l:2 ^ L≤2 ^ (L+1) - 1:=by omega
 have b:2 ^ (L+1) - 1 < 9007199254740992:=by omega
 generalize 2 ^ (L+1) - 1=a4 at *
 generalize 2 ^ L=bY at *
 have x:=Ax aZ l
 refine Gl aZ g rfl q l b fun eA eF P d G=>?_
 refine LD (g.aR d) rfl q e6 l b fun Q e=>?_
 have T:=Av (N:=eQ R) l
 have s:=((E.trans j).trans d).trans e
 have u:=((D.aR j).aR d).aR e
 rcases o with ⟨w,V,aP,y,o⟩ | ⟨w,rfl,rfl⟩
 ·refine b9 (fun _=>?_) fun b=>absurd (by omega) b
  have H:=Ax y w
  refine Gl y ((g.aR d).aR e) rfl q w b fun a7 a9 Pt f I=>?_
  refine qO I rfl ((G.aR e).aR f) rfl ?_
  rcases o with ⟨z,rfl,rfl⟩ | ⟨z,rfl,rfl⟩
  ·refine b9 (fun b=>absurd (p3.mp b) (by show ¬ aP < N;omega)) fun _=>?_
   exact Cv (s.trans f) (Nat.le_refl _) (u.aR f) rfl h (((g.aR d).aR e).aR f) (by have:m≤a4:=x.2;omega) n
  ·refine b9 (fun _=>?_) fun b=>absurd (p3.mpr (show aP < N from z)) b
   exact Cv (s.trans f) (Nat.le_refl _) (u.aR f) rfl h (((g.aR d).aR e).aR f) (by have:m≤a4:=H.2;omega) n
 ·refine b9 (fun b=>absurd b (by omega)) fun _=>?_
  exact Cv s (Nat.le_refl _) u rfl h ((g.aR d).aR e) (by have:m≤a4:=x.2;omega) n
end
theorem Cw{aP:Nat}(Z:aP < b1):∃ c,aP+hD aP=b1*c:=by
 rw [Au]
 by_cases aX:aP=0
 ·rw [if_pos aX];exact⟨0,by omega⟩
 ·rw [if_neg aX];exact⟨1,by omega⟩
theorem Cx(a bY O:Nat):((hD (a % b1*bY % b1)+O*hD (a % b1)) % b1+(bY+O)*a) % b1=0:=by
 rw [Nat.mod_add_mod]
 obtain⟨aG,aZ⟩:=Cw (Nat.mod_lt a iB)
 obtain⟨bG,e⟩:=Cw (Nat.mod_lt (a % b1*bY) iB)
 have b:=Nat.div_add_mod a b1
 have f:=Nat.div_add_mod (a % b1*bY) b1
 generalize hD (a % b1*bY % b1)=cU at *
 generalize hD (a % b1)=v at *
 generalize a % b1*bY % b1=aB at *
 generalize a % b1*bY / b1=b8 at *
 generalize bM:a % b1=aH at *
 have R:cU+O*v+(bY+O)*a=b1*(bG+b8+O*aG+(bY+O)*(a / b1)):=by
  have g:(bY+O)*a=(bY+O)*(b1*(a / b1))+bY*aH+O*aH:=by
   conv=>lhs;rw [← b]
   rw [Nat.mul_add,Nat.add_mul bY O aH];omega
  have h:O*aH+O*v=O*(b1*aG):=by rw [← Nat.mul_add,aZ]
  have c:(bY+O)*(b1*(a / b1))=b1*((bY+O)*(a / b1)):=Nat.mul_left_comm _ _ _
  have d:O*(b1*aG)=b1*(O*aG):=Nat.mul_left_comm _ _ _
  have i:aH*bY=bY*aH:=Nat.mul_comm _ _
  rw [Nat.mul_add,Nat.mul_add,Nat.mul_add,← c,← d]
  omega
 rw [R,Nat.mul_mod_right]
theorem Cy(a bY O:Nat):(a % b1*bY % b1+O*(a % b1)) % b1=((bY+O)*a) % b1:=by
 have b:=Nat.div_add_mod a b1
 rw [Nat.mod_add_mod]
 have R:(bY+O)*a=a % b1*bY+O*(a % b1)+b1*((bY+O)*(a / b1)):=by
  have c:(bY+O)*(b1*(a / b1))=b1*((bY+O)*(a / b1)):=Nat.mul_left_comm _ _ _
  have d:a % b1*bY=bY*(a % b1):=Nat.mul_comm _ _
  rw [← c,d,← Nat.add_mul]
  conv=>lhs;rw [← b]
  rw [Nat.mul_add];omega
 rw [R,Nat.add_mul_mod_self_left]
theorem Ay{cN a2 aP S:Nat}(b:a2 < cN)(Z:(a2+aP) % cN=0)(c:aP < S*cN):a2+aP≤S*cN:=by
 have aZ:=Nat.div_add_mod (a2+aP) cN
 rw [Z,Nat.add_zero] at aZ
 by_cases a:(a2+aP) / cN≤S
 ·have:=Nat.mul_le_mul_left cN a
  rw [Nat.mul_comm cN S] at this;omega
 ·have:=Nat.mul_le_mul_left cN (show S+1≤(a2+aP) / cN by omega)
  rw [Nat.mul_add,Nat.mul_one,Nat.mul_comm cN S] at this;omega
theorem LJ{cN a2 aP:Nat}(a:a2 < cN)(Z:(a2+aP) % cN=0)(d:aP % cN ≠ 0):a2+aP=(aP / cN+1)*cN:=by
 have e:=Nat.div_add_mod aP cN
 have f:=Nat.mod_lt aP (show 0 < cN by omega)
 have g:a2+aP≤(aP / cN+1)*cN:=Ay a Z (by rw [Nat.add_mul,Nat.one_mul,Nat.mul_comm];omega)
 have aZ:=Nat.div_add_mod (a2+aP) cN
 rw [Z,Nat.add_zero] at aZ
 have b:aP / cN < (a2+aP) / cN:=by
  refine Nat.lt_of_not_le fun c=>?_
  have:=Nat.mul_le_mul_left cN c;omega
 have:=Nat.mul_le_mul_left cN (show aP / cN+1≤(a2+aP) / cN from b)
 rw [Nat.mul_comm cN (aP / cN+1)] at this;omega
theorem Cz{cN aP S:Nat}(a:0 < cN)(Z:S*cN≤aP):S*cN+aP % cN≤aP:=by
 have b:=Nat.div_add_mod aP cN
 have:=Nat.mul_le_mul_left cN ((Nat.le_div_iff_mul_le a).mpr Z)
 rw [Nat.mul_comm cN S] at this;omega
theorem LK{f a bY a4 m N:Nat}(b:oC f a bY a4 true=some (m,N))(g:bY≤a4):
  N < b1∧(N+m*a) % b1=0∧∀ dX,bY≤dX→dX≤a4→∀ cS,dX*a < cS*b1→N+dX*a≤cS*b1:=by
 unfold oC at b
 simp only [k6,x2,Nat.mul_eq,Nat.sub_eq,Nat.succ_eq_add_one,Nat.add_eq,cond_true] at b
 split at b
 ·rename_i O v bW
  obtain⟨aZ,c,d⟩:=x3 (qX (Nat.mod_lt _ iB)) (qX (Nat.mod_lt _ iB)) (by omega) bW
  have b:=Option.some.inj b
  cases b
  simp only at aZ c d
  refine⟨by rw [← c];exact Nat.mod_lt _ iB,by rw [← c];exact Cx a bY O,fun dX h i cS e=>?_⟩
  obtain⟨aC,rfl⟩:∃ aC,dX=bY+aC:=⟨dX - bY,by omega⟩
  have j:=d aC (by omega)
  have k:=Ay (Nat.mod_lt _ iB) (Cx a bY aC) e
  omega
 ·cases b
theorem LL{f a bY a4 m aP:Nat}(b:oC f a bY a4 false=some (m,aP))(h:bY≤a4):
  aP=(m*a) % b1∧∀ dX,bY≤dX→dX≤a4→∀ cS,cS*b1≤dX*a→cS*b1+aP≤dX*a:=by
 unfold oC at b
 simp only [k6,x2,Nat.mul_eq,Nat.sub_eq,Nat.succ_eq_add_one,Nat.add_eq,cond_false] at b
 split at b
 ·rename_i O v bW
  obtain⟨aZ,c,d⟩:=x3 (Nat.mod_lt _ iB) (Nat.mod_lt _ iB) (by omega) bW
  have b:=Option.some.inj b
  cases b
  simp only at aZ c d
  refine⟨by rw [← c];exact Cy a bY O,fun dX i j cS e=>?_⟩
  obtain⟨aC,rfl⟩:∃ aC,dX=bY+aC:=⟨dX - bY,by omega⟩
  have g:=d aC (by omega)
  rw [Cy] at g
  have k:=Cz iB e
  omega
 ·cases b
def Sep(a c6:Nat):Prop:=∀ aC aF,0 < aC→aC < 18014398509481984→(aC*a < aF*b1→aC*a+c6≤aF*b1)∧(aF*b1≤aC*a→aF*b1+c6≤aC*a)
theorem Gy{aH:Nat}(bM:aH < b1)(Z:v7 aH=true):∀ aC,0 < aC→aC < 18014398509481984→2 ^ 150≤(aC*aH) % b1:=by
 unfold v7 at Z
 split at Z
 ·cases Z
 ·rename_i O v bW
  obtain⟨_,_,b⟩:=x3 bM bM (by decide) bW
  have c:2 ^ 150≤v:=Nat.le_of_ble_eq_true Z
  intro aC aX aZ
  have a:=b (aC - 1) (by omega)
  have R:aH+(aC - 1)*aH=aC*aH:=by
   conv=>rhs;rw [show aC=aC - 1+1 by omega]
   rw [Nat.add_mul,Nat.one_mul];omega
  rw [R] at a
  exact Nat.le_trans c a
theorem LM{a:Nat}(aZ:v7 (a % b1)=true)(g:v7 (hD (a % b1))=true):Sep a (2 ^ 150):=by
 intro aC aF d e
 have h:=Gy (Nat.mod_lt a iB) aZ aC d e
 have l:=Gy (qX (Nat.mod_lt a iB)) g aC d e
 have f:(aC*(a % b1)) % b1=(aC*a) % b1:=Nat.mul_mod_mod aC a b1
 rw [f] at h
 obtain⟨c,i⟩:=Cw (Nat.mod_lt a iB)
 have j:((aC*hD (a % b1)) % b1+aC*a) % b1=0:=by
  rw [Nat.mod_add_mod,Nat.add_mod,← f,← Nat.add_mod,← Nat.mul_add,Nat.add_comm,i,Nat.mul_left_comm,Nat.mul_mod_right]
 have k:=Nat.mod_lt (aC*hD (a % b1)) iB
 generalize 2 ^ 150=c6 at *
 refine⟨fun b=>?_,fun b=>?_⟩
 ·have:=Ay k j b;omega
 ·have:=Cz iB b;omega
structure sC(a bY a4 m S aV:Nat):Prop where
 l4:bY≤m
 l5:m≤a4
 b3:1≤S
 eq:aV+m*a=S*b1∨S*b1+aV=m*a
 le:∀ dX cS,bY≤dX→dX≤a4→1≤cS→(dX*a < cS*b1→aV+dX*a≤cS*b1)∧(cS*b1≤dX*a→cS*b1+aV≤dX*a)
theorem v8(a m:Nat):iC a m true=m*a / b1+1:=rfl
theorem Gz(a m:Nat):iC a m false=m*a / b1:=rfl
theorem LN{f a bY a4 m c6:Nat}{up:Bool}(w:q0 f a bY a4=some (m,up))(k:bY≤a4)(F:1≤bY)(G:a4 < 9007199254740992)(H:0 < c6)(sep:Sep a c6):
  ∃ aV,sC a bY a4 m (iC a m up) aV∧(up=true→aV+m*a=iC a m up*b1)∧(up=false→iC a m up*b1+aV=m*a):=by
 obtain⟨g,N,aZ,l⟩:=Gw w
 have p:=Ax aZ k
 obtain⟨eE,x,n⟩:=LK aZ k
 have h:=Av (N:=a) k
 have q:bY≤g:=p.1
 have r:g≤a4:=p.2
 have y:(g*a) % b1 ≠ 0:=by
  intro I
  have o:=Nat.div_add_mod (g*a) b1
  have:=(sep g (g*a / b1) (by omega) (by omega)).2 (by rw [Nat.mul_comm];omega)
  rw [Nat.mul_comm] at this;omega
 have i:=LJ eE x y
 rcases l with ⟨j,s,aP,o,l⟩ | ⟨j,rfl,rfl⟩
 ·have t:=Ax o j
  have z:oD a bY a4≤s:=t.1
  have A:s≤a4:=t.2
  obtain⟨B,C⟩:=LL o j
  have u:∀ dX cS,bY≤dX→dX≤a4→1≤cS→cS*b1≤dX*a→cS*b1+aP≤dX*a:=by
   intro dX cS c d e b
   refine C dX (Nat.le_of_not_lt fun D=>?_) d cS b
   have:=h.under dX c D
   have:=Nat.mul_le_mul_right b1 e;omega
  rcases l with ⟨E,rfl,rfl⟩ | ⟨E,rfl,rfl⟩
  ·refine⟨N,⟨q,r,by rw [v8];exact Nat.le_add_left 1 _,Or.inl (by rw [v8];exact i),fun dX cS c d e=>⟨fun b=>n dX c d cS b,fun b=>?_⟩⟩,fun _=>by rw [v8];exact i,fun b=>(by cases b)⟩
   have:=u dX cS c d e b;omega
  ·have e:1≤iC a m false:=by
    rw [Gz]
    have:=h.nM j
    have:=Nat.mul_le_mul_right a z
    exact Nat.div_pos (by omega) iB
   have v:iC a m false*b1+aP=m*a:=by
    rw [Gz,B,Nat.mul_comm];exact Nat.div_add_mod _ _
   refine⟨aP,⟨by have:=h.l4;omega,A,e,Or.inr v,fun dX cS c d e=>⟨fun b=>?_,fun b=>u dX cS c d e b⟩⟩,fun b=>(by cases b),fun _=>v⟩
   have:=n dX c d cS b;omega
 ·refine⟨N,⟨q,r,by rw [v8];exact Nat.le_add_left 1 _,Or.inl (by rw [v8];exact i),fun dX cS c d e=>⟨fun b=>n dX c d cS b,fun b=>?_⟩⟩,fun _=>by rw [v8];exact i,fun b=>(by cases b)⟩
  have:=h.under dX c (by have:=h.l5;omega)
  have:=Nat.mul_le_mul_right b1 e;omega
theorem sC.sD{a bY a4 m S aV c6:Nat}(L:sC a bY a4 m S aV)(o:1≤bY)(p:a4 < 9007199254740992)(q:0 < c6)(sep:Sep a c6){dX cS:Nat}(h:bY≤dX)(i:dX≤a4)(j:1≤cS)(k:dX ≠ m):
  (dX*a < cS*b1→aV+c6+dX*a≤cS*b1)∧(cS*b1≤dX*a→cS*b1+(aV+c6)≤dX*a):=by
 have aZ:=L.le dX cS h i j
 have aI:=L.l4
 have bZ:=L.l5
 have key:∀ (aP bI:Nat),(aP=dX*a∧bI=cS*b1∨bI=dX*a∧aP=cS*b1)→aV+aP≤bI→aV+c6+aP≤bI:=by
  intro aP bI g r
  refine Nat.le_of_not_lt fun s=>?_
  have l:=sep (m+dX) (S+cS) (by omega) (by omega)
  rw [Nat.add_mul,Nat.add_mul] at l
  rcases Nat.lt_or_gt_of_ne k with n | n
  ·have c:(m - dX)*a=m*a - dX*a:=Nat.sub_mul _ _ _
   have lM:dX*a≤m*a:=Nat.mul_le_mul_right a (by omega)
   have d:=sep (m - dX) (S - cS) (by omega) (by omega)
   have dM:=(sep (m - dX) 0 (by omega) (by omega)).2 (by omega)
   rw [Nat.zero_mul,Nat.zero_add] at dM
   have e:(S - cS)*b1=S*b1 - cS*b1:=Nat.sub_mul _ _ _
   rw [c,e] at d
   rw [c] at dM
   have l1:S≤cS→S*b1≤cS*b1:=fun Z=>Nat.mul_le_mul_right b1 Z
   have lN:cS≤S→cS*b1≤S*b1:=fun Z=>Nat.mul_le_mul_right b1 Z
   rcases L.eq with R | R <;> rcases g with ⟨rfl,rfl⟩ | ⟨rfl,rfl⟩ <;> rcases Nat.le_total S cS with b | b <;> (first | have:=l1 b | have:=lN b) <;> omega
  ·have c:(dX - m)*a=dX*a - m*a:=Nat.sub_mul _ _ _
   have lM:m*a≤dX*a:=Nat.mul_le_mul_right a (by omega)
   have d:=sep (dX - m) (cS - S) (by omega) (by omega)
   have dM:=(sep (dX - m) 0 (by omega) (by omega)).2 (by omega)
   rw [Nat.zero_mul,Nat.zero_add] at dM
   have e:(cS - S)*b1=cS*b1 - S*b1:=Nat.sub_mul _ _ _
   rw [c,e] at d
   rw [c] at dM
   have l1:S≤cS→S*b1≤cS*b1:=fun Z=>Nat.mul_le_mul_right b1 Z
   have lN:cS≤S→cS*b1≤S*b1:=fun Z=>Nat.mul_le_mul_right b1 Z
   rcases L.eq with R | R <;> rcases g with ⟨rfl,rfl⟩ | ⟨rfl,rfl⟩ <;> rcases Nat.le_total S cS with b | b <;> (first | have:=l1 b | have:=lN b) <;> omega
 refine⟨fun f=>key _ _ (Or.inl ⟨rfl,rfl⟩) (aZ.1 f),fun f=>?_⟩
 have:=key (cS*b1) (dX*a) (Or.inr ⟨rfl,rfl⟩) (by have:=aZ.2 f;omega)
 omega
theorem sC.half{a bY a4 m S aV c6:Nat}(L:sC a bY a4 m S aV)(g:1≤bY)(h:a4 < 9007199254740992)(i:0 < c6)(sep:Sep a c6)(c:2≤S∨S*b1+aV=m*a):aV+aV+c6≤b1:=by
 have aI:=L.l4
 have bZ:=L.l5
 have j:=iB
 have two:=sep (2*m)
 rcases L.eq with R | R
 ·
  rcases c with c | c
  ·have d:(S - 1)*b1=S*b1 - b1:=by rw [Nat.sub_mul,Nat.one_mul]
   have lM:b1≤S*b1:=Nat.le_mul_of_pos_left b1 (by omega)
   have aZ:=(L.le m (S - 1) aI bZ (by omega))
   rw [d] at aZ
   have e:(2*S - 1)*b1=2*(S*b1) - b1:=by rw [Nat.sub_mul,Nat.one_mul,Nat.mul_assoc]
   have f:2*m*a=2*(m*a):=Nat.mul_assoc _ _ _
   have b:=two (2*S - 1) (by omega) (by omega)
   rw [e,f] at b
   omega
  ·have b:=two (2*S) (by omega) (by omega)
   rw [Nat.mul_assoc,Nat.mul_assoc] at b
   omega
 ·have aZ:=(L.le m (S+1) aI bZ (by omega))
  have d:(S+1)*b1=S*b1+b1:=by rw [Nat.add_mul,Nat.one_mul]
  rw [d] at aZ
  have e:(2*S+1)*b1=2*(S*b1)+b1:=by rw [Nat.add_mul,Nat.one_mul,Nat.mul_assoc]
  have f:2*m*a=2*(m*a):=Nat.mul_assoc _ _ _
  have b:=two (2*S+1) (by omega) (by omega)
  rw [e,f] at b
  omega
structure v9(a P T:Nat):Prop where
 le:a*P≤T
 lt:T < (a+1)*(P+1)
 ap:a+1≤P
theorem v9.rest{a P T:Nat}(aH:v9 a P T):∃ r,T=a*P+r∧r≤2*P:=by
 have aZ:=aH.le;have b:=aH.lt;have c:=aH.ap
 refine⟨T - a*P,by omega,?_⟩
 rw [Nat.add_mul,Nat.mul_add,Nat.mul_one,Nat.one_mul] at b;omega
theorem CA{cN a P T m S D N r:Nat}(b:T=a*P+r)(c:cN*N=m*T)(d:0 < cN)(Z:S*cN+D=m*a):S*P≤N∧cN*e4 N (S*P)=D*P+m*r:=by
 have f:cN*N=cN*(S*P)+(D*P+m*r):=by
  rw [c,b,Nat.mul_add,← Nat.mul_assoc,← Z,Nat.add_mul,Nat.mul_assoc,Nat.mul_left_comm];omega
 have aZ:S*P≤N:=Nat.le_of_mul_le_mul_left (by omega) d
 have e:e4 N (S*P)=N - S*P:=if_neg (by omega)
 refine⟨aZ,?_⟩
 rw [e,Nat.mul_sub];omega
theorem Az{cN a P T m S D N r:Nat}(b:T=a*P+r)(c:cN*N=m*T)(d:0 < cN)(Z:D+m*a=S*cN)(g:m*r≤D*P):N≤S*P∧cN*e4 N (S*P)+m*r=D*P:=by
 have h:cN*N+D*P=cN*(S*P)+m*r:=by
  have e:cN*(S*P)=D*P+m*a*P:=by rw [← Nat.mul_assoc,Nat.mul_comm cN S,← Z,Nat.add_mul]
  rw [c,b,Nat.mul_add,e,← Nat.mul_assoc];omega
 have aZ:N≤S*P:=Nat.le_of_mul_le_mul_left (by omega) d
 have f:e4 N (S*P)=S*P - N:=by unfold e4;split <;> omega
 refine⟨aZ,?_⟩
 rw [f,Nat.mul_sub];omega
theorem LO{a bY a4 m S aV c6 P T G:Nat}(L:sC a bY a4 m S aV)(k:1≤bY)(l:a4 < 9007199254740992)(o:18014398509481984≤c6)(sep:Sep a c6)(p:v9 a P T)(y:b1*G+36028797018963968*P≤c6*P)
  {N dX cS c:Nat} (h:b1*N=m*T) (i:b1*c=dX*T) (q:bY≤dX) (j:dX≤a4) (s:1≤cS) (t:dX ≠ m):e4 N (S*P)+G≤e4 c (cS*P):=by
 obtain⟨r,d,u⟩:=p.rest
 have b:=iB
 have bZ:=L.l5
 have e:∀ n,n≤a4→n*r≤18014398509481984*P:=fun n z=>by
  have aZ:=Nat.mul_le_mul (show n≤9007199254740992 by omega) u
  omega
 have sD:=L.sD k l (by omega) sep q j s t
 have A:c6*P≤aV*P+c6*P:=Nat.le_add_left _ _
 have B:(aV+c6)*P=aV*P+c6*P:=Nat.add_mul _ _ _
 have C:18014398509481984*P≤c6*P:=Nat.mul_le_mul_right P o
 have aZ:b1*e4 N (S*P)≤aV*P+18014398509481984*P:=by
  rcases L.eq with R | R
  ·have v:c6≤aV:=by
    have:=(sep m S (by have:=L.l4;omega) (by omega)).1
    have:=(sep m S (by have:=L.l4;omega) (by omega)).2
    omega
   have E:c6*P≤aV*P:=Nat.mul_le_mul_right P v
   have:=(Az d h b R (by have:=e m bZ;omega)).2;omega
  ·have:=(CA d h b R).2
   have:=e m bZ;omega
 have F:aV*P+c6*P≤b1*e4 c (cS*P)+18014398509481984*P:=by
  have:=e dX j
  by_cases w:dX*a < cS*b1
  ·obtain⟨D,f⟩:∃ D,D+dX*a=cS*b1:=⟨cS*b1 - dX*a,by omega⟩
   have g:aV+c6≤D:=by have:=sD.1 w;omega
   have x:(aV+c6)*P≤D*P:=Nat.mul_le_mul_right P g
   have:=(Az d i b f (by omega)).2;omega
  ·obtain⟨D,f⟩:∃ D,cS*b1+D=dX*a:=⟨dX*a - cS*b1,by omega⟩
   have g:aV+c6≤D:=by have:=sD.2 (by omega);omega
   have x:(aV+c6)*P≤D*P:=Nat.mul_le_mul_right P g
   have:=(CA d i b f).2;omega
 refine Nat.le_of_mul_le_mul_left (show b1*(e4 N (S*P)+G)≤b1*e4 c (cS*P) from ?_) b
 rw [Nat.mul_add];omega
theorem LP{a2 P S:Nat}(d:0 < P)(Z:2*e4 a2 (S*P) < P):hQ a2 P=S:=by
 unfold e4 at Z
 unfold hQ
 by_cases a:a2 < S*P
 ·rw [if_pos a] at Z
  obtain⟨aC,rfl⟩:∃ aC,S=aC+1:=⟨S - 1,by
   have:S ≠ 0:=fun R=>by rw [R,Nat.zero_mul] at a;omega
   omega⟩
  rw [Nat.add_mul,Nat.one_mul] at Z a
  have R:a2=(a2 - aC*P)+aC*P:=by omega
  have b:a2 / P=aC:=by rw [R,Nat.add_mul_div_right _ _ d,Nat.div_eq_of_lt (show a2 - aC*P < P by omega),Nat.zero_add]
  have c:a2 % P=a2 - aC*P:=by rw [R,Nat.add_mul_mod_self_right,Nat.mod_eq_of_lt (show a2 - aC*P < P by omega)];omega
  rw [if_pos (by left;rw [c];omega),b]
 ·rw [if_neg a] at Z
  have R:a2=(a2 - S*P)+S*P:=by omega
  have b:a2 / P=S:=by rw [R,Nat.add_mul_div_right _ _ d,Nat.div_eq_of_lt (show a2 - S*P < P by omega),Nat.zero_add]
  have c:a2 % P=a2 - S*P:=by rw [R,Nat.add_mul_mod_self_right,Nat.mod_eq_of_lt (show a2 - S*P < P by omega)];omega
  rw [if_neg (by rw [c];omega),b]
theorem GA(a2 P:Nat):hQ a2 P≤a2 / P+1:=by unfold hQ;split <;> omega
theorem LQ{a bY a4 m S aV c6 P T:Nat}(L:sC a bY a4 m S aV)(j:1≤bY)(k:a4 < 9007199254740992)(l:36028797018963969≤c6)(sep:Sep a c6)(h:v9 a P T)
  {N:Nat} (d:b1*N=m*T):max 1 (hQ N P)=S:=by
 obtain⟨r,e,n⟩:=h.rest
 have f:=iB
 have bZ:=L.l5
 have aI:=L.l4
 have o:0 < P:=by have:=h.ap;omega
 have u:m*r≤18014398509481984*P:=by
  have aZ:=Nat.mul_le_mul (show m≤9007199254740992 by omega) n
  omega
 have v:36028797018963969*P≤c6*P:=Nat.mul_le_mul_right P l
 have b3:=L.b3
 have i:aV+m*a=S*b1→c6≤aV:=fun R=>by
  have:=(sep m S (by omega) (by omega)).1
  have:=(sep m S (by omega) (by omega)).2
  omega
 by_cases g:2≤S∨S*b1+aV=m*a
 ·have b:=L.half j k (by omega) sep g
  have p:(aV+aV+c6)*P≤b1*P:=Nat.mul_le_mul_right P b
  rw [Nat.add_mul,Nat.add_mul] at p
  have aZ:b1*e4 N (S*P)≤aV*P+18014398509481984*P:=by
   rcases L.eq with R | R
   ·have q:c6*P≤aV*P:=Nat.mul_le_mul_right P (i R)
    have:=(Az e d f R (by omega)).2;omega
   ·have:=(CA e d f R).2;omega
  have c:2*e4 N (S*P) < P:=by
   refine Nat.lt_of_mul_lt_mul_left (show b1*(2*e4 N (S*P)) < b1*P from ?_)
   rw [Nat.mul_left_comm];omega
  rw [LP o c];omega
 ·have R:aV+m*a=S*b1:=L.eq.resolve_right fun b=>g (Or.inr b)
  have s:S=1:=by
   have:¬ 2≤S:=fun b=>g (Or.inl b)
   omega
  subst s
  have q:c6*P≤aV*P:=Nat.mul_le_mul_right P (i R)
  obtain⟨aZ,c⟩:=Az e d f R (by omega)
  rw [Nat.one_mul] at aZ c
  have w:N ≠ P:=by
   intro t
   rw [t] at c
   have:e4 P P=0:=by unfold e4;split <;> omega
   rw [this,Nat.mul_zero] at c;omega
  have x:N / P=0:=Nat.div_eq_of_lt (by omega)
  have:=GA N P
  omega
end Go.Proofs.YtjijdlkpmngolaaGreat.G
