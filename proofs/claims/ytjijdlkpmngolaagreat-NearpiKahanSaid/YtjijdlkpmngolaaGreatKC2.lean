import Derived.Test.YtjijdlkpmngolaaGreatKM
import Derived.Test.YtjijdlkpmngolaaGreatKC0
import Derived.Test.YtjijdlkpmngolaaGreatKC1
namespace Go.Proofs.YtjijdlkpmngolaaGreat.G
open Go.Gv
set_option linter.unusedVariables false
structure fY(Z:U)(p:Bool)(a:M)(l c:Nat)(R:Int):Prop where
 p:p=decide (R < 0)
 l:l=(D.aL R.natAbs).length
 r:cL b7 Z a c (D.aL R.natAbs)
theorem fY.aS{Z aB:U}{p:Bool}{a:M}{l c:Nat}{R:Int}(bM:fY Z p a l c R)(S:bC Z aB):fY aB p a l c R:=⟨bM.p,bM.l,bM.r.aS S⟩
theorem fY.cT{Z:U}{p:Bool}{a:M}{l c:Nat}{R:Int}(bM:fY Z p a l c R):cT (p,R.natAbs)=R:=by
 rw [bM.p];exact v8 R
def oT(v:Value)(Z:U)(aF:Bool→M→Nat→Nat→U→Prop):Prop:=
 eA v fun aQ=>cW aQ fun b eO=>eS b fun K=>cW eO fun b d=>aU b fun a l c=>b6 d (aF K a l c Z)
theorem uG{aV Z:U}{v:Value}{R:Int}{aF:Bool→M→Nat→Nat→U→Prop}(aI:gD aV Z v (dG R))(g:∀ p a l c,fY Z p a l c R→cZ b7 aV Z a c (D.aL R.natAbs)→aF p a l c Z):oT v Z aF:=by
 obtain⟨a,c,O,r⟩:=aI
 subst O
 exact eW rfl (cK (cY rfl (cK (bD rfl (dY (g _ _ _ _ ⟨rfl,rfl,r.rd⟩ r))))))
theorem fL{Z aB:U}{n:Nat}(S:bC Z aB)(a:n≤Z.size):eN n Z aB:=fun K b=>S.pre K (Nat.lt_of_lt_of_le b a)
section
variable {a K:M} {c aT l m N:Nat} {Z:U} {R aC:Int} {p aE:Bool} {aF:Bool→M→Nat→Nat→U→Prop}
theorem yY(r:cL b7 Z a c (D.aL N))(b:l=(D.aL N).length)(g:∀ p a l c aB,bC Z aB→fY aB p a l c (N:Int)→aF p a l c aB):
  a0 fJ.id #[.bool false,.slice a l c] Z fun v aB=>oT v aB aF:=by
 refine b5 (fJ.bI r b) fun v aB ⟨S,aI⟩=>?_
 exact uG (R:=(N:Int)) aI fun p a l c bM _=>g p a l c aB S bM
theorem JH(r:fY Z p a l c R)(aI:fY Z aE K m aT aC)(b:iZ R.natAbs)(d:iZ aC.natAbs)(g:∀ p a l c aB,bC Z aB→fY aB p a l c (R - aC)→aF p a l c aB):
  a0 kN.id #[.agg #[.bool p,.slice a l c],.agg #[.bool aE,.slice K m aT]] Z fun v aB=>oT v aB aF:=by
 refine b5 (kN.bI (p:=p) (aE:=aE) r.r r.l aI.r aI.l b d) fun v aB ⟨S,t⟩=>?_
 rw [r.cT,aI.cT] at t
 exact uG t fun p a l c bM _=>g p a l c aB S bM
theorem JI{aF:Int→U→Prop}(r:fY Z p a l c R)(g:∀ aB,bC Z aB→aF (g4 R 0) aB):
  a0 j6.id #[.agg #[.bool p,.slice a l c]] Z fun v aB=>aW .i64 v fun N=>aF N aB:=by
 refine b5 (j6.bI (p:=p) r.r r.l) fun v aB ⟨S,t⟩=>?_
 rw [r.cT] at t
 exact bR t.1 (g aB S)
theorem JJ{aF:Int→U→Prop}(r:fY Z p a l c R)(aI:fY Z aE K m aT aC)(b:(D.aL R.natAbs).length≤700000)(d:(D.aL aC.natAbs).length≤700000)(g:∀ aB,bC Z aB→aF (g4 R aC) aB):
  a0 lE.id #[.agg #[.bool p,.slice a l c],.agg #[.bool aE,.slice K m aT]] Z fun v aB=>aW .i64 v fun N=>aF N aB:=by
 refine b5 (lE.bI (p:=p) (aE:=aE) r.r r.l aI.r aI.l b d) fun v aB ⟨S,t⟩=>?_
 rw [r.cT,aI.cT] at t
 exact bR t.1 (g aB S)
end
theorem Eu{Z:U}{O:TypeId}{c9:List Value}(e:c9.length=2){p:Bool}{a:M}{l c:Nat}{aF:Addr→U→Prop}(g:∀ aE aB,bC Z aB→Z.size≤aE→dU aB aE [.bool p,.slice a l c]→aF ⟨aE,0,none⟩ aB):
  dN Z O c9 fun aE aY=>b3 aY (aE.add 0) (.bool p) fun d=>b3 d (aE.add 1) (.slice a l c) fun b=>aF aE b:=by
 match c9,e with
 | [m,n],_=>
  refine eX fun aY f b4=>?_
  refine jR f (by exact(by decide:0 < 2)) fun d h i=>?_
  refine jR h (by exact(by decide:1 < 2)) fun b j k=>?_
  exact g Z.size b (b2.aS (b2.aS b4 i (Nat.le_refl _)) k (Nat.le_refl _)) (Nat.le_refl _) j
theorem l3{Z:U}{aE:Nat}{p:Bool}{a:M}{l c:Nat}{aF:Bool→M→Nat→Nat→Prop}(aN:dU Z aE [.bool p,.slice a l c])(g:aF p a l c):
  fB Z ((⟨aE,0,none⟩:Addr).add 0) fun b=>eS b fun K=>fB Z ((⟨aE,0,none⟩:Addr).add 1) fun d=>aU d fun a l c=>aF K a l c:=
 lT aN rfl (cY rfl (lT aN rfl (bD rfl g)))
theorem JK:48*nU (18*18) 530 (2 ^ 4400 / 18) 1 0 0+32*nU (57*57) 380 (2 ^ 4400 / 57) 1 0 0 - 20*nU (239*239) 280 (2 ^ 4400 / 239) 1 0 0=g1+560:=by kernel_rfl
theorem Ev:e0 18 4400 530=0:=by kernel_rfl
theorem Ew:e0 57 4400 380=0:=by kernel_rfl
theorem Bb{n aA bK S aF:Nat}(a:aA≤bK)(aV:e0 n bK S=0)(Z:aF=0∨e0 n aA (aF - 1) ≠ 0):aF≤S:=by
 rcases Z with Z | Z
 ·omega
 ·refine Nat.le_of_not_lt fun b=>Z ?_
  have:e0 n aA S=0:=by rw [sG n S a,aV,Nat.zero_div]
  exact Ex this (aF - 1) (by omega)
theorem Bc{n aA S m:Nat}(a:e0 n aA S=0)(b:e0 n aA m=0):dJ n aA S=dJ n aA m∧dK n aA S=dK n aA m:=by
 rcases Nat.le_total S m with Z | Z
 ·have:=yZ a m Z;exact⟨this.1.symm,this.2.symm⟩
 ·exact yZ b S Z
theorem JL{aA R aC S:Nat}(b:aA≤4400)(e:e0 18 aA R=0)(f:e0 57 aA aC=0)(g:e0 239 aA S=0):
  20*(dJ 239 aA S - dK 239 aA S)≤48*(dJ 18 aA R - dK 18 aA R)+32*(dJ 57 aA aC - dK 57 aA aC)+44000
  ∧48*(dJ 18 aA R - dK 18 aA R)+32*(dJ 57 aA aC - dK 57 aA aC)≤dB aA+44000+20*(dJ 239 aA S - dK 239 aA S)
  ∧dB aA+20*(dJ 239 aA S - dK 239 aA S)≤48*(dJ 18 aA R - dK 18 aA R)+32*(dJ 57 aA aC - dK 57 aA aC)+44000:=by
 have h:e0 18 aA 530=0:=by rw [sG 18 530 b,Ev,Nat.zero_div]
 have i:e0 57 aA 380=0:=by rw [sG 57 380 b,Ew,Nat.zero_div]
 have j:e0 239 aA 280=0:=by rw [sG 239 280 b,Bd,Nat.zero_div]
 obtain⟨k,l⟩:=Bc e h
 obtain⟨m,n⟩:=Bc f i
 obtain⟨o,p⟩:=Bc g j
 rw [k,l,m,n,o,p]
 have q:0 < 2 ^ (4400 - aA):=Nat.pow_pos (by decide)
 have eF:=wC 18 b 530
 have r:=wC 57 b 380
 have s:=wC 239 b 280
 have t:=oU 18 aA 530
 have u:=oU 57 aA 380
 have w:=oU 239 aA 280
 have x:=oU 18 4400 530
 have y:=oU 57 4400 380
 have z:=oU 239 4400 280
 have d:=JK
 rw [← wD 18 4400 530 rfl,← wD 57 4400 380 rfl,← wD 239 4400 280 rfl] at d
 have A:=Nat.div_add_mod g1 (2 ^ (4400 - aA))
 have B:=Nat.mod_lt g1 q
 have C:20*(dJ 239 4400 280 - dK 239 4400 280)≤48*(dJ 18 4400 530 - dK 18 4400 530)+32*(dJ 57 4400 380 - dK 57 4400 380):=by
  refine Nat.le_of_lt (Nat.lt_of_sub_pos ?_)
  rw [d];exact Nat.succ_pos _
 unfold dB
 generalize g1 / 2 ^ (4400 - aA)=a1 at *
 generalize g1 % 2 ^ (4400 - aA)=bH at *
 generalize g1=P at *
 generalize 2 ^ (4400 - aA)=D at *
 generalize dJ 18 4400 530=E at *
 generalize dK 18 4400 530=F at *
 generalize dJ 57 4400 380=bA at *
 generalize dK 57 4400 380=G at *
 generalize dJ 239 4400 280=aO at *
 generalize dK 239 4400 280=H at *
 generalize dJ 18 aA 530=a at *
 generalize dK 18 aA 530=I at *
 generalize dJ 57 aA 380=K at *
 generalize dK 57 aA 380=J at *
 generalize dJ 239 aA 280=c at *
 generalize dK 239 aA 280=c8 at *
 obtain⟨cU,rfl⟩:=Nat.le.dest t
 obtain⟨v,rfl⟩:=Nat.le.dest u
 obtain⟨N,rfl⟩:=Nat.le.dest w
 rw [Nat.add_sub_cancel_left,Nat.add_sub_cancel_left,Nat.add_sub_cancel_left]
 simp only [Nat.mul_add] at eF r s
 have key:∀ N aQ:Nat,D*N≤D*aQ+(D - 1)→N≤aQ:=by
  intro N aQ Z
  refine Nat.le_of_not_lt fun Q=>?_
  have:=Nat.mul_le_mul_left D (show aQ+1≤N by omega)
  rw [Nat.mul_add] at this;omega
 refine⟨key _ _ ?_,key _ _ ?_,key _ _ ?_⟩ <;> (simp only [Nat.mul_add,Nat.mul_left_comm D];omega)
theorem JM{aA R aC S:Nat}(a:aA≤4400)(b:e0 18 aA R=0)(c:e0 57 aA aC=0)(d:e0 239 aA S=0)(a5:R≤530)(e:aC≤380)(f:S≤280):
  sH aA (48*(dJ 18 aA R - dK 18 aA R)+32*(dJ 57 aA aC - dK 57 aA aC) - 20*(dJ 239 aA S - dK 239 aA S) - 4*(48*(R+2)+32*(aC+2)+20*(S+2)))
   (48*(dJ 18 aA R - dK 18 aA R)+32*(dJ 57 aA aC - dK 57 aA aC) - 20*(dJ 239 aA S - dK 239 aA S)+4*(48*(R+2)+32*(aC+2)+20*(S+2))):=by
 obtain⟨aV,aY,g⟩:=JL a b c d
 generalize 48*(dJ 18 aA R - dK 18 aA R)=h at *
 generalize 32*(dJ 57 aA aC - dK 57 aA aC)=bA at *
 generalize 20*(dJ 239 aA S - dK 239 aA S)=aO at *
 exact⟨by omega,by omega,by omega,by omega,by omega⟩
def Ey(p:Nat):Bool:=Nat.ble 262144 (g1 / 2 ^ (4336 - p) % 18446744073709551616) && Nat.ble (g1 / 2 ^ (4336 - p) % 18446744073709551616) 18446744073709289471
theorem JN:sI Ey 4200=true:=by kernel_rfl
theorem JO{p bQ a5:Nat}(a:p < 4200)(m:sH (p+64) bQ a5):bQ / 18446744073709551616=dB p∧a5 / 18446744073709551616=dB p:=by
 have Z:=wE JN p a
 simp only [Ey,Bool.and_eq_true,Nat.ble_eq] at Z
 have O:g1 / 2 ^ (4336 - p)=dB (p+64):=by unfold dB;congr 2;omega
 rw [O] at Z
 have b:=y0 p 64 (by omega)
 rw [show(2:Nat) ^ 64=18446744073709551616 by decide] at b
 obtain⟨c,d,e,f,g⟩:=m
 omega
theorem JP{a:M}{c l N n:Nat}{Z:U}{aF:M→Nat→Nat→U→Prop}(r:cD Z a c (aL N))(d:l=(aL N).length)(cQ:n ≠ 0)(b:n < 65536)(gF:e5 N)
  (g:∀ a c aB,bC Z aB→cZ dT Z aB a c (aL (N / (n*n)))→aF a (aL (N / (n*n))).length c aB) :
  a0 pN.id #[.slice a l c,.int .u64 (n:Int)] Z fun v aB=>aU v fun a l c=>aF a l c aB:=by
 refine b5 (dW:=fun v aB=>bC Z aB∧∃ a c,v=.slice a (aL (N / (n*n))).length c∧cZ dT Z aB a c (aL (N / (n*n)))) ?_ fun v aB ⟨S,a,c,O,r⟩=>by subst O;exact g a c aB S r
 refine pN.ok ?_
 unfold pN.t pN.aM.t
 have e:(n:Int) < 4294967296:=by omega
 rw [decide_eq_true e]
 have h:n*n < 4294967296:=(Nat.mul_lt_mul'' b b:n*n < 65536*65536)
 have f:n*n ≠ 0:=Nat.ne_of_gt (Nat.mul_pos (by omega) (by omega))
 show a6 _ _
 refine c3 (n*n) (by rw [Int.natCast_mul]) (by omega) ?_
 exact AT r d f (by omega) gF fun a c aB S r=>⟨S,a,c,rfl,r⟩
def Be(n aA:Nat)(Z:U)(v:Value)(aB:U):Prop:=
 bC Z aB∧∃ S a c,e0 n aA S=0∧2*S≤aA+1∧v=.tuple #[.slice a (aL (dJ n aA S - dK n aA S)).length c,.int .u64 ((2+3*S:Nat):Int)]∧cZ dT Z aB a c (aL (dJ n aA S - dK n aA S))
theorem Bf(n aC:Nat){aA:Nat}(a:aA≤100000):e5 (e0 n aA aC):=
 iY (S:=aA+1) (Nat.lt_of_le_of_lt (Nat.div_le_self _ _) (Nat.pow_lt_pow_right (by decide) (by omega))) (by omega)
theorem Bg(n:Nat){aC aA:Nat}(b:2*aC≤aA+1):dJ n aA aC < 2 ^ (aA+aA+1)∧dK n aA aC < 2 ^ (aA+aA+1):=by
 have Z:=JQ n aA aC
 have a:aC*2 ^ aA < 2 ^ (aA+aA+1):=by
  rw [show aA+aA+1=(aA+1)+aA by omega,Nat.pow_add]
  exact Nat.mul_lt_mul_of_pos_right (Nat.lt_of_lt_of_le (show aC < aA+2 by omega) (by have:=@Nat.lt_two_pow_self (aA+1);omega)) (Nat.pow_pos (by decide))
 exact⟨Nat.lt_of_le_of_lt Z.1 a,Nat.lt_of_le_of_lt Z.2 a⟩
theorem Bh(n:Nat){aC aA:Nat}(b:aA≤100000)(a:2*aC≤aA+1):e5 (dJ n aA aC)∧e5 (dK n aA aC):=by
 have Z:=Bg n a
 exact⟨iY Z.1 (by omega),iY Z.2 (by omega)⟩
theorem Ez(n:Nat){aC aA:Nat}(b:aA≤100000)(a:2*aC≤aA+1):e5 (dJ n aA aC - dK n aA aC)∧e5 ((dJ n aA aC - dK n aA aC)*16):=by
 have Z:=Bg n a
 have O:2 ^ (aA+aA+5)=2 ^ (aA+aA+1)*16:=by rw [show aA+aA+5=(aA+aA+1)+4 by omega,Nat.pow_add]
 exact⟨iY (S:=aA+aA+1) (by omega) (by omega),iY (S:=aA+aA+5) (by rw [O];omega) (by omega)⟩
theorem oV{n:Nat}:(aL n).length=0↔n=0:=by
 constructor
 ·intro Z
  have:=eV n
  rw [List.length_eq_zero_iff.mp Z] at this
  exact this.symm
 ·rintro rfl;rw [eK];rfl
theorem JR{n aA:Nat}{aV:U}(G:2≤n)(H:n < 65536)(k:aA≤100000):
  ∀ (f aC:Nat) (a K c:M) (aT O g l m aN:Nat) (Z:U),f+aC=aA+2→2*aC≤aA+1→bC aV Z→cD Z a aT (aL (e0 n aA aC))→l=(aL (e0 n aA aC)).length→cD Z K O (aL (dJ n aA aC))→m=(aL (dJ n aA aC)).length→
   cD Z c g (aL (dK n aA aC))→aN=(aL (dK n aA aC)).length→l4.bJ.t (Be n aA aV) (f+1) (n:Int) a l aT K m O c aN g ((2+3*aC:Nat):Int) ((2*aC+1:Nat):Int) Z:=by
 intro f
 induction f with
 | zero=>
  intro aC a K c aT O g l m aN Z I s;omega
 | succ f bO=>
  intro aC a K c aT O g l m aN Z I s o r B aI u aE w
  unfold l4.bJ.t l4.b9.t
  have C:=Bh n k s
  refine cC (fun J=>?_) fun J=>?_
  ·have P:e0 n aA aC ≠ 0:=fun Q=>by have:=oV.mpr Q;omega
   have Nz:=EA G P
   have D:=Bh n k (show 2*(aC+1)≤aA+1 by omega)
   refine AT r B (by omega) (by omega) (Bf n aC k) fun aJ aG aY b4 E=>?_
   refine⟨by decide,?_⟩
   refine a6.mk ?_
   have fin:∀ (bL bG:M) (d2 p x y:Nat) (b:U),bC aV b→cD b a aT (aL (e0 n aA aC))→cD b bL d2 (aL (dJ n aA (aC+1)))→x=(aL (dJ n aA (aC+1))).length→cD b bG p (aL (dK n aA (aC+1)))→y=(aL (dK n aA (aC+1))).length→
     a0 pN.id #[.slice a l aT,.int .u64 (n:Int)] b fun v aB=>aU v fun a l aT=>a6 (IntKind.u64.wrap (((2+3*aC:Nat):Int)+3)) fun T=>a6 (IntKind.u64.wrap (((2*aC+1:Nat):Int)+2)) fun V=>
      l4.bJ.t (Be n aA aV) (f+1) (n:Int) a l aT bL x d2 bG y p T V aB:=by
    intro bL bG d2 p x y b d e s2 Nv eY Nw
    refine JP e B (by omega) H (Bf n aC k) fun dR dA Nx z F=>?_
    refine c3 (2+3*(aC+1)) (by omega) (by omega) ?_
    refine c3 (2*(aC+1)+1) (by omega) (by omega) ?_
    rw [← wF] at F ⊢
    exact bO (aC+1) dR bL bG dA d2 p _ _ _ Nx (by omega) (by omega) (d.trans z) F.eH rfl (s2.aS z) Nv (eY.aS z) Nw
   have h:dJ n aA (aC+1)=dJ n aA aC+if aC % 2=0 then hT n aA aC else 0:=rfl
   have i:dK n aA (aC+1)=dK n aA aC+if aC % 2=0 then 0 else hT n aA aC:=rfl
   refine fN (fun A=>?_) fun A=>?_
   ·have q:aC % 2=0:=by
     have:((2*aC+1:Nat):Int).tmod 4=1:=A
     rw [Int.tmod_eq_emod_of_nonneg (by omega)] at this;omega
    rw [if_pos q] at h i
    refine r9 (N:=dJ n aA aC) (aQ:=hT n aA aC) (aI.aS b4) u E.eH rfl (by rw [← h];exact D.1) fun bL bG b d e=>?_
    have j:=e.eH
    rw [← h] at j ⊢
    exact fin _ _ _ _ _ _ b ((o.trans b4).trans d) ((r.aS b4).aS d) j rfl (by rw [i];exact(aE.aS b4).aS d) (by rw [i];exact w)
   ·have q:¬ aC % 2=0:=by
     intro q
     refine A ?_
     show((2*aC+1:Nat):Int).tmod 4=1
     rw [Int.tmod_eq_emod_of_nonneg (by omega)];omega
    rw [if_neg q] at h i
    refine r9 (N:=dK n aA aC) (aQ:=hT n aA aC) (aE.aS b4) w E.eH rfl (by rw [← i];exact D.2) fun bL bG b d e=>?_
    have j:=e.eH
    rw [← i] at j ⊢
    exact fin _ _ _ _ _ _ b ((o.trans b4).trans d) ((r.aS b4).aS d) (by rw [h];exact(aI.aS b4).aS d) (by rw [h];exact u) j rfl
  ·have Ny:e0 n aA aC=0:=oV.mp (by omega)
   unfold l4.aZ.t
   refine sA aI u aE w C.1 C.2 fun bL bG b d e=>?_
   exact⟨o.trans d,aC,bL,bG,Ny,s,rfl,e.from o.le⟩
theorem EB{n aA:Nat}(Z:U)(e:2≤n)(f:n < 65536)(g:aA≤100000):a0 l4.id #[.int .u64 (n:Int),.int .i64 (aA:Int)] Z (Be n aA Z):=by
 refine l4.ok ?_
 unfold l4.t l4.aM.t
 have a:e5 (1*2 ^ aA):=by rw [Nat.one_mul];exact iY (S:=aA+1) (Nat.pow_lt_pow_right (by decide) (by omega)) (by omega)
 refine m6 (N:=1) (by decide) fun aJ aG aY b4 h=>?_
 refine vW rfl h.eH rfl (by omega) (nS (by decide)) a fun bL bG m i j=>?_
 refine AT j.eH rfl (by omega) (by omega) a fun dR dA o k b=>?_
 refine vN dT [] rfl (by simp) fun p _ c=>?_
 refine vN dT [] rfl (by simp) fun l _ d=>?_
 unfold l4.bF.t
 have O:1*2 ^ aA / n=e0 n aA 0:=by rw [Nat.one_mul,Bi]
 rw [O] at b ⊢
 refine⟨aA+2+1,JR e f g (aA+2) 0 _ _ _ _ _ _ _ _ _ l (by omega) (by omega) ((((b4.trans i).trans k).trans c).trans d) ((b.eH.aS c).aS d) rfl ?_ ?_ ?_ ?_⟩
 ·show cD _ _ _ (aL 0);rw [eK];exact cD.nil _ _ _
 ·show _=(aL 0).length;rw [eK];rfl
 ·show cD _ _ _ (aL 0);rw [eK];exact cD.nil _ _ _
 ·show _=(aL 0).length;rw [eK];rfl
theorem JS{a:M}{c l N aN:Nat}{Z:U}{aF:M→Nat→Nat→M→Nat→Nat→U→Prop}(r:cD Z a c (aL N))(i:l=(aL N).length)(d:aN < 18446744073709551616)(gF:e5 (N+aN))
  (g:∀ a c K aT aB,bC Z aB→cZ dT Z aB a c (aL (N - aN))→cZ dT Z aB K aT (aL (N+aN))→aF a (aL (N - aN)).length c K (aL (N+aN)).length aT aB) :
  a0 sJ.id #[.slice a l c,.int .u64 (aN:Int)] Z fun v aB=>c1 v fun aQ=>cW aQ fun k eO=>aU k fun a l c=>cW eO fun n o=>aU n fun K m aT=>b6 o (aF a l c K m aT aB):=by
 refine b5 (dW:=fun v aB=>bC Z aB∧∃ a c K aT,v=.tuple #[.slice a (aL (N - aN)).length c,.slice K (aL (N+aN)).length aT]∧cZ dT Z aB a c (aL (N - aN))∧cZ dT Z aB K aT (aL (N+aN))) ?_
  fun v aB ⟨S,a,c,K,aT,O,e,f⟩=>by subst O;exact g a c K aT aB S e f
 refine sJ.ok ?_
 unfold sJ.t sJ.aM.t
 refine m6 d fun aJ aG aY b4 e=>?_
 refine sA (r.aS b4) i e.eH rfl (jK (by omega) gF) (nS d) fun bL bG s h f=>?_
 refine m6 d fun dR dA u b p=>?_
 refine r9 (((r.aS b4).aS h).aS b) i p.eH rfl gF fun dZ eE w j q=>?_
 exact⟨((b4.trans h).trans b).trans j,_,_,_,_,rfl,((f.aS b).aS j).from b4.le,q.from ((b4.trans h).trans b).le⟩
theorem uH{aA N:Nat}(b:aA≤4400)(a:N≤dB aA+262144):e5 N:=by
 refine iY (S:=4403) (Nat.lt_of_le_of_lt (Nat.le_trans a (Nat.add_le_add_right (show dB aA≤g1 from Nat.div_le_self _ _) _)) ?_) (by omega)
 exact Nat.le_of_ble_eq_true (by kernel_rfl)
theorem EC{aA:Nat}{Z:U}{aF:M→Nat→Nat→M→Nat→Nat→U→Prop}(f:aA≤4400)
  (g:∀ bQ a5 a c K aT aB,sH aA bQ a5→bC Z aB→cZ dT Z aB a c (aL bQ)→cZ dT Z aB K aT (aL a5)→aF a (aL bQ).length c K (aL a5).length aT aB) :
  a0 qV.id #[.int .i64 (aA:Int)] Z fun v aB=>c1 v fun aQ=>cW aQ fun h eO=>aU h fun a l c=>cW eO fun i p=>aU i fun K m aT=>b6 p (aF a l c K m aT aB):=by
 refine b5 (dW:=fun v aB=>bC Z aB∧∃ bQ a5 a c K aT,sH aA bQ a5∧v=.tuple #[.slice a (aL bQ).length c,.slice K (aL a5).length aT]∧cZ dT Z aB a c (aL bQ)∧cZ dT Z aB K aT (aL a5)) ?_
  fun v aB ⟨S,bQ,a5,a,c,K,aT,m,O,b,d⟩=>by subst O;exact g bQ a5 a c K aT aB m S b d
 refine qV.ok ?_
 unfold qV.t qV.aM.t
 refine b5 (EB (n:=5) Z (by decide) (by decide) (by omega)) fun h aY ⟨b4,R,aJ,aG,q,aH,r,b⟩=>?_
 subst r
 refine g7 rfl (cK (bD rfl (cK (bR rfl (dY ?_)))))
 refine b5 (EB (n:=239) aY (by decide) (by decide) (by omega)) fun i D ⟨j,aC,bL,bG,s,bX,u,d⟩=>?_
 subst u
 refine g7 rfl (cK (bD rfl (cK (bR rfl (dY ?_)))))
 obtain⟨E,m⟩:=JT f q s aH bX
 have e:=Ez 5 (show aA≤100000 by omega) aH
 have s2:=Ez 239 (show aA≤100000 by omega) bX
 refine sB (aA:=16) (b.eH.aS j) rfl (by decide) e.1 e.2 fun dR dA F k w=>?_
 refine sB (aA:=4) (d.eH.aS k) rfl (by decide) s2.1 (jK (by omega) s2.2) fun dZ eE G o x=>?_
 refine sA (w.eH.aS o) rfl x.eH rfl e.2 (jK (by omega) s2.2) fun bY bW H y z=>?_
 refine c3 (16*(2+3*R)) (by omega) (by omega) ?_
 refine c3 (4*(2+3*aC)) (by omega) (by omega) ?_
 refine c3 (16*(2+3*R)+4*(2+3*aC)) (by omega) (by omega) ?_
 rw [Nat.mul_comm 16,Nat.mul_comm 4 (dJ 239 aA aC - dK 239 aA aC)] at m
 refine JS z.eH rfl (by omega) (uH f m.v7) fun a9 bB I d6 J A B C=>?_
 have eI:=(((b4.trans j).trans k).trans o).trans y
 exact⟨eI.trans A,_,_,_,_,_,_,m,rfl,B.from eI.le,C.from eI.le⟩
theorem ED{p:Nat}(Z:U)(aY:1≤p)(e:p < 4200):a0 nV.id #[.int .i64 (p:Int)] Z fun v aB=>bC Z aB∧eT Z aB v (aL (dB p),0):=by
 refine nV.ok ?_
 unfold nV.t nV.aM.t
 refine cC (fun a=>absurd a (by omega)) fun _=>?_
 refine cC (fun a=>absurd a (by omega)) fun _=>?_
 unfold nV.aZ.t
 refine⟨1,?_⟩
 unfold nV.cJ.t nV.cF.t
 refine cN ((p+48:Nat):Int) (by omega) (by omega) (by omega) ?_
 refine EC (by omega) fun bQ a5 aJ aG fG d1 aY m b4 f b1=>?_
 have g:=uH (show p+48≤4400 by omega) m.EE
 have h:=uH (show p+48≤4400 by omega) m.v7
 refine AU (n:=48) rfl f.eH rfl (by decide) g fun bL bG l d b=>?_
 refine AU (n:=48) rfl (b1.eH.aS d) rfl (by decide) h fun eM d2 o c eY=>?_
 refine pH (b.eH.aS c) rfl eY.eH rfl ?_
 obtain⟨i,j⟩:=JU e m
 rw [show(2:Nat) ^ 48=281474976710656 by decide] at *
 rw [i] at b ⊢
 rw [j]
 refine fN (fun _=>?_) fun k=>absurd (by simp [fD]) k
 exact⟨(b4.trans d).trans c,eT.back (p:=(aL (dB p),0)) ((b.aS c).from b4.le) (show In .i64 0 by decide)⟩
theorem JV{p:Nat}(Z:U)(aY:1≤p)(i:p < 1500):a0 oW.id #[.int .i64 (p:Int)] Z fun v aB=>bC Z aB∧eT Z aB v (aL (oX p),0):=by
 refine oW.ok ?_
 unfold oW.t oW.aM.t
 refine cC (fun a=>absurd a (by omega)) fun _=>?_
 refine cC (fun a=>absurd a (by omega)) fun _=>?_
 unfold oW.aZ.t
 refine⟨1,?_⟩
 unfold oW.cJ.t oW.cF.t
 refine cN ((p+48:Nat):Int) (by omega) (by omega) (by omega) ?_
 refine EC (by omega) fun bQ a5 aJ aG fG d1 aY m b4 j b1=>?_
 have k:=uH (show p+48≤4400 by omega) m.EE
 have l:=uH (show p+48≤4400 by omega) m.v7
 obtain⟨bM,n,o⟩:=JW i m
 have q:a5 ≠ 0:=by have:=m.le;omega
 refine m6 (N:=1) (by decide) fun bL bG w b r=>?_
 refine cN ((2*p:Nat):Int) (by omega) (by omega) (by omega) ?_
 refine cN ((2*p+48:Nat):Int) (by omega) (by omega) (by omega) ?_
 refine cN ((2*p+49:Nat):Int) (by omega) (by omega) (by omega) ?_
 have c:e5 (1*2 ^ (2*p+49)):=by rw [Nat.one_mul];exact iY (S:=2*p+50) (Nat.pow_lt_pow_right (by decide) (by omega)) (by omega)
 refine vW rfl r.eH rfl (by omega) (nS (by decide)) c fun dR dA x d g=>?_
 refine vX g.eH rfl ((b1.eH.aS b).aS d) rfl q c l fun dZ eE g5 d4 y e h _=>?_
 refine vX (g.eH.aS e) rfl (((j.eH.aS b).aS d).aS e) rfl bM c k fun bY bW z d5 A f s _=>?_
 refine pH (h.eH.aS f) rfl s.eH rfl ?_
 rw [Nat.one_mul,o] at *
 rw [n]
 refine fN (fun _=>?_) fun u=>absurd (by simp [fD]) u
 have eI:=(b4.trans b).trans d
 exact⟨(eI.trans e).trans f,eT.back (p:=(aL (oX p),0)) ((h.aS f).from eI.le) (show In .i64 0 by decide)⟩
theorem wG{n:Nat}{R:Int}{Z:U}{aF:M→Nat→Nat→U→Prop}(a5:R=(n:Int))(d:n≤35184372088832)
  (g:∀ a c aB,bC Z aB→cZ b7 Z aB a c (D.aL (2 ^ n))→aF a (D.aL (2 ^ n)).length c aB) :
  a0 nW.id #[.int .i64 R] Z fun v aB=>aU v fun a l c=>aF a l c aB:=by
 refine b5 (dW:=fun v aB=>bC Z aB∧gA Z aB v (2 ^ n)) ?_ fun v aB ⟨S,aI⟩=>aI.elim fun a c r=>g a c aB S r
 refine nW.ok ?_
 unfold nW.t nW.aM.t
 refine tZ (N:=1) rfl (by decide) fun aJ aG aY b4 e=>?_
 refine IJ a5 e.rd rfl d (yR (by decide)) fun bL bG h f b=>?_
 rw [Nat.one_mul] at b ⊢
 exact⟨b4.trans f,bL,bG,rfl,b.from b4.le⟩
theorem JX{aA:Nat}{R:Int}{Z:U}{aF:M→Nat→Nat→U→Prop}(a5:R=(aA:Int))(d:aA < 9223372036854775808)
  (g:∀ a c aB,bC Z aB→cZ b7 Z aB a c (D.aL aA)→aF a (D.aL aA).length c aB) :
  a0 sK.id #[.int .i64 R] Z fun v aB=>aU v fun a l c=>aF a l c aB:=by
 subst a5
 refine b5 (dW:=fun v aB=>bC Z aB∧gA Z aB v aA) ?_ fun v aB ⟨S,aI⟩=>aI.elim fun a c r=>g a c aB S r
 refine sK.ok ?_
 unfold sK.t sK.aM.t
 refine cC (fun e=>by omega) fun _=>?_
 refine c3 aA rfl (by omega) ?_
 exact tZ rfl (by omega) fun aJ aG aY b4 b=>⟨b4,aJ,aG,rfl,b⟩
theorem EF{n:Nat}:(D.aL n).length=0↔n=0:=by
 constructor
 ·intro Z
  have:=D.eV n
  rw [List.length_eq_zero_iff.mp Z] at this
  exact this.symm
 ·rintro rfl;rw [D.eK];rfl
def EG(n aA:Nat)(Z:U)(v:Value)(aB:U):Prop:=
 bC Z aB∧∃ S a c,e0 n aA S=0∧2*S≤aA+1∧(S=0∨e0 n aA (S - 1) ≠ 0)∧v=.tuple #[.slice a (D.aL (dJ n aA S - dK n aA S)).length c,.int .i64 (S:Int)]∧cZ b7 Z aB a c (D.aL (dJ n aA S - dK n aA S))
theorem JY{n aA:Nat}{aV:U}(H:2≤n)(V:n < 65536)(A:aA≤100000):
  ∀ (f aC:Nat) (a K c:M) (aT O g l m aN:Nat) (Z:U),f+aC=aA+2→2*aC≤aA+1→(aC=0∨e0 n aA (aC - 1) ≠ 0)→bC aV Z→cL b7 Z a aT (D.aL (e0 n aA aC))→l=(D.aL (e0 n aA aC)).length→cL b7 Z K O (D.aL (dJ n aA aC))→m=(D.aL (dJ n aA aC)).length→
   cL b7 Z c g (D.aL (dK n aA aC))→aN=(D.aL (dK n aA aC)).length→lG.bJ.t (EG n aA aV) (f+1) (n:Int) a l aT K m O c aN g (aC:Int) ((2*aC+1:Nat):Int) Z:=by
 intro f
 induction f with
 | zero=>
  intro aC a K c aT O g l m aN Z I q;omega
 | succ f bO=>
  intro aC a K c aT O g l m aN Z I q i p r s aI u aE v
  unfold lG.bJ.t lG.b9.t
  have B:=Bh n A q
  refine cC (fun J=>?_) fun J=>?_
  ·have w:e0 n aA aC ≠ 0:=fun P=>by have:=EF.mpr P;omega
   have Nv:=EA H w
   refine uB r s rfl (by omega) (by omega) fun aJ aG aY b4 C=>?_
   refine⟨by decide,?_⟩
   refine a6.mk ?_
   have j:dJ n aA (aC+1)=dJ n aA aC+if aC % 2=0 then hT n aA aC else 0:=rfl
   have k:dK n aA (aC+1)=dK n aA aC+if aC % 2=0 then 0 else hT n aA aC:=rfl
   have E:e0 n aA aC / n / n=e0 n aA (aC+1):=by rw [wF,Nat.div_div_eq_div_mul]
   have F:iZ (hT n aA aC):=D2 (Nat.div_le_self _ _) (oQ (Bf n aC A))
   refine fN (fun d=>?_) fun d=>?_
   ·have i:aC % 2=0:=by
     have:((2*aC+1:Nat):Int).tmod 4=1:=d
     rw [Int.tmod_eq_emod_of_nonneg (by omega)] at this;omega
    rw [if_pos i] at j k
    refine yS (N:=dJ n aA aC) (aQ:=hT n aA aC) (aI.aS b4) u C.rd rfl (oQ B.1) F fun bL bG G b e=>?_
    rw [← j] at e ⊢
    refine uB ((r.aS b4).aS b) s rfl (by omega) (by omega) fun dR dA Q x y=>?_
    refine uB y.rd rfl rfl (by omega) (by omega) fun dZ eE d z o=>?_
    rw [E] at o ⊢
    refine cN ((aC+1:Nat):Int) (by omega) (by omega) (by omega) ?_
    refine j2 (2*(aC+1)+1) (by omega) (by omega) ?_
    have h:=x.trans z
    exact bO (aC+1) _ _ _ _ _ _ _ _ _ d (by omega) (by omega) (Or.inr w) (p.trans (b4.trans (b.trans h))) o.rd rfl (e.rd.aS h) rfl (by rw [k];exact aE.aS (b4.trans (b.trans h))) (by rw [k];exact v)
   ·have i:¬ aC % 2=0:=by
     intro i
     refine d ?_
     show((2*aC+1:Nat):Int).tmod 4=1
     rw [Int.tmod_eq_emod_of_nonneg (by omega)];omega
    rw [if_neg i] at j k
    refine yS (N:=dK n aA aC) (aQ:=hT n aA aC) (aE.aS b4) v C.rd rfl (oQ B.2) F fun bL bG G b e=>?_
    rw [← k] at e ⊢
    refine uB ((r.aS b4).aS b) s rfl (by omega) (by omega) fun dR dA Q x y=>?_
    refine uB y.rd rfl rfl (by omega) (by omega) fun dZ eE d z o=>?_
    rw [E] at o ⊢
    refine cN ((aC+1:Nat):Int) (by omega) (by omega) (by omega) ?_
    refine j2 (2*(aC+1)+1) (by omega) (by omega) ?_
    have h:=x.trans z
    exact bO (aC+1) _ _ _ _ _ _ _ _ _ d (by omega) (by omega) (Or.inr w) (p.trans (b4.trans (b.trans h))) o.rd rfl (by rw [j];exact aI.aS (b4.trans (b.trans h))) (by rw [j];exact u) (e.rd.aS h) rfl
  ·have T:e0 n aA aC=0:=EF.mp (by omega)
   unfold lG.aZ.t
   refine yT aI u aE v fun bL bG G b e=>?_
   exact⟨p.trans b,aC,bL,bG,T,q,i,rfl,e.from p.le⟩
theorem JZ{n aA:Nat}{R aC:Int}(a5:R=(n:Int))(d:aC=(aA:Int))(Z:U)(e:2≤n)(f:n < 65536)(g:aA≤100000):a0 lG.id #[.int .u32 R,.int .i64 aC] Z (EG n aA Z):=by
 subst a5;subst d
 refine lG.ok ?_
 unfold lG.t lG.aM.t
 refine wG rfl (by omega) fun bL bG o h i=>?_
 refine uB i.rd rfl rfl (by omega) (by omega) fun dR dA p j b=>?_
 refine tZ (N:=0) rfl (by decide) fun dZ eE q c k=>?_
 refine tZ (N:=0) rfl (by decide) fun bY bW l a m=>?_
 unfold lG.bF.t
 have O:2 ^ aA / n=e0 n aA 0:=(Bi n aA).symm
 rw [O] at b ⊢
 exact⟨aA+2+1,JY e f g (aA+2) 0 _ _ _ _ _ _ _ _ _ l (by omega) (by omega) (Or.inl rfl) (h.trans (j.trans (c.trans a))) (b.rd.aS (c.trans a)) rfl (k.rd.aS a) rfl m.rd rfl⟩
theorem Bj{n aA:Nat}{R aC:Int}{Z:U}{aF:M→Nat→Nat→Int→U→Prop}(a5:R=(n:Int))(b:aC=(aA:Int))(d:2≤n)(e:n < 65536)(f:aA≤100000)
  (g:∀ S a c aB,e0 n aA S=0→2*S≤aA+1→(S=0∨e0 n aA (S - 1) ≠ 0)→bC Z aB→cZ b7 Z aB a c (D.aL (dJ n aA S - dK n aA S))→aF a (D.aL (dJ n aA S - dK n aA S)).length c (S:Int) aB) :
  a0 lG.id #[.int .u32 R,.int .i64 aC] Z fun v aB=>c1 v fun aQ=>cW aQ fun h eO=>aU h fun a l c=>cW eO fun i j=>aW .i64 i fun N=>b6 j (aF a l c N aB):=by
 refine b5 (JZ a5 b Z d e f) fun v aB ⟨b4,S,a,c,k,m,o,p,r⟩=>?_
 subst p
 exact g7 rfl (cK (bD rfl (cK (bR rfl (dY (g S a c aB k m o b4 r))))))
theorem Bk{n aC aA t:Nat}(c:aA≤100000)(a:2*aC≤aA+1)(b:t < 64):iZ (dJ n aA aC - dK n aA aC)∧(D.aL ((dJ n aA aC - dK n aA aC)*t)).length≤999999:=by
 have Z:=Bg n a
 have O:2 ^ (aA+aA+7)=2 ^ (aA+aA+1)*64:=by rw [show aA+aA+7=(aA+aA+1)+6 by omega,Nat.pow_add]
 refine⟨D1 (S:=aA+aA+1) (by omega) (by omega),vY (S:=aA+aA+7) (m:=999999) ?_ (by omega)⟩
 rw [O]
 exact Nat.mul_lt_mul'' (by omega) b
theorem J0{N aQ:Nat}(a:(D.aL N).length≤999999)(b:(D.aL aQ).length≤999999):iZ (N+aQ):=D.x3 a b
theorem EH{aE:Nat}{R:Int}{Z:U}{aF:M→Nat→Nat→U→Prop}(a5:R=(aE:Int))(B:aE < 4200)
  (g:∀ a c aB,bC Z aB→cZ b7 Z aB a c (D.aL (dB aE))→aF a (D.aL (dB aE)).length c aB) :
  a0 oY.id #[.int .i64 R] Z fun v aB=>aU v fun a l c=>aF a l c aB:=by
 subst a5
 refine b5 (dW:=fun v aB=>bC Z aB∧gA Z aB v (dB aE)) ?_ fun v aB ⟨S,aI⟩=>aI.elim fun a c r=>g a c aB S r
 refine oY.ok ?_
 unfold oY.t oY.aM.t
 rw [if_neg (show ¬ (0:Int) > (aE:Int) by omega)]
 refine⟨1,?_⟩
 unfold oY.dF.t oY.bF.t
 have b:aE+64≤4400:=by omega
 refine cN ((aE+64:Nat):Int) (by omega) (by omega) (by omega) ?_
 refine Bj (n:=18) rfl rfl (by decide) (by decide) (by omega) fun R aJ aG aY C aH l5 b4 E=>?_
 refine cN ((aE+64:Nat):Int) (by omega) (by omega) (by omega) ?_
 refine Bj (n:=57) rfl rfl (by decide) (by decide) (by omega) fun aC bL bG NH F bX lH p G=>?_
 refine cN ((aE+64:Nat):Int) (by omega) (by omega) (by omega) ?_
 refine Bj (n:=239) rfl rfl (by decide) (by decide) (by omega) fun S dR dA NI H eL k5 d I=>?_
 have J:=Bb b Ev l5
 have P:=Bb b Ew lH
 have Q:=Bb b Bd k5
 have m:=JM b C F H J P Q
 have d1:=Bk (n:=18) (aC:=R) (aA:=aE+64) (t:=48) (by omega) aH (by decide)
 have d2:=Bk (n:=57) (aC:=aC) (aA:=aE+64) (t:=32) (by omega) bX (by decide)
 have d3:=Bk (n:=239) (aC:=S) (aA:=aE+64) (t:=20) (by omega) eL (by decide)
 rw [Nat.mul_comm 48 (dJ 18 (aE+64) R - dK 18 (aE+64) R),Nat.mul_comm 32 (dJ 57 (aE+64) aC - dK 57 (aE+64) aC),Nat.mul_comm 20 (dJ 239 (aE+64) S - dK 239 (aE+64) S)] at m
 generalize dJ 18 (aE+64) R - dK 18 (aE+64) R=T at *
 generalize dJ 57 (aE+64) aC - dK 57 (aE+64) aC=bA at *
 generalize dJ 239 (aE+64) S - dK 239 (aE+64) S=aO at *
 obtain⟨f1,f2⟩:=JO B m
 have V:iZ (T*48+bA*32):=J0 d1.2 d2.2
 refine yU (E.rd.aS (p.trans d)) rfl (aA:=48) rfl (by decide) d1.1 fun dZ eE NJ e Nv=>?_
 refine yU (G.rd.aS (d.trans e)) rfl (aA:=32) rfl (by decide) d2.1 fun bY bW NK f Nw=>?_
 refine yS (Nv.rd.aS f) rfl Nw.rd rfl (Nat.le_trans d1.2 (by decide)) (Nat.le_trans d2.2 (by decide)) fun a9 bB NL q Nx=>?_
 refine yU (I.rd.aS (e.trans (f.trans q))) rfl (aA:=20) rfl (by decide) d3.1 fun cM cO NM s Ny=>?_
 refine yT (Nx.rd.aS s) rfl Ny.rd rfl fun bS bU NN Nz u=>?_
 refine cN ((R+2:Nat):Int) (by omega) (by omega) (by omega) ?_
 refine cN ((48*(R+2):Nat):Int) (by omega) (by omega) (by omega) ?_
 refine cN ((aC+2:Nat):Int) (by omega) (by omega) (by omega) ?_
 refine cN ((32*(aC+2):Nat):Int) (by omega) (by omega) (by omega) ?_
 refine cN ((48*(R+2)+32*(aC+2):Nat):Int) (by omega) (by omega) (by omega) ?_
 refine cN ((S+2:Nat):Int) (by omega) (by omega) (by omega) ?_
 refine cN ((20*(S+2):Nat):Int) (by omega) (by omega) (by omega) ?_
 refine cN ((48*(R+2)+32*(aC+2)+20*(S+2):Nat):Int) (by omega) (by omega) (by omega) ?_
 refine cN ((4*(48*(R+2)+32*(aC+2)+20*(S+2)):Nat):Int) (by omega) (by omega) (by omega) ?_
 have NA:4*(48*(R+2)+32*(aC+2)+20*(S+2)) < 9223372036854775808:=by omega
 generalize 4*(48*(R+2)+32*(aC+2)+20*(S+2))=NO at *
 refine JX rfl NA fun NP NQ NR h w=>?_
 refine yT (u.rd.aS h) rfl w.rd rfl fun NS NT fX i NB=>?_
 refine AW (n:=64) rfl NB.rd rfl (by decide) fun NC ND NU x j=>?_
 have y:=h.trans (i.trans x)
 refine yS (u.rd.aS y) rfl (w.rd.aS (i.trans x)) rfl (D2 (Nat.sub_le _ _) V) (yR (by omega)) fun NV NW NX k NF=>?_
 refine AW (n:=64) rfl NF.rd rfl (by decide) fun NY NZ N0 o z=>?_
 rw [show(2:Nat) ^ 64=18446744073709551616 by decide] at *
 rw [f1] at j ⊢
 rw [f2] at z ⊢
 refine uA (j.rd.aS (k.trans o)) rfl z.rd rfl ?_
 refine fN (fun _=>?_) fun NG=>absurd (by simp [fD]) NG
 have A:=b4.trans (p.trans (d.trans (e.trans (f.trans (q.trans (s.trans Nz))))))
 exact⟨A.trans (y.trans (k.trans o)),NC,ND,rfl,(j.aS (k.trans o)).from (A.trans (h.trans i)).le⟩
def jE:List Nat→Nat→Nat→Nat→Nat→Prop
 | [],_,_,_,_=>True
 | aE :: Q,a,K,c,aT=>(0 < K∧0 < aT∧a / K=aE∧c / aT=aE∧aE < 18446744073709551616)∧jE Q K (a % K) aT (c % aT)
theorem jE.pre:∀ {P Q:List Nat} {a K c aT:Nat},jE P a K c aT→jE Q a K c aT→P.length≤Q.length→P=Q.take P.length
 | [],Q,a,K,c,aT,_,_,_=>by simp
 | p :: P,[],a,K,c,aT,_,_,b=>by simp at b
 | p :: P,aE :: Q,a,K,c,aT,d,e,b=>by
  obtain⟨⟨_,_,aY,_,_⟩,d⟩:=d
  obtain⟨⟨_,_,f,_,_⟩,e⟩:=e
  have g:p=aE:=aY.symm.trans f
  have h:=jE.pre d e (by simpa using b)
  rw [List.length_cons,List.take_succ_cons,g,← h]
theorem jE.take:∀ {Q:List Nat} {a K c aT:Nat} (n:Nat),jE Q a K c aT→jE (Q.take n) a K c aT
 | [],a,K,c,aT,n,_=>by simp [jE]
 | aE :: Q,a,K,c,aT,0,_=>by simp [jE]
 | aE :: Q,a,K,c,aT,n+1,Z=>⟨Z.1,jE.take n Z.2⟩
def gC:List Nat→Nat × Nat→Nat × Nat
 | [],bM=>bM
 | aE :: Q,bM=>(aE*(gC Q bM).1+(gC Q bM).2,(gC Q bM).1)
theorem EI:∀ {Q:List Nat} {N aQ:Nat},(∀ aE ∈ Q,1≤aE)→0 < aQ→aQ < N→0 < (gC Q (N,aQ)).2∧(gC Q (N,aQ)).2 < (gC Q (N,aQ)).1
 | [],N,aQ,_,aV,aY=>⟨aV,aY⟩
 | aE :: Q,N,aQ,a,aV,aY=>by
  obtain⟨d,e⟩:=EI (Q:=Q) (fun r b=>a r (by simp [b])) aV aY
  have c:=a aE (by simp)
  have f:(gC Q (N,aQ)).1≤aE*(gC Q (N,aQ)).1:=Nat.le_mul_of_pos_left _ c
  refine⟨?_,?_⟩
  ·show 0 < (gC Q (N,aQ)).1;omega
  ·show(gC Q (N,aQ)).1 < aE*(gC Q (N,aQ)).1+(gC Q (N,aQ)).2;omega
theorem EJ{Q:List Nat}{aE N aQ:Nat}(c:∀ r ∈ Q,1≤r)(aV:0 < aQ)(aY:aQ < N):
  0 < (gC (aE :: Q) (N,aQ)).2∧(gC (aE :: Q) (N,aQ)).1 / (gC (aE :: Q) (N,aQ)).2=aE∧(gC (aE :: Q) (N,aQ)).1 % (gC (aE :: Q) (N,aQ)).2=(gC Q (N,aQ)).2∧(gC (aE :: Q) (N,aQ)).2=(gC Q (N,aQ)).1:=by
 obtain⟨d,a⟩:=EI c aV aY
 show 0 < (gC Q (N,aQ)).1∧(aE*(gC Q (N,aQ)).1+(gC Q (N,aQ)).2) / (gC Q (N,aQ)).1=aE∧(aE*(gC Q (N,aQ)).1+(gC Q (N,aQ)).2) % (gC Q (N,aQ)).1=(gC Q (N,aQ)).2∧_
 have b:0 < (gC Q (N,aQ)).1:=by omega
 refine⟨b,?_,?_,rfl⟩
 ·rw [Nat.mul_comm,Nat.mul_add_div b,Nat.div_eq_of_lt a,Nat.add_zero]
 ·rw [Nat.mul_comm,Nat.mul_add_mod,Nat.mod_eq_of_lt a]
theorem EK:∀ {Q:List Nat} {N aQ cU v:Nat},(∀ aE ∈ Q,1≤aE∧aE < 18446744073709551616)→0 < aQ→aQ < N→0 < v→v < cU→jE Q (gC Q (N,aQ)).1 (gC Q (N,aQ)).2 (gC Q (cU,v)).1 (gC Q (cU,v)).2
 | [],N,aQ,cU,v,_,_,_,_,_=>trivial
 | aE :: Q,N,aQ,cU,v,a,aV,aY,c,d=>by
  have e:∀ r ∈ Q,1≤r:=fun r b=>(a r (by simp [b])).1
  obtain⟨aJ,bL,dR,dZ⟩:=EJ (aE:=aE) e aV aY
  obtain⟨fG,eM,gU,g5⟩:=EJ (aE:=aE) e c d
  refine⟨⟨aJ,fG,bL,eM,(a aE (by simp)).2⟩,?_⟩
  rw [dR,gU,dZ,g5]
  exact EK (fun r b=>a r (by simp [b])) aV aY c d
theorem EL:∀ {Q:List Nat} {aE:Nat} {N aQ:Nat},gC (Q ++ [aE]) (N,aQ)=gC Q (aE*N+aQ,N)
 | [],aE,N,aQ=>rfl
 | p :: Q,aE,N,aQ=>by
  show(p*(gC (Q ++ [aE]) (N,aQ)).1+(gC (Q ++ [aE]) (N,aQ)).2,(gC (Q ++ [aE]) (N,aQ)).1)=_
  rw [EL];rfl
structure pO where
 P:Nat
 gN:Nat
 Y:Nat
 gY:Nat
def pO.next(m:pO)(aE:Nat):pO:=⟨aE*m.P+m.gN,m.P,aE*m.Y+m.gY,m.Y⟩
def y1:pO:=⟨1,0,0,1⟩
def iT(Q:List Nat):pO:=Q.foldl pO.next y1
theorem y2(Q:List Nat)(aE:Nat):iT (Q ++ [aE])=(iT Q).next aE:=by simp [iT,List.foldl_append]
theorem EM:∀ (S:Nat) (Q:List Nat),Q.length=S→∀ N aQ,gC Q (N,aQ)=((iT Q).P*N+(iT Q).gN*aQ,(iT Q).Y*N+(iT Q).gY*aQ):=by
 intro S
 induction S with
 | zero=>intro Q Z N aQ;have:Q=[]:=List.length_eq_zero_iff.mp Z;subst this;simp [gC,iT,y1]
 | succ S bO=>
  intro Q Z N aQ
  have a:Q ≠ []:=fun O=>by subst O;simp at Z
  obtain⟨T,aE,rfl⟩:∃ T aE,Q=T ++ [aE]:=⟨Q.dropLast,Q.getLast a,(List.dropLast_concat_getLast a).symm⟩
  rw [EL,y2,bO T (by simpa using Z)]
  simp only [pO.next,Nat.mul_add,Nat.add_mul]
  simp only [Nat.mul_assoc,Nat.mul_left_comm _ aE]
  congr 1 <;> omega
def gK:List Nat:=[1,1,1,3,31,1,145,1,4,2,8,1,6,1,2,3,1,4,1,5,1,41,1,2,3,7,1,1,1,27,1,1,1,2,1,2,1,1,2,1,1,49,2,1,4,3,6,2,1,3,3,17,1,3,2,1,6,3,1,6,26,3,1,1,3,4,3,2,14,11,1,4,1,1,5,2,8,8,2,80,1,1,22,2,11,2,1,5,1,1,1,5,12,2,1,2,1,1,6,21,1,10,2,2,1,4,4,2,2,1,2,2,1,12,1,10,17,1,84,1,2,3,1,1,1,7,15,1,8,4,1,1,3,4,1,1,116,1,8,1,19,9,1,5,9,2,1,1,1,3,61,3,1,1,1,1,7,2,1,3,1,3,1,2,7,1,5,6,1,6,1,1,1,26,7,1,1,1,13,1,21,1,1,2,1,9,1,4,10,3,2,1,1,1,5,1,2,1,10,1,59,1,2,3,1,1,48,1,7,2,1,1,1,3,2,8,2,1,2,10,1,2,3,1,19,1,2,1,1,1,1,1,63,28,2,1,7,6,1,1,3,19,4,11,2,3,1,1,3,1,14,7,5,1,2,1,1,4,1,1,3,1,4,1,1,1,2,1,1,6,1,5,1,10,4,1,3,3,2,23,1,1,16,1,1,1,97,8,2,2,10,1,3,1,1,1,1,1,2,1,7,2,2,5,2,1,1,9,1,3,2,1,1,1,1,873,4,2,1,5,4,12,2,7,3,22,2,7,3,1,10,2,12,4,1,12,1,2,31,1,5,48,2,8,2,1,2,10,1,2,1,4,1,1,1,1,1,4,1,3,2,117,2,1,6,2,3,1,4,3,1,32,1,1,1,1,3,1,3,2,5,3,1,1,4,2,4,3,4,1,9,1,1,1,7,2,1,2,6,1,4,1,1,49,2,1,1,1,1,4,1,1,2,24,1,1,1,1,43,2,70,3,2,31,1,1,1,1,21,1,9,10388,3,4,3,11,1,15,1,2,47,111,6,8,65,2,1,30,4,7,25,4,8,11,2,9,3,7,1,1,7,2,2,2,1,2,4,1,4,14,3,1,6,2,2,1,1,21,2,2,6,2,1,1,1,2,2,3,2,2,3,9,1,2,1,3,2,36,7,2,1,1,14,5,1,6,5,1,3,2,4,3,16,1,1,3,39,1,9,7,1,1,1,4,5,1,1,7,1,4,1,4,2,3,9,1,7,4,1,5,3,2,6,2,2,15,1,55,13,1,2,4,1,1,2,1,1,12,1,3,1,1,2,4,3,7,1,73,2,4,1,2,11,5,1,52,1,2,2,8,1,5,1,1,4,1,1,3,2,1,3,3,4,4,2,10,1,1,2,9,11,1,37,1,20,1,1,13,3,26,4,12,1,4,1,5,3,1,1,15,8,1,4,2,1,2,11,5,5,1,14,1,2,1,59,2,58,1,1,1,2,7,1,70,2,1,14,3,1,2,2,1,3,3,1,3,2,3,1,5,2,3,62,1,5,1,1,1,1,1,8,1,1,4,1,2,1,3,1,5,1,4,2,27,1,2,9,1,2,1,3,5,1,2,1,1,1,2,3,1,1,1,1,25,79,2,1,3,8,251,1,1,1,6,1,9,2,2,3,2,10,1,4,1,9,1,3,11,5,8,7,2,6,1,1,20,2,2,2,4,3,2,8,1,2,1,7,1,4,1,2,2,2,7,2,1,17,1,3,1,1,1,6,1,1,75,2,4,2,2,1,1,1,1,1,1,12,8,13,1,2,1,3,3,2,1,2,1,4,1,5,1,5,1,4,6,1,1,5,1,8,1,2,1,3,16,1,11,1,1,11,7,1,1,3,1,1,3,1,1,23,2,1,1,2,1,5,1,2,1,5,1,26,2,1,2,7,4,2,1,1,10,2,5,12,1,4,29,7,1,2,4,1,1,1,44,6,1,3,1,1,1,9,1,3,30,1,753,1,215,1,4,1,1,1,4,1,63,2,1,4,1,2,2,1,30,1,2,2,1,3,8,2,1,1,2,1,4,5,4,4,36,1,1,1,10,21,2,1,1,2,3,29,1,1,2,1,4,1,2,2,3,2,1,13,4,1,1,5,1,1,2,4,2,2,4,2,1,1,1,1,1,3,2,2,4,1,13,5,1,3,4,2,5,1,11,2,3,5,2,3,2,64,1,9,32,1,2,1,1,1,1,1,1,1,1,4,1,1,3,2,1,4,3,1,5,2,3,1,5,2,1,1,2,1,2,1,8,1,2]
def y3(P gN Y gY bQ one:Nat):Prop:=∃ N aQ,P*N+gN*aQ=bQ∧Y*N+gY*aQ=one∧0 < aQ∧aQ < N
noncomputable def qW(P gN Y gY bQ one:Nat):Bool:=
 force (Nat.add (Nat.sub (Nat.mul gY bQ) (Nat.mul gN one)) (Nat.sub (Nat.mul gN one) (Nat.mul gY bQ))) fun N=>
 force (Nat.add (Nat.sub (Nat.mul Y bQ) (Nat.mul P one)) (Nat.sub (Nat.mul P one) (Nat.mul Y bQ))) fun aQ=>
  Nat.beq (Nat.add (Nat.mul P N) (Nat.mul gN aQ)) bQ && (Nat.beq (Nat.add (Nat.mul Y N) (Nat.mul gY aQ)) one && (Nat.blt 0 aQ && Nat.blt aQ N))
theorem EN{P gN Y gY bQ one:Nat}(Z:qW P gN Y gY bQ one=true):y3 P gN Y gY bQ one:=by
 unfold qW at Z
 rw [force_eq,force_eq] at Z
 simp only [Bool.and_eq_true,Nat.blt_eq] at Z
 exact⟨_,_,Nat.eq_of_beq_eq_true Z.1,Nat.eq_of_beq_eq_true Z.2.1,Z.2.2.1,Z.2.2.2⟩
noncomputable def wH:List Nat→Nat→Nat→Nat→Nat→Nat→Bool:=
 List.rec (fun _ _ _ _ _=>true) (fun aE _ bO p P gN Y gY=>
  force (Nat.add (Nat.mul aE P) gN) fun a=>force (Nat.add (Nat.mul aE Y) gY) fun bA=>force p fun p=>
  force (dB p) fun bQ=>force (Nat.pow 2 (Nat.succ p)) fun one=>
   Nat.blt 0 aE && (Nat.blt aE 18446744073709551616 && (qW a P bA Y bQ one && (qW a P bA Y (Nat.succ bQ) one && bO (Nat.add p 4) a P bA Y))))
attribute [local irreducible] dB in
theorem J1(aE:Nat)(Q:List Nat)(p P gN Y gY:Nat):wH (aE :: Q) p P gN Y gY=(Nat.blt 0 aE && (Nat.blt aE 18446744073709551616 && (qW (aE*P+gN) P (aE*Y+gY) Y (dB p) (2 ^ (p+1)) && (qW (aE*P+gN) P (aE*Y+gY) Y (dB p+1) (2 ^ (p+1)) && wH Q (p+4) (aE*P+gN) P (aE*Y+gY) Y)))):=by
 show(force (aE*P+gN) fun a=>force (aE*Y+gY) fun bA=>force p fun p=>force (dB p) fun bQ=>force (Nat.pow 2 (p+1)) fun one=>
   Nat.blt 0 aE && (Nat.blt aE 18446744073709551616 && (qW a P bA Y bQ one && (qW a P bA Y (bQ+1) one && wH Q (p+4) a P bA Y))))=_
 simp only [force_eq];rfl
theorem y4:∀ (Q:List Nat) (T:List Nat) (p:Nat),wH Q p (iT T).P (iT T).gN (iT T).Y (iT T).gY=true→∀ n,1≤n→n≤Q.length→(∀ aE ∈ Q.take n,1≤aE∧aE < 18446744073709551616)∧
   y3 (iT (T ++ Q.take n)).P (iT (T ++ Q.take n)).gN (iT (T ++ Q.take n)).Y (iT (T ++ Q.take n)).gY (dB (p+4*(n - 1))) (2 ^ (p+4*(n - 1)+1))∧
   y3 (iT (T ++ Q.take n)).P (iT (T ++ Q.take n)).gN (iT (T ++ Q.take n)).Y (iT (T ++ Q.take n)).gY (dB (p+4*(n - 1))+1) (2 ^ (p+4*(n - 1)+1))
 | [],T,p,_,n,aY,b=>by simp at b;omega
 | aE :: Q,T,p,Z,n,aY,b=>by
  rw [J1] at Z
  simp only [Bool.and_eq_true,Nat.blt_eq] at Z
  obtain⟨aJ,bL,dR,dZ,bY⟩:=Z
  cases n with
  | zero=>omega
  | succ m=>
   cases m with
   | zero=>
    rw [show(aE :: Q).take (0+1)=[aE] from rfl,y2]
    refine⟨fun r a=>?_,EN dR,EN dZ⟩
    simp only [List.mem_singleton] at a;subst a;exact⟨aJ,bL⟩
   | succ m=>
    have O:(iT (T ++ [aE]))=(iT T).next aE:=y2 T aE
    have bO:=y4 Q (T ++ [aE]) (p+4) (by rw [O];exact bY) (m+1) (by omega) (by simpa using b)
    rw [show p+4+4*(m+1 - 1)=p+4*(m+1+1 - 1) by omega,List.append_assoc] at bO
    refine⟨fun r a=>?_,bO.2⟩
    rw [List.take_succ_cons,List.mem_cons] at a
    rcases a with rfl | a
    ·exact⟨aJ,bL⟩
    ·exact bO.1 r a
theorem Bl:wH gK 68 1 0 0 1=true:=by kernel_rfl
theorem qX:gK.length=1000:=by kernel_rfl
theorem J2{n:Nat}(aY:1≤n)(b:n≤1000):jE (gK.take n) (dB (4*n+64)) (2 ^ (4*n+64+1)) (dB (4*n+64)+1) (2 ^ (4*n+64+1)):=by
 obtain⟨a,⟨N,aQ,fG,eM,gU,g5⟩,⟨cU,v,aG,bG,dA,eE⟩⟩:=y4 gK [] 68 Bl n aY (by rw [qX];exact b)
 rw [show 68+4*(n - 1)=4*n+64 by omega] at fG eM aG bG
 have bI:=EK a gU g5 dA eE
 rw [EM _ _ rfl,EM _ _ rfl] at bI
 simp only [List.nil_append] at fG eM aG bG
 simp only at bI
 rw [fG,eM,aG,bG] at bI
 exact bI
theorem J3{n:Nat}(aY:1≤n)(a:n≤1000):∀ aE ∈ gK.take n,1≤aE∧aE < 18446744073709551616:=
 (y4 gK [] 68 Bl n aY (by rw [qX];exact a)).1
theorem EO{N aQ aC S:Nat}(a:N < 2 ^ aC)(b:aQ < 2 ^ S)(Z:aC+S≤524288):e5 (N*aQ):=
 iY (S:=aC+S) (by rw [Nat.pow_add];exact Nat.mul_lt_mul'' a b) Z
theorem wI{t:Nat}(Z:t < 18446744073709551616):t < 2 ^ 64:=Z
def fF(N:Nat):Prop:=N < 2 ^ 400
theorem fF.gW{N:Nat}(Z:fF N):e5 N:=iY Z (by omega)
theorem fF.le{N aQ:Nat}(Z:fF aQ)(O:N≤aQ):fF N:=Nat.lt_of_le_of_lt O Z
theorem fF.wJ{N t:Nat}(Z:fF N)(a:t < 18446744073709551616):e5 (N*t):=EO Z (wI a) (by omega)
section
variable {a K:M} {c aT l m N aQ t n:Nat} {Z:U}
theorem wK{aF:M→Nat→Nat→U→Prop}(r:cD Z a c (aL N))(e:l=(aL N).length)(aI:cD Z K aT (aL aQ))(f:m=(aL aQ).length)(b:t < 18446744073709551616)(gF:fF N)(d:fF aQ)
  (g:∀ a c aB,bC Z aB→cZ dT Z aB a c (aL (N - aQ*t))→aF a (aL (N - aQ*t)).length c aB) :
  a0 nX.id #[.slice a l c,.slice K m aT,.int .u64 (t:Int)] Z fun v aB=>aU v fun a l c=>aF a l c aB:=by
 refine b5 (dW:=fun v aB=>bC Z aB∧∃ a c,v=.slice a (aL (N - aQ*t)).length c∧cZ dT Z aB a c (aL (N - aQ*t))) ?_ fun v aB ⟨S,a,c,O,r⟩=>by subst O;exact g a c aB S r
 refine nX.ok ?_
 unfold nX.t nX.aM.t
 refine sB aI f b d.gW (d.wJ b) fun aJ aG aY b4 h=>?_
 refine sA (r.aS b4) e h.eH rfl gF.gW (d.wJ b) fun bL bG k i j=>?_
 exact⟨b4.trans i,_,_,rfl,j.from b4.le⟩
theorem J4{aE:Nat}(aV:aE ≠ 0)(aY:aE < 18446744073709551616):aL aE=[aE]:=by
 rw [j8 aV,show aE / 18446744073709551616=0 by omega,eK,Nat.mod_eq_of_lt aY]
theorem y5{aF:Int→U→Prop}(r:cD Z a c (aL N))(h:l=(aL N).length)(aI:cD Z K aT (aL aQ))(i:m=(aL aQ).length)(aV:aQ ≠ 0)(w:n < 18446744073709551616)(gF:fF N)(j:fF aQ)
  (g:∀ aB,bC Z aB→aF ((gT N aQ n:Nat):Int) aB) :
  a0 nY.id #[.slice a l c,.slice K m aT,.int .u64 (n:Int)] Z fun v aB=>aW .u64 v fun N=>aF N aB:=by
 refine b5 (dW:=fun v aB=>bC Z aB∧v=.int .u64 ((gT N aQ n:Nat):Int)) ?_ fun v aB ⟨S,O⟩=>by subst O;exact g aB S
 refine nY.ok ?_
 unfold nY.t nY.aM.t
 refine vX r h aI i aV gF.gW j.gW fun aJ aG fG d1 aY b4 k _=>?_
 have b:=k.eH
 have o:gT N aQ n=min (N / aQ) n:=by unfold gT;rw [mS]
 rw [o]
 generalize N / aQ=aE at *
 have f:(aL aE).length≤1↔aE < 18446744073709551616:=gE (S:=1)
 refine fN (fun O=>⟨b4,?_⟩) fun O=>?_
 ·have:aE=0:=oV.mp (by omega)
  rw [show min aE n=0 by omega];rfl
 refine cC (fun p=>⟨b4,?_⟩) fun p=>?_
 ·have:¬ aE < 18446744073709551616:=fun d=>by have:=f.mpr d;omega
  rw [show min aE n=n by omega]
 have b1:aE < 18446744073709551616:=f.mp (by omega)
 have q:aE ≠ 0:=fun d=>by subst d;rw [eK] at O;exact O rfl
 have s:=J4 q b1
 rw [s] at b ⊢
 refine fP b (aC:=0) rfl rfl (by simp) ?_
 refine cC (fun e=>⟨b4,?_⟩) fun e=>?_
 ·have u:aE > n:=by have:((aE:Nat):Int) > (n:Int):=e;omega
  rw [show min aE n=n by omega]
 ·unfold nY.aZ.t
  refine fP b (aC:=0) rfl rfl (by simp) ⟨b4,?_⟩
  have u:¬ aE > n:=by have:¬ ((aE:Nat):Int) > (n:Int):=e;omega
  rw [show min aE n=aE by omega];rfl
theorem EP{aF:Int→U→Prop}{a:Nat}(aV:0 < a)(c:0 < t)(j:N≤n+1)(k:n < 18014398509481984)(l:a≤n+1)(m:t < 18446744073709551616)
  (g:aF ((k6 N t a n:Nat):Int) Z) :
  a0 pP.id #[.int .u64 (N:Int),.int .u64 (t:Int),.int .u64 (a:Int),.int .u64 (n:Int)] Z fun v aB=>aW .u64 v fun N=>aF N aB:=by
 refine b5 (dW:=fun v aB=>aB=Z∧v=.int .u64 ((k6 N t a n:Nat):Int)) ?_ fun v aB ⟨d,O⟩=>by subst d;subst O;exact g
 refine pP.ok ?_
 unfold pP.t pP.aM.t
 have e:k6 N t a n=min (N+t*a) (n+1):=by unfold k6;rw [mS]
 rw [e]
 have o:1*a≤t*a:=Nat.mul_le_mul_right _ c
 refine cC (fun O=>?_) fun O=>?_
 ·refine c3 (n+1) (by omega) (by omega) ⟨rfl,?_⟩
  rw [show min (N+t*a) (n+1)=n+1 by omega]
 have f:(if (1:Int) > (a:Int) then(1:Int) else(a:Int))=(a:Int):=by split <;> omega
 rw [f]
 refine⟨by omega,?_⟩
 have p:n / a≤n:=Nat.div_le_self _ _
 refine c3 (n / a) (by rw [Int.tdiv_eq_ediv_of_nonneg (by omega),← Int.natCast_ediv]) (by omega) ?_
 refine c3 (n / a+1) (by omega) (by omega) ?_
 have h:=Nat.lt_mul_div_succ n aV
 have q:=Nat.mul_div_le n a
 rw [Nat.mul_add,Nat.mul_one] at h
 refine cC (fun i=>?_) fun i=>?_
 ·refine c3 (n+1) (by omega) (by omega) ⟨rfl,?_⟩
  have b:(n / a+1)*a≤t*a:=Nat.mul_le_mul_right _ (by omega)
  rw [Nat.add_mul,Nat.one_mul,Nat.mul_comm] at b
  rw [show min (N+t*a) (n+1)=n+1 by omega]
 ·unfold pP.aZ.t
  have b:t*a≤(n / a+1)*a:=Nat.mul_le_mul_right _ (by omega)
  rw [Nat.add_mul,Nat.one_mul,Nat.mul_comm (n / a)] at b
  refine c3 (t*a) (by rw [Int.natCast_mul]) (by omega) ?_
  refine c3 (N+t*a) (by omega) (by omega) ?_
  refine c3 (n+1) (by omega) (by omega) ⟨rfl,?_⟩
  congr 1
  split <;> omega
end
theorem ER{m n:Nat}:fD m n≤0↔m≤n:=by unfold fD;split <;> (try split) <;> omega
theorem qY{m n:Nat}:fD m n < 0↔m < n:=by unfold fD;split <;> (try split) <;> omega
theorem qZ{c7:Type}{K:Bool}{a bA aO:c7}(Z:(bif K then a else bA)=aO)(O:K=true):a=aO:=by rw [O] at Z;exact Z
theorem y6{c7:Type}{K:Bool}{a bA aO:c7}(Z:(bif K then a else bA)=aO)(O:¬ K=true):bA=aO:=by
 rw [Bool.not_eq_true] at O;rw [O] at Z;exact Z
abbrev uI:Type:=Nat→Nat→Nat→Nat→Nat→Nat→Option (Nat × Nat)
abbrev ES:Type:=Int→M→Nat→Nat→Int→M→Nat→Nat→Int→M→Nat→Nat→Int→U→Prop
def k5(n:Nat)(bO:uI)(N R aT cB r c0 bM:Nat):Option (Nat × Nat):=
 bif Nat.beq bM 0 then some (R,N) else bif Nat.beq (aT - r*bM) 0 || Nat.blt n (k6 cB bM c0 n) then some (R,N) else bO N R (aT - r*bM) (k6 cB bM c0 n) r c0
def lH(n:Nat)(bO:uI)(N R aT cB r c0:Nat):Option (Nat × Nat):=
 bif Nat.beq r 0 || Nat.blt n c0 then some (R,N) else k5 n bO N R aT cB r c0 (l6 (bif Nat.blt (r*gT (aT - N) r n) (aT - N) then gT (aT - N) r n+1 else gT (aT - N) r n) (gT aT r n))
def l5(n:Nat)(bO:uI)(N R aT cB r c0:Nat):Option (Nat × Nat):=
 bif Nat.blt (n - 1) (R+cB) || (Nat.beq N 0 || Nat.ble aT N) then some (R,N) else lH n bO N R aT cB (r - aT*gT r aT n) (bif Nat.beq (gT r aT n) 0 then c0 else k6 c0 (gT r aT n) cB n)
theorem J5(n:Nat)(bO:uI)(N R aT cB r c0:Nat):q0 n bO N R aT cB r c0=l5 n bO (N - aT*l6 (gT N aT n) ((n - 1 - R) / cB)) (R+l6 (gT N aT n) ((n - 1 - R) / cB)*cB) aT cB r c0:=by
 unfold q0
 simp only [Bm]
 rfl
def q1(Y:aD)(aV:U)(p:Nat × Nat):Prop:=∀ a c aB,bC aV aB→cD aB a c (aL p.2)→Y (.tuple #[.int .u64 (p.1:Int),.slice a (aL p.2).length c]) aB
theorem q1.now{Y:aD}{aV Z:U}{p:Nat × Nat}(b:q1 Y aV p){S aQ:Nat}(O:some (S,aQ)=some p){a:M}{c:Nat}(d:bC aV Z)(r:cD Z a c (aL aQ)):Y (.tuple #[.int .u64 (S:Int),.slice a (aL aQ).length c]) Z:=by
 have O:=Option.some.inj O
 subst O;exact b a c Z d r
def uJ(cE:ES)(n:Nat)(aV:U)(p:Nat × Nat)(bO:uI):Prop:=
 ∀ (N R aT cB r c0:Nat) (lI l7 lJ:M) (lK l8 lL:Nat) (Z:U),bO N R aT cB r c0=some p→bC aV Z→cD Z lI lK (aL N)→cD Z l7 l8 (aL aT)→cD Z lJ lL (aL r)→fF N→fF aT→fF r→0 < aT→0 < cB→0 < c0→cB≤n→c0≤n→R < n→
   cE (n:Int) lI (aL N).length lK (R:Int) l7 (aL aT).length l8 (cB:Int) lJ (aL r).length lL (c0:Int) Z
section
variable {Y:aD} {cE:ES} {n:Nat} {aV Z:U} {p:Nat × Nat} {bO:uI} {N R aT cB r c0:Nat} {lI l7 lJ:M} {lK l8 lL:Nat}
theorem ET(k:n < 18014398509481984)(c:q1 Y aV p)(l:uJ cE n aV p bO){bM:Nat}(a:k5 n bO N R aT cB r c0 bM=some p)(B:bM≤n)(e:bC aV Z)(rx:cD Z lI lK (aL N))(rd:cD Z l7 l8 (aL aT))(f:cD Z lJ lL (aL r))(m:fF N)(g:fF aT)(h:fF r)
  (gH:0 < cB) (h2:0 < c0) (C:cB≤n) (o:c0≤n) (a5:R < n) :
  jM.gM.t Y cE (n:Int) lI (aL N).length lK (R:Int) l7 (aL aT).length l8 (cB:Int) lJ (aL r).length lL (c0:Int) (bM:Int) Z:=by
 unfold k5 at a
 unfold jM.gM.t
 refine fN (fun q=>c.now (qZ a (by rw [Nat.beq_eq];omega)) e rx) fun q=>?_
 replace a:=y6 a (by rw [Nat.beq_eq];omega)
 refine wK rd rfl f rfl (by omega) g h fun bY bW s b u=>?_
 refine EP h2 (by omega) (by omega) k (by omega) (by omega) ?_
 have v:=g.le (Nat.sub_le aT (r*bM))
 have w:0 < k6 cB bM c0 n:=by unfold k6;rw [mS];omega
 have d:=e.trans b
 have x:=u.eH
 generalize aT - r*bM=i at *
 generalize k6 cB bM c0 n=y at *
 unfold jM.iA.t
 refine fN (fun j=>c.now (qZ a (by simp only [Bool.or_eq_true,Nat.blt_eq,Nat.beq_eq];left;exact oV.mp (by omega))) d (rx.aS b)) fun j=>?_
 have d1:i ≠ 0:=fun z=>j (by rw [z,eK];rfl)
 refine cC (fun A=>c.now (qZ a (by simp only [Bool.or_eq_true,Nat.blt_eq,Nat.beq_eq];right;omega)) d (rx.aS b)) fun A=>?_
 replace a:=y6 a (by simp only [Bool.or_eq_true,Nat.blt_eq,Nat.beq_eq];omega)
 exact l N R i y r c0 lI bY lJ lK bW lL s a d (rx.aS b) x (f.aS b) m v h (by omega) w h2 (by omega) o a5
theorem EU(f:n < 18014398509481984)(g:q1 Y aV p)(h:uJ cE n aV p bO){aA:Nat}(b:k5 n bO N R aT cB r c0 (l6 aA (gT aT r n))=some p)(q:aA≤n+1)(m:r ≠ 0)(i:bC aV Z)(rx:cD Z lI lK (aL N))(rd:cD Z l7 l8 (aL aT))(c:cD Z lJ lL (aL r))(j:fF N)(d:fF aT)(e:fF r)
  (gH:0 < cB) (h2:0 < c0) (k:cB≤n) (l:c0≤n) (a5:R < n) :
  jM.e3.t Y cE (n:Int) lI (aL N).length lK (R:Int) l7 (aL aT).length l8 (cB:Int) lJ (aL r).length lL (c0:Int) (aA:Int) Z:=by
 unfold jM.e3.t
 refine y5 rd rfl c rfl m (by omega) d e fun s a=>?_
 have u:gT aT r n≤n:=by unfold gT;rw [mS];omega
 rw [mS] at b
 generalize gT aT r n=t at *
 refine cC (fun o=>?_) fun o=>?_
 ·refine ET f g h (bM:=t) (by rw [show min aA t=t by omega] at b;exact b) (by omega) (i.trans a) (rx.aS a) (rd.aS a) (c.aS a) j d e gH h2 k l a5
 ·refine ET f g h (bM:=aA) (by rw [show min aA t=aA by omega] at b;exact b) (by omega) (i.trans a) (rx.aS a) (rd.aS a) (c.aS a) j d e gH h2 k l a5
theorem EV(l:n < 18014398509481984)(c:q1 Y aV p)(m:uJ cE n aV p bO)(a:lH n bO N R aT cB r c0=some p)(d:bC aV Z)(rx:cD Z lI lK (aL N))(rd:cD Z l7 l8 (aL aT))(e:cD Z lJ lL (aL r))(g:fF N)(f:fF aT)(b:fF r)
  (gH:0 < cB) (h2:0 < c0) (o:cB≤n) (a5:R < n) :
  jM.dD.t Y cE (n:Int) lI (aL N).length lK (R:Int) l7 (aL aT).length l8 (cB:Int) lJ (aL r).length lL (c0:Int) Z:=by
 unfold lH at a
 unfold jM.dD.t
 refine fN (fun q=>c.now (qZ a (by simp only [Bool.or_eq_true,Nat.blt_eq,Nat.beq_eq];left;exact oV.mp (by omega))) d rx) fun q=>?_
 have h:r ≠ 0:=fun i=>q (by rw [i,eK];rfl)
 refine cC (fun u=>c.now (qZ a (by simp only [Bool.or_eq_true,Nat.blt_eq,Nat.beq_eq];right;omega)) d rx) fun u=>?_
 replace a:=y6 a (by simp only [Bool.or_eq_true,Nat.blt_eq,Nat.beq_eq];omega)
 unfold jM.eR.t
 refine sA rd rfl rx rfl f.gW g.gW fun y z aY b4 rg=>?_
 have w:=f.le (Nat.sub_le aT N)
 refine y5 rg.eH rfl (e.aS b4) rfl h (by omega) w b fun A j=>?_
 have bP:gT (aT - N) r n≤n:=by unfold gT;rw [mS];omega
 generalize gT (aT - N) r n=v at *
 refine sB ((e.aS b4).aS j) rfl (by omega) b.gW (b.wJ (by omega)) fun B C D s x=>?_
 refine pH x.eH rfl ((rg.eH.aS j).aS s) rfl ?_
 have eI:=(b4.trans j).trans s
 refine cC (fun k=>?_) fun k=>?_
 ·refine c3 (v+1) (by omega) (by omega) ?_
  have O:Nat.blt (r*v) (aT - N)=true:=by rw [Nat.blt_eq];exact qY.mp k
  rw [O] at a
  exact EU l c m a (by omega) h (d.trans eI) (rx.aS eI) (rd.aS eI) (e.aS eI) g f b gH h2 o (by omega) a5
 ·have O:Nat.blt (r*v) (aT - N)=false:=by
   rw [← Bool.not_eq_true,Nat.blt_eq];exact fun i=>k (qY.mpr i)
  rw [O] at a
  exact EU l c m a (by omega) h (d.trans eI) (rx.aS eI) (rd.aS eI) (e.aS eI) g f b gH h2 o (by omega) a5
theorem EW(f:n < 18014398509481984)(b:q1 Y aV p)(j:uJ cE n aV p bO)(a:l5 n bO N R aT cB r c0=some p)(c:bC aV Z)(rx:cD Z lI lK (aL N))(rd:cD Z l7 l8 (aL aT))(g:cD Z lJ lL (aL r))(k:fF N)(d:fF aT)(e:fF r)
  (d0:0 < aT) (gH:0 < cB) (h2:0 < c0) (l:cB≤n) (u:c0≤n) (a5:R < n) :
  jM.cF.t Y cE (n:Int) lI (aL N).length lK (R:Int) l7 (aL aT).length l8 (cB:Int) lJ (aL r).length lL (c0:Int) Z:=by
 unfold l5 at a
 unfold jM.cF.t
 refine c3 (R+cB) (by omega) (by omega) ?_
 refine c3 (n - 1) (by omega) (by omega) ?_
 refine cC (fun O=>b.now (qZ a (by simp only [Bool.or_eq_true,Nat.blt_eq,Nat.beq_eq,Nat.ble_eq];left;omega)) c rx) fun O=>?_
 refine fN (fun m=>b.now (qZ a (by simp only [Bool.or_eq_true,Nat.blt_eq,Nat.beq_eq,Nat.ble_eq];right;left;exact oV.mp (by omega))) c rx) fun m=>?_
 refine pH rd rfl rx rfl ?_
 refine cC (fun h=>b.now (qZ a (by simp only [Bool.or_eq_true,Nat.blt_eq,Nat.beq_eq,Nat.ble_eq];right;right;exact ER.mp h)) c rx) fun h=>?_
 have iM:N ≠ 0:=fun i=>m (by rw [i,eK];rfl)
 have v:N < aT:=Nat.lt_of_not_le fun i=>h (ER.mpr i)
 replace a:=y6 a (by simp only [Bool.or_eq_true,Nat.blt_eq,Nat.beq_eq,Nat.ble_eq];omega)
 unfold jM.b9.t
 refine y5 g rfl rd rfl (by omega) (by omega) e d fun aY b4=>?_
 have hu:gT r aT n≤n:=by unfold gT;rw [mS];omega
 generalize gT r aT n=cU at *
 refine cC (fun o=>?_) fun o=>?_
 ·refine wK (g.aS b4) rfl (rd.aS b4) rfl (by omega) e d fun bL bG w q s=>?_
  refine EP gH (by omega) (by omega) f (by omega) (by omega) ?_
  have eI:=b4.trans q
  have:Nat.beq cU 0=false:=by rw [← Bool.not_eq_true,Nat.beq_eq];omega
  rw [this] at a
  exact EV f b j a (c.trans eI) (rx.aS eI) (rd.aS eI) s.eH k d (e.le (Nat.sub_le _ _)) gH (by show 0 < k6 c0 cU cB n;unfold k6;rw [mS];omega) l a5
 ·obtain rfl:cU=0:=by omega
  rw [Nat.mul_zero,Nat.sub_zero] at a
  exact EV f b j a (c.trans b4) (rx.aS b4) (rd.aS b4) (g.aS b4) k d e gH h2 l a5
theorem J6(d:n < 18014398509481984)(e:q1 Y aV p)(f:uJ cE n aV p bO)(a:q0 n bO N R aT cB r c0=some p)(g:bC aV Z)(rx:cD Z lI lK (aL N))(rd:cD Z l7 l8 (aL aT))(h:cD Z lJ lL (aL r))(b:fF N)(c:fF aT)(i:fF r)
  (d0:0 < aT) (gH:0 < cB) (h2:0 < c0) (j:cB≤n) (k:c0≤n) (a5:R < n) :
  jM.bF.t Y cE (n:Int) lI (aL N).length lK (R:Int) l7 (aL aT).length l8 (cB:Int) lJ (aL r).length lL (c0:Int) Z:=by
 rw [J5] at a
 unfold jM.bF.t
 refine y5 rx rfl rd rfl (by omega) (by omega) b c fun aY b4=>?_
 refine c3 (n - 1) (by omega) (by omega) ?_
 refine c3 (n - 1 - R) (by omega) (by omega) ?_
 refine⟨by omega,?_⟩
 have s:(n - 1 - R) / cB≤n - 1 - R:=Nat.div_le_self _ _
 refine c3 ((n - 1 - R) / cB) (by rw [Int.tdiv_eq_ediv_of_nonneg (by omega),← Int.natCast_ediv]) (by omega) ?_
 have l:(if (((n - 1 - R) / cB:Nat):Int) < ((gT N aT n:Nat):Int) then(((n - 1 - R) / cB:Nat):Int) else((gT N aT n:Nat):Int))=((l6 (gT N aT n) ((n - 1 - R) / cB):Nat):Int):=by
  rw [mS];split <;> omega
 rw [l]
 have t2:l6 (gT N aT n) ((n - 1 - R) / cB)*cB≤n - 1 - R:=(Nat.le_div_iff_mul_le gH).mp (by rw [mS];omega)
 have t3:l6 (gT N aT n) ((n - 1 - R) / cB)≤n:=by rw [mS];omega
 generalize l6 (gT N aT n) ((n - 1 - R) / cB)=t at *
 refine cC (fun m=>?_) fun m=>?_
 ·refine wK (rx.aS b4) rfl (rd.aS b4) rfl (by omega) b c fun bL bG u o q=>?_
  have eI:=b4.trans o
  refine c3 (t*cB) (by rw [Int.natCast_mul]) (by omega) ?_
  refine c3 (R+t*cB) (by omega) (by omega) ?_
  exact EW d e f a (g.trans eI) q.eH (rd.aS eI) (h.aS eI) (b.le (Nat.sub_le _ _)) c i d0 gH h2 j k (by omega)
 ·obtain rfl:t=0:=by omega
  rw [Nat.mul_zero,Nat.sub_zero,Nat.zero_mul,Nat.add_zero] at a
  exact EW d e f a (g.trans b4) (rx.aS b4) (rd.aS b4) (h.aS b4) b c i d0 gH h2 j k a5
end
theorem EX{Y:aD}{n:Nat}(b:n < 18014398509481984){aV:U}{p:Nat × Nat}(c:q1 Y aV p):∀ f,uJ (jM.dF.t Y f) n aV p (y7 n f)
 | 0=>fun _ _ _ _ _ _ _ _ _ _ _ _ _ a=>by cases a
 | f+1=>fun N R aT cB r c0 lI l7 lJ lK l8 lL Z a d rx rd e g h i d0 gH h2 j k a5=>J6 b c (EX b c f) a d rx rd e g h i d0 gH h2 j k a5
theorem uK:2 ^ 320=b8:=by kernel_rfl
theorem uL{aC S:Nat}(Z:aC < S):2 ^ aC < 2 ^ S:=Nat.pow_lt_pow_right (by decide) Z
theorem J7{m aC S:Nat}(O:2 ^ aC=m)(Z:aC < S):m < 2 ^ S:=by rw [← O];exact uL Z
theorem EY{S:Nat}(Z:320 < S):b8 < 2 ^ S:=J7 (aC:=320) uK Z
theorem J8(n:Nat):1*2 ^ n=2 ^ n:=Nat.one_mul _
theorem y8{N t aC S:Nat}(a:N < 2 ^ aC)(b:t < 2 ^ S):N*t < 2 ^ (aC+S):=by rw [Nat.pow_add];exact Nat.mul_lt_mul'' a b
theorem EZ{aQ S:Nat}(Z:aQ < 2 ^ S):aQ+1 < 2 ^ (S+1):=by rw [Nat.pow_succ];omega
theorem nZ{N:Nat}(Z:N≤b8):fF N:=Nat.lt_of_le_of_lt Z (EY (S:=400) (by decide))
theorem iB:0 < b8:=Nat.lt_of_lt_of_le (show 0 < 1 by decide) (Nat.le_of_ble_eq_true (by kernel_rfl))
theorem Bn(N:Nat):jA N=if N=0 then 0 else b8 - N:=by
 unfold jA
 by_cases Z:N=0
 ·subst Z;rfl
 ·rw [if_neg Z]
  have:Nat.beq N 0=false:=by rw [← Bool.not_eq_true,Nat.beq_eq];exact Z
  rw [this];rfl
theorem sL{N:Nat}(Z:N < b8):jA N < b8:=by
 rw [Bn];split <;> omega
section
variable {a K:M} {c aT l m N aQ t n:Nat} {Z:U}
theorem E0{aF:M→Nat→Nat→U→Prop}(g:∀ a c aB,bC Z aB→cZ dT Z aB a c (aL b8)→aF a (aL b8).length c aB):
  a0 q2.id #[] Z fun v aB=>aU v fun a l c=>aF a l c aB:=by
 refine b5 (dW:=fun v aB=>bC Z aB∧∃ a c,v=.slice a (aL b8).length c∧cZ dT Z aB a c (aL b8)) ?_ fun v aB ⟨S,a,c,O,r⟩=>by subst O;exact g a c aB S r
 refine q2.ok ?_
 unfold q2.t q2.aM.t
 refine m6 (N:=1) (by decide) fun aJ aG aY b4 d=>?_
 have O:1*2 ^ 320=b8:=(J8 320).trans uK
 refine vW (n:=320) rfl d.eH rfl (by decide) (nS (by decide)) (by rw [O];exact(nZ (Nat.le_refl _)).gW) fun bL bG f e b=>?_
 rw [O] at b ⊢
 exact⟨b4.trans e,_,_,rfl,b.from b4.le⟩
theorem E1{aF:M→Nat→Nat→U→Prop}(r:cD Z a c (aL N))(b:l=(aL N).length)(j:N < b8)(g:∀ a c aB,bC Z aB→cD aB a c (aL (jA N))→aF a (aL (jA N)).length c aB):
  a0 q3.id #[.slice a l c] Z fun v aB=>aU v fun a l c=>aF a l c aB:=by
 refine b5 (dW:=fun v aB=>bC Z aB∧∃ a c,v=.slice a (aL (jA N)).length c∧cD aB a c (aL (jA N))) ?_ fun v aB ⟨S,a,c,O,r⟩=>by subst O;exact g a c aB S r
 refine q3.ok ?_
 unfold q3.t q3.aM.t
 refine fN (fun O=>?_) fun O=>?_
 ·have:N=0:=oV.mp (by omega)
  subst this
  exact⟨bC.refl _,none,0,by show _=Value.slice none (aL 0).length 0;rw [eK];rfl,by show cD _ _ _ (aL 0);rw [eK];exact cD.nil _ _ _⟩
 ·have aX:N ≠ 0:=fun e=>O (by rw [b,e,eK];rfl)
  have f:b8 - N*1=jA N:=by rw [Bn,if_neg aX,Nat.mul_one]
  refine E0 fun aJ aG aY b4 h=>?_
  refine wK (t:=1) h.eH rfl (r.aS b4) b (by decide) (nZ (Nat.le_refl _)) (nZ (by omega)) fun bL bG k i d=>?_
  rw [f] at d ⊢
  exact⟨b4.trans i,_,_,rfl,d.eH⟩
theorem J9{aF:Int→M→Nat→Nat→U→Prop}{b at_ f:Nat}{p:Nat × Nat}(j:wL b8 b at_ n f=some p)(r:cD Z a c (aL at_))(k:l=(aL at_).length)(aI:cD Z K aT (aL b))(o:m=(aL b).length)
  (bI:b < b8) (A:at_ < b8) (cQ:0 < n) (q:n < 18014398509481984) (g:∀ a c aB,bC Z aB→cD aB a c (aL p.2)→aF (p.1:Int) a (aL p.2).length c aB) :
  a0 jM.id #[.agg #[.slice a l c,.slice K m aT],.int .u64 (n:Int)] Z fun v aB=>c1 v fun aQ=>cW aQ fun s eO=>aW .u64 s fun N=>cW eO fun u w=>aU u fun a l c=>b6 w (aF N a l c aB):=by
 refine b5 (dW:=fun v aB=>bC Z aB∧∃ a c,v=.tuple #[.int .u64 (p.1:Int),.slice a (aL p.2).length c]∧cD aB a c (aL p.2)) ?_ fun v aB ⟨S,a,c,O,r⟩=>by subst O;exact g7 rfl (cK (bR rfl (cK (bD rfl (dY (g a c aB S r))))))
 have x:=E2 bI cQ j
 subst k;subst o
 refine jM.ok ?_
 unfold jM.t jM.aM.t
 refine eX fun aY e b4=>?_
 refine oN e (S:=0) rfl ?_
 refine E0 fun bL bG B d y=>?_
 refine⟨d.pre,e.x6 1,?_⟩
 refine oN (e.aS d) (S:=1) rfl ?_
 refine wK (t:=1) y.eH rfl ((aI.aS b4).aS d) rfl (by decide) (nZ (Nat.le_refl _)) (nZ (by omega)) fun dR dA z h i=>?_
 refine⟨h.fL d.le,?_⟩
 refine oN ((e.aS d).aS h) (S:=1) rfl ?_
 have O:b8 - b*1=b8 - b:=by rw [Nat.mul_one]
 rw [O] at i ⊢
 have eI:=(b4.trans d).trans h
 exact⟨f,EX q (aV:=Z) (p:=p) (fun a c aB S r=>⟨S,a,c,rfl,r⟩) f at_ 0 (b8 - b) 1 b 1 _ _ _ _ _ _ z x eI (r.aS eI) i.eH (aI.aS eI) (nZ (by omega)) (nZ (by omega)) (nZ (by omega)) (by omega) (by decide) (by decide) (by omega) (by omega) cQ⟩
theorem E3{aF:Int→M→Nat→Nat→U→Prop}{bQ a5 f:Nat}{up:Bool}{p:Nat × Nat}(b:nD f N bQ a5 up=some p)(r:cD Z a c (aL N))(E:l=(aL N).length)(F:N < 2 ^ 1400)
  (Ny:bQ≤a5) (Nz:a5 < 9007199254740992) (g:∀ a c aB,bC Z aB→cD aB a c (aL p.2)→aF (p.1:Int) a (aL p.2).length c aB) :
  a0 oZ.id #[.slice a l c,.int .u64 (bQ:Int),.int .u64 (a5:Int),.bool up] Z fun v aB=>c1 v fun aQ=>cW aQ fun G eO=>aW .u64 G fun N=>cW eO fun H I=>aU H fun a l c=>b6 I (aF N a l c aB):=by
 refine b5 (dW:=fun v aB=>bC Z aB∧∃ a c,v=.tuple #[.int .u64 (p.1:Int),.slice a (aL p.2).length c]∧cD aB a c (aL p.2)) ?_ fun v aB ⟨S,a,c,O,r⟩=>by subst O;exact g7 rfl (cK (bR rfl (cK (bD rfl (dY (g a c aB S r))))))
 have gF:e5 N:=iY F (by omega)
 unfold nD at b
 simp only [kO,wM,Nat.mul_eq,Nat.sub_eq,Nat.succ_eq_add_one,Nat.add_eq] at b
 refine oZ.ok ?_
 unfold oZ.t oZ.aM.t
 refine D0 (n:=320) rfl r E (by decide) gF fun aJ aG aY b4 j=>?_
 rw [uK] at j ⊢
 have k:N % b8 < b8:=Nat.mod_lt _ iB
 refine sB j.eH rfl (by omega) (nZ (by omega)).gW ((nZ (by omega)).wJ (by omega)) fun bL bG NA w J=>?_
 refine D0 (n:=320) rfl J.eH rfl (by decide) ((nZ (by omega)).wJ (by omega)) fun dR dA P x y=>?_
 rw [uK] at y ⊢
 have hY:N % b8*bQ % b8 < b8:=Nat.mod_lt _ iB
 have b1:=(j.eH.aS w).aS x
 have z:=y.eH
 have eI:=(b4.trans w).trans x
 generalize N % b8*bQ % b8=A at *
 generalize N % b8=B at *
 have two:∀ (e at_:Nat) (m o:M) (q s:Nat) (d:U),e=cond up (jA B) B→at_=cond up (jA A) A→bC Z d→cD d o s (aL at_)→cD d m q (aL e)→e < b8→at_ < b8→
   oZ.aZ.t (fun v aB=>bC Z aB∧∃ a c,v=.tuple #[.int .u64 (p.1:Int),.slice a (aL p.2).length c]∧cD aB a c (aL p.2)) (bQ:Int) (a5:Int) m (aL e).length q o (aL at_).length s d:=by
  intro e at_ m o q s d Q T h V Nv bI C
  rw [← Q,← T] at b
  unfold oZ.aZ.t
  refine c3 (a5 - bQ) (by omega) (by omega) ?_
  refine c3 (a5 - bQ+1) (by omega) (by omega) ?_
  split at b
  ·rename_i R v bP
   have Nw:=(wN bI C (by omega) bP).1
   refine J9 bP V rfl Nv rfl bI C (by omega) (by omega) fun bY bW D i u=>?_
   have b:=Option.some.inj b
   subst b
   have NB:R < a5 - bQ+1:=Nw
   refine c3 (bQ+R) (by show((bQ:Int)+((R:Nat):Int))=_;omega) (by omega) ?_
   exact⟨h.trans i,bY,bW,rfl,u⟩
  ·cases b
 cases up with
 | true=>
  simp only [cond_true]
  refine E1 b1 rfl k fun dZ eE d h Nx=>?_
  refine E1 (z.aS h) rfl hY fun bY bW D i u=>?_
  exact two _ _ _ _ _ _ D rfl rfl ((eI.trans h).trans i) u (Nx.aS i) (sL k) (sL hY)
 | false=>exact two _ _ _ _ _ _ P rfl rfl eI z b1 k hY
theorem E4{aF:M→Nat→Nat→U→Prop}{up:Bool}(r:cD Z a c (aL N))(i:l=(aL N).length)(b:N < 2 ^ 1400)(d:t < 18446744073709551616)
  (g:∀ a c aB,bC Z aB→cZ dT Z aB a c (aL (hU N t up))→aF a (aL (hU N t up)).length c aB) :
  a0 q4.id #[.slice a l c,.int .u64 (t:Int),.bool up] Z fun v aB=>aU v fun a l c=>aF a l c aB:=by
 refine b5 (dW:=fun v aB=>bC Z aB∧∃ a c,v=.slice a (aL (hU N t up)).length c∧cZ dT Z aB a c (aL (hU N t up))) ?_ fun v aB ⟨S,a,c,O,r⟩=>by subst O;exact g a c aB S r
 refine q4.ok ?_
 unfold q4.t q4.aM.t
 have gW:e5 (N*t):=EO b (wI d) (by omega)
 refine sB r i d (iY b (by omega)) gW fun aJ aG aY b4 j=>?_
 refine AU (n:=320) rfl j.eH rfl (by decide) gW fun bL bG s e f=>?_
 rw [uK] at f ⊢
 have O:hU N t up=N*t / b8+cond up 1 0:=by unfold hU;rw [show Nat.mul t N=t*N from rfl,Nat.mul_comm];rfl
 rw [O]
 have k:N*t / b8≤N*t:=Nat.div_le_self _ _
 have m:e5 (N*t / b8+1):=iY (EZ (Nat.lt_of_le_of_lt k (y8 b (wI d)))) (by omega)
 cases up with
 | true=>
  simp only [cond_true]
  refine m6 (N:=1) (by decide) fun dR dA u h o=>?_
  refine r9 (f.eH.aS h) rfl o.eH rfl m fun dZ eE w p q=>?_
  exact⟨((b4.trans e).trans h).trans p,_,_,rfl,q.from ((b4.trans e).trans h).le⟩
 | false=>exact⟨b4.trans e,_,_,rfl,f.from b4.le⟩
structure uM(N bQ a5 aN:Nat):Prop where
 nE:bQ≤aN
 n0:aN≤a5+1
 under:∀ m,bQ≤m→m < aN→m*N < b8
 pQ:aN≤a5→b8≤aN*N
theorem uM.uniq{N bQ a5 aN fH:Nat}(cU:uM N bQ a5 aN)(v:uM N bQ a5 fH):aN=fH:=by
 rcases Nat.lt_trichotomy aN fH with Z | Z | Z
 ·have:=cU.pQ (by have:=v.n0;omega)
  have:=v.under aN cU.nE Z;omega
 ·exact Z
 ·have:=v.pQ (by have:=cU.n0;omega)
  have:=cU.under fH v.nE Z;omega
theorem y9{N bQ a5:Nat}(e:bQ≤a5):uM N bQ a5 (nF N bQ a5):=by
 unfold nF
 rw [pR,pR]
 simp only [Bo,Nat.mul_eq,Nat.sub_eq,Nat.succ_eq_add_one,Nat.add_eq]
 by_cases aY:b8≤bQ*N
 ·rw [if_pos aY];exact⟨Nat.le_refl _,by omega,fun m a K=>by omega,fun _=>aY⟩
 rw [if_neg aY]
 by_cases b:b8≤a5*N
 ·rw [if_pos b]
  have aX:0 < N:=Nat.pos_of_ne_zero fun O=>by rw [O,Nat.mul_zero] at b;have:=iB;omega
  have f:(b8+N - 1) / N*N≤b8+N - 1:=Nat.div_mul_le_self _ _
  have d:=Nat.lt_mul_div_succ (b8+N - 1) aX
  rw [Nat.mul_add,Nat.mul_one,Nat.mul_comm] at d
  have mono:∀ a K,a≤K→a*N≤K*N:=fun a K Z=>Nat.mul_le_mul_right N Z
  refine⟨Nat.le_of_not_lt fun c=>?_,?_,fun m _ K=>?_,fun _=>by omega⟩
  ·have:=mono _ _ (show(b8+N - 1) / N+1≤bQ by omega)
   rw [Nat.add_mul,Nat.one_mul] at this;omega
  ·refine Nat.le_of_not_lt fun c=>?_
   have:=mono _ _ (show a5+1+1≤(b8+N - 1) / N by omega)
   rw [Nat.add_mul,Nat.add_mul,Nat.one_mul] at this;omega
  ·have:=mono _ _ (show m+1≤(b8+N - 1) / N by omega)
   rw [Nat.add_mul,Nat.one_mul] at this;omega
 ·rw [if_neg b]
  refine⟨by omega,Nat.le_refl _,fun m _ K=>?_,fun c=>by omega⟩
  have:=Nat.mul_le_mul_right N (show m≤a5 by omega);omega
theorem Ka{Y:aD}{bQ a5:Nat}{aV:U}(k:N < 2 ^ 1400)(n:l=(aL N).length)(w:1≤bQ)(j:bQ≤a5)(x:a5 < 9007199254740992)(o:cD aV a c (aL N))(g:∀ aB,bC aV aB→Y (.int .u64 ((nF N bQ a5:Nat):Int)) aB):
  ∀ (S cU v:Nat) (Z:U),v+1≤cU+S→bQ≤cU→cU≤v+1→v≤a5→(∀ m,bQ≤m→m < cU→m*N < b8)→(∀ m,v < m→m≤a5→b8≤m*N)→bC aV Z→
   l9.cJ.t Y (S+1) a l c (cU:Int) (v:Int) Z:=by
 intro S
 induction S with
 | zero=>
  intro cU v Z p hu q bP f h e
  obtain rfl:cU=v+1:=by omega
  unfold l9.cJ.t l9.cF.t
  refine cC (fun O=>absurd O (by omega)) fun _=>?_
  unfold l9.aZ.t
  have:v+1=nF N bQ a5:=uM.uniq ⟨hu,by omega,f,fun d=>h (v+1) (by omega) d⟩ (y9 j)
  rw [this];exact g Z e
 | succ S bO=>
  intro cU v Z p hu q bP f h e
  unfold l9.cJ.t l9.cF.t
  refine cC (fun O=>?_) fun O=>?_
  ·refine c3 (v - cU) (by omega) (by omega) ?_
   refine⟨by decide,?_⟩
   refine c3 ((v - cU) / 2) (by rw [Int.tdiv_eq_ediv_of_nonneg (by omega)];omega) (by omega) ?_
   refine c3 (cU+(v - cU) / 2) (by omega) (by omega) ?_
   have y:cU≤cU+(v - cU) / 2:=by omega
   have z:cU+(v - cU) / 2≤v:=by omega
   have A:(v - cU) / 2+(v - cU) / 2≤v - cU:=by omega
   generalize cU+(v - cU) / 2=b at *
   refine E4 (o.aS e) n k (by omega) fun aJ aG aY b4 B=>?_
   have r:hU N b false=b*N / b8:=rfl
   rw [r]
   refine cC (fun i=>?_) fun i=>?_
   ·have:b*N / b8 ≠ 0:=fun d=>by rw [d,eK] at i;exact absurd i (by decide)
    have C:b8≤b*N:=Nat.le_of_not_lt fun d=>this (Nat.div_eq_of_lt d)
    refine c3 (b - 1) (by omega) (by omega) ?_
    refine bO cU (b - 1) aY (by omega) hu (by omega) (by omega) f (fun m s u=>?_) (e.trans b4)
    have:=Nat.mul_le_mul_right N (show b≤m by omega);omega
   ·have:b*N / b8=0:=oV.mp (by omega)
    have D:b*N < b8:=by
     refine Nat.lt_of_not_le fun d=>?_
     have:=Nat.div_pos d iB;omega
    refine c3 (b+1) (by omega) (by omega) ?_
    refine bO (b+1) v aY (by omega) (by omega) (by omega) bP (fun m s u=>?_) h (e.trans b4)
    have:=Nat.mul_le_mul_right N (show m≤b by omega);omega
  ·unfold l9.aZ.t
   obtain rfl:cU=v+1:=by omega
   have:v+1=nF N bQ a5:=uM.uniq ⟨hu,by omega,f,fun d=>h (v+1) (by omega) d⟩ (y9 j)
   rw [this];exact g Z e
theorem Kb{aF:Int→U→Prop}{bQ a5:Nat}(r:cD Z a c (aL N))(b:l=(aL N).length)(d:N < 2 ^ 1400)(e:1≤bQ)(f:bQ≤a5)(h:a5 < 9007199254740992)(g:∀ aB,bC Z aB→aF ((nF N bQ a5:Nat):Int) aB):
  a0 l9.id #[.slice a l c,.int .u64 (bQ:Int),.int .u64 (a5:Int)] Z fun v aB=>aW .u64 v fun N=>aF N aB:=by
 refine b5 (dW:=fun v aB=>bC Z aB∧v=.int .u64 ((nF N bQ a5:Nat):Int)) ?_ fun v aB ⟨S,O⟩=>by subst O;exact g aB S
 refine l9.ok ?_
 unfold l9.t l9.aM.t
 exact⟨a5+1 - bQ+1,Ka d b e f h r (fun aB S=>⟨S,rfl⟩) (a5+1 - bQ) bQ a5 Z (by omega) (Nat.le_refl _) (by omega) (Nat.le_refl _) (fun m aY i=>by omega) (fun m aY i=>by omega) (bC.refl _)⟩
def eU(N aQ:Nat):Nat:=if N < aQ then aQ - N else N - aQ
theorem E5{aF:M→Nat→Nat→U→Prop}(r:cD Z a c (aL N))(b:l=(aL N).length)(aI:cD Z K aT (aL aQ))(d:m=(aL aQ).length)(gF:e5 N)(h:e5 aQ)
  (g:∀ a c aB,bC Z aB→cD aB a c (aL (eU N aQ))→aF a (aL (eU N aQ)).length c aB) :
  a0 o0.id #[.slice a l c,.slice K m aT] Z fun v aB=>aU v fun a l c=>aF a l c aB:=by
 refine b5 (dW:=fun v aB=>bC Z aB∧∃ a c,v=.slice a (aL (eU N aQ)).length c∧cD aB a c (aL (eU N aQ))) ?_ fun v aB ⟨S,a,c,O,r⟩=>by subst O;exact g a c aB S r
 refine o0.ok ?_
 unfold o0.t o0.aM.t
 refine pH r b aI d ?_
 refine cC (fun O=>?_) fun O=>?_
 ·have e:eU N aQ=aQ - N:=if_pos (qY.mp O)
  unfold o0.aZ.t
  refine sA aI d r b h gF fun aJ aG aY b4 f=>?_
  rw [e]
  exact⟨b4,aJ,aG,rfl,f.eH⟩
 ·have e:eU N aQ=N - aQ:=if_neg fun i=>O (qY.mpr i)
  unfold o0.aZ.t
  refine sA r b aI d gF h fun aJ aG aY b4 f=>?_
  rw [e]
  exact⟨b4,aJ,aG,rfl,f.eH⟩
theorem Kc{aF:M→Nat→Nat→Int→U→Prop}(r:cD Z a c (aL N))(b:l=(aL N).length)(aI:cD Z K aT (aL aQ))(d:m=(aL aQ).length)(gF:e5 N)(e:e5 aQ)(gW:e5 (N*aQ))
  (g:∀ a c aB,bC Z aB→cZ dT Z aB a c (aL (N*aQ))→aF a (aL (N*aQ)).length c 0 aB) :
  a0 pJ.id #[.slice a l c,.slice K m aT] Z fun v aB=>c1 v fun aQ=>cW aQ fun f eO=>aU f fun a l c=>cW eO fun h i=>aW .i64 h fun N=>b6 i (aF a l c N aB):=by
 refine b5 (I1 r aI b d) fun v aB ⟨S,t⟩=>?_
 have O:uC (aL N) (aL aQ)=(aL (N*aQ),0):=by unfold uC;rw [if_pos ⟨mN gF,mN e⟩,eV,eV,r8 gW]
 rw [O] at t
 exact t.hZ fun a c r R=>g a c aB S r
end
theorem q5(n:Nat):Nat.pow 2 n=2 ^ n:=rfl
theorem Kd{N aQ aC:Nat}(a:N < 2 ^ aC)(b:aQ < 2 ^ aC):N+aQ < 2 ^ (aC+1):=by rw [Nat.pow_succ];omega
theorem E6{aA n:Nat}(Z:n=4400 - aA):Nat.div g1 (Nat.pow 2 n)=dB aA:=by subst Z;rfl
theorem Ke{n:Nat}(Z:n ≠ 0):dV n=Nat.log2 n+1:=if_neg Z
theorem E7{a K:Nat}(Z:Nat.xor a K < Nat.land a K):a ≠ 0∧K ≠ 0∧dV a=dV K:=by
 have aY:Nat.land a K≤a:=Nat.and_le_left
 have c:Nat.land a K≤K:=Nat.and_le_right
 have b:a ≠ 0:=by omega
 have d:K ≠ 0:=by omega
 refine⟨b,d,?_⟩
 have key:∀ a K:Nat,a ≠ 0→Nat.land a K≤K→Nat.xor a K < Nat.land a K→¬ dV K < dV a:=by
  intro a K b c Z e
  have f:K < 2 ^ Nat.log2 a:=h7.mp (by rw [Ke b] at e;omega)
  have g:a.testBit (Nat.log2 a)=true:=Nat.testBit_log2 b
  have h:K.testBit (Nat.log2 a)=false:=Nat.testBit_lt_two_pow f
  have i:(a ^^^ K).testBit (Nat.log2 a)=true:=by rw [Nat.testBit_xor,g,h];rfl
  have:=Nat.ge_two_pow_of_testBit i
  have O:Nat.xor a K=a ^^^ K:=rfl
  omega
 have b4:=key a K b c Z
 have j:=key K a d (by have O:Nat.land K a=Nat.land a K:=Nat.and_comm K a;omega) (by
  have O:Nat.land K a=Nat.land a K:=Nat.and_comm K a
  have k:Nat.xor K a=Nat.xor a K:=Nat.xor_comm K a
  omega)
 omega
theorem E8{cU v a K:Nat}(Z:zA cU v a K=true):a ≠ 0∧K ≠ 0∧dV a=dV K∧2 ^ cU≤a∧a≤2 ^ v:=by
 unfold zA at Z
 rw [kO,kO,pR,pR,q5,q5] at Z
 split at Z
 ·rename_i aY
  split at Z
  ·rename_i b
   obtain⟨N,aQ,bM⟩:=E7 aY
   exact⟨N,aQ,bM,b,Nat.le_of_ble_eq_true Z⟩
  ·cases Z
 ·cases Z
structure Told(aA N S:Nat):Prop where
 side:S*dB aA+S < N∨N < S*dB aA
 bits:dV (eU N (S*dB aA))=dV (eU N (S*dB aA+S))
 low:2 ^ 1201≤eU N (S*dB aA)
 high:eU N (S*dB aA)≤2 ^ 1470
 cQ:eU N (S*dB aA) ≠ 0
 eF:eU N (S*dB aA+S) ≠ 0
theorem E9{n aA N S:Nat}(e:n=4400 - aA)(Z:wO n N S=true):Told aA N S:=by
 unfold wO at Z
 rw [kO,kO,E6 e,pR,pR] at Z
 simp only [Nat.mul_eq,Nat.add_eq,Nat.sub_eq,Nat.succ_eq_add_one] at Z
 split at Z
 ·rename_i aY
  obtain⟨a,K,c,aT,O⟩:=E8 Z
  have b:eU N (S*dB aA)=N - S*dB aA:=if_neg (by omega)
  have d:eU N (S*dB aA+S)=N - (S*dB aA+S):=if_neg (by omega)
  rw [← b] at a c aT O
  rw [← d] at K c
  exact⟨Or.inl aY,c,aT,O,a,K⟩
 ·split at Z
  ·rename_i aY f
   obtain⟨a,K,c,aT,O⟩:=E8 Z
   have b:eU N (S*dB aA)=S*dB aA - N:=if_pos (by omega)
   have d:eU N (S*dB aA+S)=S*dB aA+S - N:=if_pos (by omega)
   rw [← b] at a c aT O
   rw [← d] at K c
   exact⟨Or.inr f,c,aT,O,a,K⟩
  ·cases Z
def o1(aA N S:Nat):Int:=((aA+2:Nat):Int) - (dV (eU N (S*dB aA)):Int)
section
variable {a:M} {c l S m O:Nat} {Z:U}
theorem Kf{aF:Int→U→Prop}(r:cD Z a c (aL S))(w:l=(aL S).length)(k:m < 18446744073709551616)(Ny:O < 2000)(n:S < 2 ^ 2000)(C:Told 1400 (m*2 ^ (O+1337)) S)
  (g:∀ aB,bC Z aB→aF (o1 1400 (m*2 ^ (O+1337)) S) aB) :
  a0 pS.id #[.int .u64 (m:Int),.int .i64 ((O:Int) - 64),.slice a l c] Z fun v aB=>aW .i64 v fun N=>aF N aB:=by
 refine b5 (dW:=fun v aB=>bC Z aB∧v=.int .i64 (o1 1400 (m*2 ^ (O+1337)) S)) ?_ fun v aB ⟨S,O⟩=>by subst O;exact g aB S
 have x:dB 1400 < 2 ^ 4403:=Nat.lt_of_le_of_lt (show dB 1400≤g1 from Nat.div_le_self _ _) (Nat.le_of_ble_eq_true (by kernel_rfl))
 have D:e5 S:=iY n (by omega)
 obtain⟨i,Nz,o,E⟩:∃ i,i≤7000∧S*dB 1400 < 2 ^ i∧2000 < i:=⟨2000+4403,by omega,y8 n x,by omega⟩
 have y:e5 (S*dB 1400+S):=iY (Kd o (Nat.lt_trans n (uL (aC:=2000) E))) (by omega)
 have gF:m*2 ^ (O+1337) < 2 ^ (64+(O+1338)):=y8 (wI k) (uL (by omega))
 have q:e5 (m*2 ^ (O+1337)):=iY gF (by omega)
 obtain⟨F,G,NA,H,I,J⟩:=C
 have Q:=ED Z (p:=1400) (by decide) (by decide)
 unfold o1
 clear g
 generalize dB 1400=P at *
 refine pS.ok ?_
 unfold pS.t pS.aM.t
 refine⟨1,?_⟩
 unfold pS.dF.t pS.bF.t
 refine b5 Q fun v aY ⟨b4,T⟩=>?_
 refine T.elim fun aJ aG V=>?_
 refine Kc (r.aS b4) w V rfl D (iY x (by omega)) (iY o (by omega)) fun bL bG NB z s=>?_
 refine r9 s.eH rfl ((r.aS b4).aS z) w y fun dR dA NC u A=>?_
 refine m6 k fun dZ eE ND f Nv=>?_
 refine cN ((O:Int)+1336) (by omega) (by omega) (by omega) ?_
 refine cN ((O+1337:Nat):Int) (by omega) (by omega) (by omega) ?_
 refine vW rfl Nv.eH rfl (by omega) (nS k) q fun bY bW NF h j=>?_
 refine E5 j.eH rfl (((s.eH.aS u).aS f).aS h) rfl q (iY o (by omega)) fun a9 bB NG d B=>?_
 refine E5 (j.eH.aS d) rfl (((A.eH.aS f).aS h).aS d) rfl q y fun cM cO NH e Nw=>?_
 have cQ:(aL (eU (m*2 ^ (O+1337)) (S*P))).length ≠ 0:=fun b=>I (oV.mp b)
 have eF:(aL (eU (m*2 ^ (O+1337)) (S*P+S))).length ≠ 0:=fun b=>J (oV.mp b)
 refine cC (fun _=>?_) fun b=>absurd (by omega) b
 refine cC (fun _=>?_) fun b=>absurd (by omega) b
 refine AV (B.aS e) rfl ?_
 refine AV Nw rfl ?_
 rw [← G]
 refine fN (fun _=>?_) fun b=>absurd rfl b
 refine pH ((j.eH.aS d).aS e) rfl ((((s.eH.aS u).aS f).aS h).aS d |>.aS e) rfl ?_
 refine pH ((j.eH.aS d).aS e) rfl ((((A.eH.aS f).aS h).aS d).aS e) rfl ?_
 have Nx:fD (m*2 ^ (O+1337)) (S*P)=fD (m*2 ^ (O+1337)) (S*P+S):=by
  unfold fD
  rcases F with aI | aI
  ·rw [if_neg (by omega),if_neg (by omega),if_neg (by omega),if_neg (by omega)]
  ·rw [if_pos (by omega),if_pos (by omega)]
 rw [Nx]
 refine fN (fun _=>?_) fun b=>absurd rfl b
 refine cN 1402 (by decide) (by decide) (by decide) ?_
 refine AV (B.aS e) rfl ?_
 have NI:dV (eU (m*2 ^ (O+1337)) (S*P))≤1471:=h7.mpr (Nat.lt_of_le_of_lt H (uL (aC:=1470) (S:=1471) (by decide)))
 refine cN (1402 - (dV (eU (m*2 ^ (O+1337)) (S*P)):Int)) rfl (by omega) (by omega) ⟨?_,rfl⟩
 exact(((((b4.trans z).trans u).trans f).trans h).trans d).trans e
end
theorem uN:∀ K:Nat,K < 54→hW .u64 1 (K:Int)=((2 ^ K:Nat):Int):=by decide
theorem Bp{O:Nat}(a:O < 1036):gO O=oX (O+256):=by
 unfold gO oX
 rw [show 4400 - (O+256)=Nat.sub 4144 O by show _=4144 - O;omega];rfl
theorem Fa{p:Nat}(a:p≤4400):oX p < 2 ^ p:=by
 unfold oX
 rw [Nat.div_lt_iff_lt_mul (Nat.pow_pos (by decide)),← Nat.pow_add,show p+(4400 - p)=4400 by omega]
 exact Nat.le_of_ble_eq_true (by kernel_rfl)
theorem Fb{O:Nat}(a:O < 1036):gO O < 2 ^ 1400:=Nat.lt_trans (by rw [Bp a];exact Fa (p:=O+256) (by omega)) (uL (aC:=O+256) (S:=1400) (by omega))
theorem zB{f a bQ a5:Nat}{up:Bool}{p:Nat × Nat}(b:nD f a bQ a5 up=some p)(d:bQ≤a5):bQ≤p.1∧p.1≤a5:=by
 unfold nD at b
 simp only [kO,wM,Nat.mul_eq,Nat.sub_eq,Nat.succ_eq_add_one,Nat.add_eq] at b
 split at b
 ·rename_i R v bP
  have bI:cond up (jA (a % b8)) (a % b8) < b8:=by
   cases up
   ·exact Nat.mod_lt _ iB
   ·exact sL (Nat.mod_lt _ iB)
  have c:cond up (jA (a % b8*bQ % b8)) (a % b8*bQ % b8) < b8:=by
   cases up
   ·exact Nat.mod_lt _ iB
   ·exact sL (Nat.mod_lt _ iB)
  have aY:=(wN bI c (by omega) bP).1
  have b:=Option.some.inj b
  subst b
  have e:R < a5 - bQ+1:=aY
  exact⟨by show bQ≤bQ+R;omega,by show bQ+R≤a5;omega⟩
 ·cases b
section
variable {Z:U} {K O:Nat}
def Bq(Z:U)(m S N:Nat)(v:Value)(aB:U):Prop:=
 bC Z aB∧∃ a c,v=.tuple #[.agg #[.int .u64 (m:Int),.slice a (aL S).length c,.int .i64 (o1 1400 N S)],.int .i64 0]∧cZ dT Z aB a c (aL S)
theorem Br{a:M}{c m aE:Nat}{up:Bool}{aV Z:U}{bV:List Value}(g:bC aV Z)(p:aV.size≤aE)(aN:dU Z aE bV)(q:bV.length=3)(s:O < 1036)(r:cD Z a c (aL (gO O)))(d:m < 18446744073709551616)
  (u:Told 1400 (m*2 ^ (O+1337)) (hU (gO O) m up)) :
  jW.bF.t (Bq aV m (hU (gO O) m up) (m*2 ^ (O+1337))) ((O:Int) - 64) ⟨aE,0,none⟩ a (aL (gO O)).length c (m:Int) up Z:=by
 have h:gO O < 2 ^ 1400:=Fb s
 have v:hU (gO O) m up < 2 ^ 2000:=by
  have aY:=y8 (wI d) h
  have i:m*gO O / b8≤m*gO O:=Nat.div_le_self _ _
  obtain⟨b,w,j⟩:∃ b,b < 2000∧m*gO O / b8+1 < 2 ^ b:=⟨64+1400+1,by decide,EZ (Nat.lt_of_le_of_lt i aY)⟩
  have k:hU (gO O) m up≤m*gO O / b8+1:=by unfold hU;cases up <;> simp only [Nat.add_eq,Bo,Nat.mul_eq,cond_true,cond_false] <;> omega
  exact Nat.lt_of_le_of_lt k (Nat.lt_trans j (uL (aC:=b) (S:=2000) w))
 unfold Bq
 unfold jW.bF.t
 refine E4 r rfl h d fun aJ aG aY b4 n=>?_
 refine Kf n.eH rfl d (by omega) v u fun i e=>?_
 have x:=aN.lt
 generalize hU (gO O) m up=S at *
 generalize o1 1400 (m*2 ^ (O+1337)) S=D at *
 match bV,q with
 | [E,F,G],_=>
  refine jR ((aN.aS b4).aS e) (S:=0) (by simp) fun j y z=>?_
  refine jR y (S:=1) (by simp) fun k A B=>?_
  refine jR A (S:=2) (by simp) fun H f C=>?_
  refine fS f (S:=0) (t:=.u64) (N:=(m:Int)) (by simp) ?_
  refine oN f (S:=1) (a:=aJ) (l:=(aL S).length) (c:=aG) (by simp) ?_
  refine fS f (S:=2) (t:=.i64) (N:=D) (by simp) ?_
  have o:=(z.trans B).trans C
  exact⟨b2.aS ((g.trans b4).trans e) o p,aJ,aG,rfl,((n.aS e).cG x o).from g.le⟩
theorem Fc{f a bQ a5 m:Nat}{up:Bool}(Z:pT f a bQ a5=some (m,up)):
  ∃ b N,nD f a bQ a5 true=some (b,N)∧((nF a bQ a5≤a5∧∃ c aQ,nD f a (nF a bQ a5) a5 false=some (c,aQ)∧((N≤aQ∧m=b∧up=true)∨(aQ < N∧m=c∧up=false)))∨(¬ nF a bQ a5≤a5∧m=b∧up=true)):=by
 unfold pT at Z
 split at Z
 ·cases Z
 ·rename_i b N aY
  rw [kO,pR] at Z
  refine⟨b,N,aY,?_⟩
  split at Z
  ·rename_i d
   left
   refine⟨d,?_⟩
   split at Z
   ·cases Z
   ·rename_i c aQ e
    refine⟨c,aQ,e,?_⟩
    rw [pR] at Z
    split at Z
    ·have Z:=Option.some.inj Z;cases Z;exact Or.inl ⟨by assumption,rfl,rfl⟩
    ·have Z:=Option.some.inj Z;cases Z;exact Or.inr ⟨by omega,rfl,rfl⟩
  ·right
   have Z:=Option.some.inj Z;cases Z
   exact⟨by assumption,rfl,rfl⟩
theorem q6{K:Nat}(a:K < 53):1≤2 ^ K∧2 ^ K≤4503599627370496∧2 ^ (K+1)=2 ^ K+2 ^ K:=by
 refine⟨Nat.pow_pos (by decide),?_,by rw [Nat.pow_succ];omega⟩
 exact Nat.le_trans (Nat.pow_le_pow_right (by decide) (show K≤52 by omega)) (by decide)
theorem Fe(Z:U)(A:K < 53)(h:O < 1036){m:Nat}{up:Bool}(B:pT 80 (gO O) (2 ^ K) (2 ^ (K+1) - 1)=some (m,up))(n:Told 1400 (m*2 ^ (O+1337)) (hU (gO O) m up)):
  a0 jW.id #[.int .i64 ((K+1:Nat):Int),.int .i64 ((O:Int) - 64)] Z (Bq Z m (hU (gO O) m up) (m*2 ^ (O+1337))):=by
 obtain⟨fG,eM,gU⟩:=q6 A
 obtain⟨J,N,aY,o⟩:=Fc B
 have C:=Bp h
 have q:=Fb h
 refine jW.ok ?_
 unfold jW.t jW.aM.t
 refine eX fun i D E=>?_
 refine cC (fun b=>absurd b (by omega)) fun _=>?_
 refine cC (fun b=>absurd b (by omega)) fun _=>?_
 refine cC (fun b=>absurd b (by omega)) fun _=>?_
 refine cC (fun b=>absurd b (by omega)) fun _=>?_
 unfold jW.aZ.t
 have X:a0 sM.id #[.int .i64 ((O:Int) - 64)] i fun v aB=>bC i aB∧eT i aB v (aL (gO O),0):=by
  refine sM.ok ?_
  unfold sM.t sM.aM.t
  refine cN ((O+256:Nat):Int) (by omega) (by omega) (by omega) ?_
  refine b5 (JV i (by omega) (by omega)) fun v F ⟨j,k⟩=>?_
  rw [← C] at k
  exact k.hZ fun a c r R=>⟨j,eT.back (p:=(aL (gO O),0)) r R⟩
 refine b5 X fun v F ⟨j,k⟩=>?_
 refine k.elim fun dR dA g=>?_
 refine jB (fun b=>absurd rfl b) fun _=>?_
 refine cN (K:Int) (by omega) (by omega) (by omega) ?_
 refine⟨by omega,a6.mk ?_⟩
 rw [uN K (by omega)]
 refine⟨by omega,a6.mk ?_⟩
 rw [uN (K+1) (by omega)]
 refine c3 (2 ^ (K+1) - 1) (by omega) (by omega) ?_
 have l:2 ^ K≤2 ^ (K+1) - 1:=by omega
 have b:2 ^ (K+1) - 1 < 9007199254740992:=by omega
 generalize 2 ^ (K+1) - 1=a5 at *
 generalize 2 ^ K=bQ at *
 have x:=zB aY l
 refine E3 aY g rfl q l b fun dZ eE P d G=>?_
 refine Kb (g.aS d) rfl q fG l b fun Q e=>?_
 have T:=y9 (N:=gO O) l
 have s:=((E.trans j).trans d).trans e
 have u:=((D.aS j).aS d).aS e
 rcases o with ⟨w,V,aQ,y,o⟩ | ⟨w,rfl,rfl⟩
 ·refine cC (fun _=>?_) fun b=>absurd (by omega) b
  have H:=zB y w
  refine E3 y ((g.aS d).aS e) rfl q w b fun a9 bB Nv f I=>?_
  refine pH I rfl ((G.aS e).aS f) rfl ?_
  rcases o with ⟨z,rfl,rfl⟩ | ⟨z,rfl,rfl⟩
  ·refine cC (fun b=>absurd (qY.mp b) (by show ¬ aQ < N;omega)) fun _=>?_
   exact Br (s.trans f) (Nat.le_refl _) (u.aS f) rfl h (((g.aS d).aS e).aS f) (by have:m≤a5:=x.2;omega) n
  ·refine cC (fun _=>?_) fun b=>absurd (qY.mpr (show aQ < N from z)) b
   exact Br (s.trans f) (Nat.le_refl _) (u.aS f) rfl h (((g.aS d).aS e).aS f) (by have:m≤a5:=H.2;omega) n
 ·refine cC (fun b=>absurd b (by omega)) fun _=>?_
  exact Br s (Nat.le_refl _) u rfl h ((g.aS d).aS e) (by have:m≤a5:=x.2;omega) n
end
theorem Bs{aQ:Nat}(Z:aQ < b8):∃ c,aQ+jA aQ=b8*c:=by
 rw [Bn]
 by_cases aV:aQ=0
 ·rw [if_pos aV];exact⟨0,by omega⟩
 ·rw [if_neg aV];exact⟨1,by omega⟩
theorem Ff(a bQ R:Nat):((jA (a % b8*bQ % b8)+R*jA (a % b8)) % b8+(bQ+R)*a) % b8=0:=by
 rw [Nat.mod_add_mod]
 obtain⟨aG,aY⟩:=Bs (Nat.mod_lt a iB)
 obtain⟨bG,e⟩:=Bs (Nat.mod_lt (a % b8*bQ) iB)
 have b:=Nat.div_add_mod a b8
 have f:=Nat.div_add_mod (a % b8*bQ) b8
 generalize jA (a % b8*bQ % b8)=cU at *
 generalize jA (a % b8)=v at *
 generalize a % b8*bQ % b8=aA at *
 generalize a % b8*bQ / b8=b1 at *
 generalize bI:a % b8=aI at *
 have O:cU+R*v+(bQ+R)*a=b8*(bG+b1+R*aG+(bQ+R)*(a / b8)):=by
  have g:(bQ+R)*a=(bQ+R)*(b8*(a / b8))+bQ*aI+R*aI:=by
   conv=>lhs;rw [← b]
   rw [Nat.mul_add,Nat.add_mul bQ R aI];omega
  have h:R*aI+R*v=R*(b8*aG):=by rw [← Nat.mul_add,aY]
  have c:(bQ+R)*(b8*(a / b8))=b8*((bQ+R)*(a / b8)):=Nat.mul_left_comm _ _ _
  have d:R*(b8*aG)=b8*(R*aG):=Nat.mul_left_comm _ _ _
  have i:aI*bQ=bQ*aI:=Nat.mul_comm _ _
  rw [Nat.mul_add,Nat.mul_add,Nat.mul_add,← c,← d]
  omega
 rw [O,Nat.mul_mod_right]
theorem Fg(a bQ R:Nat):(a % b8*bQ % b8+R*(a % b8)) % b8=((bQ+R)*a) % b8:=by
 have b:=Nat.div_add_mod a b8
 rw [Nat.mod_add_mod]
 have O:(bQ+R)*a=a % b8*bQ+R*(a % b8)+b8*((bQ+R)*(a / b8)):=by
  have c:(bQ+R)*(b8*(a / b8))=b8*((bQ+R)*(a / b8)):=Nat.mul_left_comm _ _ _
  have d:a % b8*bQ=bQ*(a % b8):=Nat.mul_comm _ _
  rw [← c,d,← Nat.add_mul]
  conv=>lhs;rw [← b]
  rw [Nat.mul_add];omega
 rw [O,Nat.add_mul_mod_self_left]
theorem Bt{cH a1 aQ S:Nat}(b:a1 < cH)(Z:(a1+aQ) % cH=0)(c:aQ < S*cH):a1+aQ≤S*cH:=by
 have aY:=Nat.div_add_mod (a1+aQ) cH
 rw [Z,Nat.add_zero] at aY
 by_cases a:(a1+aQ) / cH≤S
 ·have:=Nat.mul_le_mul_left cH a
  rw [Nat.mul_comm cH S] at this;omega
 ·have:=Nat.mul_le_mul_left cH (show S+1≤(a1+aQ) / cH by omega)
  rw [Nat.mul_add,Nat.mul_one,Nat.mul_comm cH S] at this;omega
theorem Kg{cH a1 aQ:Nat}(a:a1 < cH)(Z:(a1+aQ) % cH=0)(d:aQ % cH ≠ 0):a1+aQ=(aQ / cH+1)*cH:=by
 have e:=Nat.div_add_mod aQ cH
 have f:=Nat.mod_lt aQ (show 0 < cH by omega)
 have g:a1+aQ≤(aQ / cH+1)*cH:=Bt a Z (by rw [Nat.add_mul,Nat.one_mul,Nat.mul_comm];omega)
 have aY:=Nat.div_add_mod (a1+aQ) cH
 rw [Z,Nat.add_zero] at aY
 have b:aQ / cH < (a1+aQ) / cH:=by
  refine Nat.lt_of_not_le fun c=>?_
  have:=Nat.mul_le_mul_left cH c;omega
 have:=Nat.mul_le_mul_left cH (show aQ / cH+1≤(a1+aQ) / cH from b)
 rw [Nat.mul_comm cH (aQ / cH+1)] at this;omega
theorem Fh{cH aQ S:Nat}(a:0 < cH)(Z:S*cH≤aQ):S*cH+aQ % cH≤aQ:=by
 have b:=Nat.div_add_mod aQ cH
 have:=Nat.mul_le_mul_left cH ((Nat.le_div_iff_mul_le a).mpr Z)
 rw [Nat.mul_comm cH S] at this;omega
theorem Kh{f a bQ a5 m N:Nat}(b:nD f a bQ a5 true=some (m,N))(g:bQ≤a5):
  N < b8∧(N+m*a) % b8=0∧∀ eD,bQ≤eD→eD≤a5→∀ cV,eD*a < cV*b8→N+eD*a≤cV*b8:=by
 unfold nD at b
 simp only [kO,wM,Nat.mul_eq,Nat.sub_eq,Nat.succ_eq_add_one,Nat.add_eq,cond_true] at b
 split at b
 ·rename_i R v bP
  obtain⟨aY,c,d⟩:=wN (sL (Nat.mod_lt _ iB)) (sL (Nat.mod_lt _ iB)) (by omega) bP
  have b:=Option.some.inj b
  cases b
  simp only at aY c d
  refine⟨by rw [← c];exact Nat.mod_lt _ iB,by rw [← c];exact Ff a bQ R,fun eD h i cV e=>?_⟩
  obtain⟨aC,rfl⟩:∃ aC,eD=bQ+aC:=⟨eD - bQ,by omega⟩
  have j:=d aC (by omega)
  have k:=Bt (Nat.mod_lt _ iB) (Ff a bQ aC) e
  omega
 ·cases b
theorem Ki{f a bQ a5 m aQ:Nat}(b:nD f a bQ a5 false=some (m,aQ))(h:bQ≤a5):
  aQ=(m*a) % b8∧∀ eD,bQ≤eD→eD≤a5→∀ cV,cV*b8≤eD*a→cV*b8+aQ≤eD*a:=by
 unfold nD at b
 simp only [kO,wM,Nat.mul_eq,Nat.sub_eq,Nat.succ_eq_add_one,Nat.add_eq,cond_false] at b
 split at b
 ·rename_i R v bP
  obtain⟨aY,c,d⟩:=wN (Nat.mod_lt _ iB) (Nat.mod_lt _ iB) (by omega) bP
  have b:=Option.some.inj b
  cases b
  simp only at aY c d
  refine⟨by rw [← c];exact Fg a bQ R,fun eD i j cV e=>?_⟩
  obtain⟨aC,rfl⟩:∃ aC,eD=bQ+aC:=⟨eD - bQ,by omega⟩
  have g:=d aC (by omega)
  rw [Fg] at g
  have k:=Fh iB e
  omega
 ·cases b
def Sep(a dW:Nat):Prop:=∀ aC aF,0 < aC→aC < 18014398509481984→(aC*a < aF*b8→aC*a+dW≤aF*b8)∧(aF*b8≤aC*a→aF*b8+dW≤aC*a)
theorem Fi{aI:Nat}(bI:aI < b8)(Z:uO aI=true):∀ aC,0 < aC→aC < 18014398509481984→2 ^ 150≤(aC*aI) % b8:=by
 unfold uO at Z
 split at Z
 ·cases Z
 ·rename_i R v bP
  obtain⟨_,_,b⟩:=wN bI bI (by decide) bP
  have c:2 ^ 150≤v:=Nat.le_of_ble_eq_true Z
  intro aC aV aY
  have a:=b (aC - 1) (by omega)
  have O:aI+(aC - 1)*aI=aC*aI:=by
   conv=>rhs;rw [show aC=aC - 1+1 by omega]
   rw [Nat.add_mul,Nat.one_mul];omega
  rw [O] at a
  exact Nat.le_trans c a
theorem Kj{a:Nat}(aY:uO (a % b8)=true)(g:uO (jA (a % b8))=true):Sep a (2 ^ 150):=by
 intro aC aF d e
 have h:=Fi (Nat.mod_lt a iB) aY aC d e
 have l:=Fi (sL (Nat.mod_lt a iB)) g aC d e
 have f:(aC*(a % b8)) % b8=(aC*a) % b8:=Nat.mul_mod_mod aC a b8
 rw [f] at h
 obtain⟨c,i⟩:=Bs (Nat.mod_lt a iB)
 have j:((aC*jA (a % b8)) % b8+aC*a) % b8=0:=by
  rw [Nat.mod_add_mod,Nat.add_mod,← f,← Nat.add_mod,← Nat.mul_add,Nat.add_comm,i,Nat.mul_left_comm,Nat.mul_mod_right]
 have k:=Nat.mod_lt (aC*jA (a % b8)) iB
 generalize 2 ^ 150=dW at *
 refine⟨fun b=>?_,fun b=>?_⟩
 ·have:=Bt k j b;omega
 ·have:=Fh iB b;omega
structure q7(a bQ a5 m S aT:Nat):Prop where
 nE:bQ≤m
 n0:m≤a5
 b4:1≤S
 eq:aT+m*a=S*b8∨S*b8+aT=m*a
 le:∀ eD cV,bQ≤eD→eD≤a5→1≤cV→(eD*a < cV*b8→aT+eD*a≤cV*b8)∧(cV*b8≤eD*a→cV*b8+aT≤eD*a)
theorem uP(a m:Nat):hU a m true=m*a / b8+1:=rfl
theorem Fj(a m:Nat):hU a m false=m*a / b8:=rfl
theorem Kk{f a bQ a5 m dW:Nat}{up:Bool}(w:pT f a bQ a5=some (m,up))(k:bQ≤a5)(F:1≤bQ)(G:a5 < 9007199254740992)(H:0 < dW)(sep:Sep a dW):
  ∃ aT,q7 a bQ a5 m (hU a m up) aT∧(up=true→aT+m*a=hU a m up*b8)∧(up=false→hU a m up*b8+aT=m*a):=by
 obtain⟨g,N,aY,l⟩:=Fc w
 have p:=zB aY k
 obtain⟨eB,x,n⟩:=Kh aY k
 have h:=y9 (N:=a) k
 have q:bQ≤g:=p.1
 have r:g≤a5:=p.2
 have y:(g*a) % b8 ≠ 0:=by
  intro I
  have o:=Nat.div_add_mod (g*a) b8
  have:=(sep g (g*a / b8) (by omega) (by omega)).2 (by rw [Nat.mul_comm];omega)
  rw [Nat.mul_comm] at this;omega
 have i:=Kg eB x y
 rcases l with ⟨j,s,aQ,o,l⟩ | ⟨j,rfl,rfl⟩
 ·have t:=zB o j
  have z:nF a bQ a5≤s:=t.1
  have A:s≤a5:=t.2
  obtain⟨B,C⟩:=Ki o j
  have u:∀ eD cV,bQ≤eD→eD≤a5→1≤cV→cV*b8≤eD*a→cV*b8+aQ≤eD*a:=by
   intro eD cV c d e b
   refine C eD (Nat.le_of_not_lt fun D=>?_) d cV b
   have:=h.under eD c D
   have:=Nat.mul_le_mul_right b8 e;omega
  rcases l with ⟨E,rfl,rfl⟩ | ⟨E,rfl,rfl⟩
  ·refine⟨N,⟨q,r,by rw [uP];exact Nat.le_add_left 1 _,Or.inl (by rw [uP];exact i),fun eD cV c d e=>⟨fun b=>n eD c d cV b,fun b=>?_⟩⟩,fun _=>by rw [uP];exact i,fun b=>(by cases b)⟩
   have:=u eD cV c d e b;omega
  ·have e:1≤hU a m false:=by
    rw [Fj]
    have:=h.pQ j
    have:=Nat.mul_le_mul_right a z
    exact Nat.div_pos (by omega) iB
   have v:hU a m false*b8+aQ=m*a:=by
    rw [Fj,B,Nat.mul_comm];exact Nat.div_add_mod _ _
   refine⟨aQ,⟨by have:=h.nE;omega,A,e,Or.inr v,fun eD cV c d e=>⟨fun b=>?_,fun b=>u eD cV c d e b⟩⟩,fun b=>(by cases b),fun _=>v⟩
   have:=n eD c d cV b;omega
 ·refine⟨N,⟨q,r,by rw [uP];exact Nat.le_add_left 1 _,Or.inl (by rw [uP];exact i),fun eD cV c d e=>⟨fun b=>n eD c d cV b,fun b=>?_⟩⟩,fun _=>by rw [uP];exact i,fun b=>(by cases b)⟩
  have:=h.under eD c (by have:=h.n0;omega)
  have:=Nat.mul_le_mul_right b8 e;omega
theorem q7.zC{a bQ a5 m S aT dW:Nat}(K:q7 a bQ a5 m S aT)(o:1≤bQ)(p:a5 < 9007199254740992)(q:0 < dW)(sep:Sep a dW){eD cV:Nat}(h:bQ≤eD)(i:eD≤a5)(j:1≤cV)(k:eD ≠ m):
  (eD*a < cV*b8→aT+dW+eD*a≤cV*b8)∧(cV*b8≤eD*a→cV*b8+(aT+dW)≤eD*a):=by
 have aY:=K.le eD cV h i j
 have aH:=K.nE
 have bX:=K.n0
 have key:∀ (aQ bM:Nat),(aQ=eD*a∧bM=cV*b8∨bM=eD*a∧aQ=cV*b8)→aT+aQ≤bM→aT+dW+aQ≤bM:=by
  intro aQ bM g r
  refine Nat.le_of_not_lt fun s=>?_
  have l:=sep (m+eD) (S+cV) (by omega) (by omega)
  rw [Nat.add_mul,Nat.add_mul] at l
  rcases Nat.lt_or_gt_of_ne k with n | n
  ·have c:(m - eD)*a=m*a - eD*a:=Nat.sub_mul _ _ _
   have l5:eD*a≤m*a:=Nat.mul_le_mul_right a (by omega)
   have d:=sep (m - eD) (S - cV) (by omega) (by omega)
   have dG:=(sep (m - eD) 0 (by omega) (by omega)).2 (by omega)
   rw [Nat.zero_mul,Nat.zero_add] at dG
   have e:(S - cV)*b8=S*b8 - cV*b8:=Nat.sub_mul _ _ _
   rw [c,e] at d
   rw [c] at dG
   have lH:S≤cV→S*b8≤cV*b8:=fun Z=>Nat.mul_le_mul_right b8 Z
   have k5:cV≤S→cV*b8≤S*b8:=fun Z=>Nat.mul_le_mul_right b8 Z
   rcases K.eq with O | O <;> rcases g with ⟨rfl,rfl⟩ | ⟨rfl,rfl⟩ <;> rcases Nat.le_total S cV with b | b <;> (first | have:=lH b | have:=k5 b) <;> omega
  ·have c:(eD - m)*a=eD*a - m*a:=Nat.sub_mul _ _ _
   have l5:m*a≤eD*a:=Nat.mul_le_mul_right a (by omega)
   have d:=sep (eD - m) (cV - S) (by omega) (by omega)
   have dG:=(sep (eD - m) 0 (by omega) (by omega)).2 (by omega)
   rw [Nat.zero_mul,Nat.zero_add] at dG
   have e:(cV - S)*b8=cV*b8 - S*b8:=Nat.sub_mul _ _ _
   rw [c,e] at d
   rw [c] at dG
   have lH:S≤cV→S*b8≤cV*b8:=fun Z=>Nat.mul_le_mul_right b8 Z
   have k5:cV≤S→cV*b8≤S*b8:=fun Z=>Nat.mul_le_mul_right b8 Z
   rcases K.eq with O | O <;> rcases g with ⟨rfl,rfl⟩ | ⟨rfl,rfl⟩ <;> rcases Nat.le_total S cV with b | b <;> (first | have:=lH b | have:=k5 b) <;> omega
 refine⟨fun f=>key _ _ (Or.inl ⟨rfl,rfl⟩) (aY.1 f),fun f=>?_⟩
 have:=key (cV*b8) (eD*a) (Or.inr ⟨rfl,rfl⟩) (by have:=aY.2 f;omega)
 omega
theorem q7.half{a bQ a5 m S aT dW:Nat}(K:q7 a bQ a5 m S aT)(g:1≤bQ)(h:a5 < 9007199254740992)(i:0 < dW)(sep:Sep a dW)(c:2≤S∨S*b8+aT=m*a):aT+aT+dW≤b8:=by
 have aH:=K.nE
 have bX:=K.n0
 have j:=iB
 have two:=sep (2*m)
 rcases K.eq with O | O
 ·
  rcases c with c | c
  ·have d:(S - 1)*b8=S*b8 - b8:=by rw [Nat.sub_mul,Nat.one_mul]
   have l5:b8≤S*b8:=Nat.le_mul_of_pos_left b8 (by omega)
   have aY:=(K.le m (S - 1) aH bX (by omega))
   rw [d] at aY
   have e:(2*S - 1)*b8=2*(S*b8) - b8:=by rw [Nat.sub_mul,Nat.one_mul,Nat.mul_assoc]
   have f:2*m*a=2*(m*a):=Nat.mul_assoc _ _ _
   have b:=two (2*S - 1) (by omega) (by omega)
   rw [e,f] at b
   omega
  ·have b:=two (2*S) (by omega) (by omega)
   rw [Nat.mul_assoc,Nat.mul_assoc] at b
   omega
 ·have aY:=(K.le m (S+1) aH bX (by omega))
  have d:(S+1)*b8=S*b8+b8:=by rw [Nat.add_mul,Nat.one_mul]
  rw [d] at aY
  have e:(2*S+1)*b8=2*(S*b8)+b8:=by rw [Nat.add_mul,Nat.one_mul,Nat.mul_assoc]
  have f:2*m*a=2*(m*a):=Nat.mul_assoc _ _ _
  have b:=two (2*S+1) (by omega) (by omega)
  rw [e,f] at b
  omega
structure uQ(a P T:Nat):Prop where
 le:a*P≤T
 lt:T < (a+1)*(P+1)
 ap:a+1≤P
theorem uQ.rest{a P T:Nat}(aI:uQ a P T):∃ r,T=a*P+r∧r≤2*P:=by
 have aY:=aI.le;have b:=aI.lt;have c:=aI.ap
 refine⟨T - a*P,by omega,?_⟩
 rw [Nat.add_mul,Nat.mul_add,Nat.mul_one,Nat.one_mul] at b;omega
theorem Bu{cH a P T m S D N r:Nat}(b:T=a*P+r)(c:cH*N=m*T)(d:0 < cH)(Z:S*cH+D=m*a):S*P≤N∧cH*eU N (S*P)=D*P+m*r:=by
 have f:cH*N=cH*(S*P)+(D*P+m*r):=by
  rw [c,b,Nat.mul_add,← Nat.mul_assoc,← Z,Nat.add_mul,Nat.mul_assoc,Nat.mul_left_comm];omega
 have aY:S*P≤N:=Nat.le_of_mul_le_mul_left (by omega) d
 have e:eU N (S*P)=N - S*P:=if_neg (by omega)
 refine⟨aY,?_⟩
 rw [e,Nat.mul_sub];omega
theorem zD{cH a P T m S D N r:Nat}(b:T=a*P+r)(c:cH*N=m*T)(d:0 < cH)(Z:D+m*a=S*cH)(g:m*r≤D*P):N≤S*P∧cH*eU N (S*P)+m*r=D*P:=by
 have h:cH*N+D*P=cH*(S*P)+m*r:=by
  have e:cH*(S*P)=D*P+m*a*P:=by rw [← Nat.mul_assoc,Nat.mul_comm cH S,← Z,Nat.add_mul]
  rw [c,b,Nat.mul_add,e,← Nat.mul_assoc];omega
 have aY:N≤S*P:=Nat.le_of_mul_le_mul_left (by omega) d
 have f:eU N (S*P)=S*P - N:=by unfold eU;split <;> omega
 refine⟨aY,?_⟩
 rw [f,Nat.mul_sub];omega
theorem Kl{a bQ a5 m S aT dW P T G:Nat}(K:q7 a bQ a5 m S aT)(k:1≤bQ)(l:a5 < 9007199254740992)(o:18014398509481984≤dW)(sep:Sep a dW)(p:uQ a P T)(y:b8*G+36028797018963968*P≤dW*P)
  {N eD cV c:Nat} (h:b8*N=m*T) (i:b8*c=eD*T) (q:bQ≤eD) (j:eD≤a5) (s:1≤cV) (t:eD ≠ m):eU N (S*P)+G≤eU c (cV*P):=by
 obtain⟨r,d,u⟩:=p.rest
 have b:=iB
 have bX:=K.n0
 have e:∀ n,n≤a5→n*r≤18014398509481984*P:=fun n z=>by
  have aY:=Nat.mul_le_mul (show n≤9007199254740992 by omega) u
  omega
 have zC:=K.zC k l (by omega) sep q j s t
 have A:dW*P≤aT*P+dW*P:=Nat.le_add_left _ _
 have B:(aT+dW)*P=aT*P+dW*P:=Nat.add_mul _ _ _
 have C:18014398509481984*P≤dW*P:=Nat.mul_le_mul_right P o
 have aY:b8*eU N (S*P)≤aT*P+18014398509481984*P:=by
  rcases K.eq with O | O
  ·have v:dW≤aT:=by
    have:=(sep m S (by have:=K.nE;omega) (by omega)).1
    have:=(sep m S (by have:=K.nE;omega) (by omega)).2
    omega
   have E:dW*P≤aT*P:=Nat.mul_le_mul_right P v
   have:=(zD d h b O (by have:=e m bX;omega)).2;omega
  ·have:=(Bu d h b O).2
   have:=e m bX;omega
 have F:aT*P+dW*P≤b8*eU c (cV*P)+18014398509481984*P:=by
  have:=e eD j
  by_cases w:eD*a < cV*b8
  ·obtain⟨D,f⟩:∃ D,D+eD*a=cV*b8:=⟨cV*b8 - eD*a,by omega⟩
   have g:aT+dW≤D:=by have:=zC.1 w;omega
   have x:(aT+dW)*P≤D*P:=Nat.mul_le_mul_right P g
   have:=(zD d i b f (by omega)).2;omega
  ·obtain⟨D,f⟩:∃ D,cV*b8+D=eD*a:=⟨eD*a - cV*b8,by omega⟩
   have g:aT+dW≤D:=by have:=zC.2 (by omega);omega
   have x:(aT+dW)*P≤D*P:=Nat.mul_le_mul_right P g
   have:=(Bu d i b f).2;omega
 refine Nat.le_of_mul_le_mul_left (show b8*(eU N (S*P)+G)≤b8*eU c (cV*P) from ?_) b
 rw [Nat.mul_add];omega
theorem Km{a1 P S:Nat}(d:0 < P)(Z:2*eU a1 (S*P) < P):hC a1 P=S:=by
 unfold eU at Z
 unfold hC
 by_cases a:a1 < S*P
 ·rw [if_pos a] at Z
  obtain⟨aC,rfl⟩:∃ aC,S=aC+1:=⟨S - 1,by
   have:S ≠ 0:=fun O=>by rw [O,Nat.zero_mul] at a;omega
   omega⟩
  rw [Nat.add_mul,Nat.one_mul] at Z a
  have O:a1=(a1 - aC*P)+aC*P:=by omega
  have b:a1 / P=aC:=by rw [O,Nat.add_mul_div_right _ _ d,Nat.div_eq_of_lt (show a1 - aC*P < P by omega),Nat.zero_add]
  have c:a1 % P=a1 - aC*P:=by rw [O,Nat.add_mul_mod_self_right,Nat.mod_eq_of_lt (show a1 - aC*P < P by omega)];omega
  rw [if_pos (by left;rw [c];omega),b]
 ·rw [if_neg a] at Z
  have O:a1=(a1 - S*P)+S*P:=by omega
  have b:a1 / P=S:=by rw [O,Nat.add_mul_div_right _ _ d,Nat.div_eq_of_lt (show a1 - S*P < P by omega),Nat.zero_add]
  have c:a1 % P=a1 - S*P:=by rw [O,Nat.add_mul_mod_self_right,Nat.mod_eq_of_lt (show a1 - S*P < P by omega)];omega
  rw [if_neg (by rw [c];omega),b]
theorem Fk(a1 P:Nat):hC a1 P≤a1 / P+1:=by unfold hC;split <;> omega
theorem Kn{a bQ a5 m S aT dW P T:Nat}(K:q7 a bQ a5 m S aT)(j:1≤bQ)(k:a5 < 9007199254740992)(l:36028797018963969≤dW)(sep:Sep a dW)(h:uQ a P T)
  {N:Nat} (d:b8*N=m*T):max 1 (hC N P)=S:=by
 obtain⟨r,e,n⟩:=h.rest
 have f:=iB
 have bX:=K.n0
 have aH:=K.nE
 have o:0 < P:=by have:=h.ap;omega
 have u:m*r≤18014398509481984*P:=by
  have aY:=Nat.mul_le_mul (show m≤9007199254740992 by omega) n
  omega
 have v:36028797018963969*P≤dW*P:=Nat.mul_le_mul_right P l
 have b4:=K.b4
 have i:aT+m*a=S*b8→dW≤aT:=fun O=>by
  have:=(sep m S (by omega) (by omega)).1
  have:=(sep m S (by omega) (by omega)).2
  omega
 by_cases g:2≤S∨S*b8+aT=m*a
 ·have b:=K.half j k (by omega) sep g
  have p:(aT+aT+dW)*P≤b8*P:=Nat.mul_le_mul_right P b
  rw [Nat.add_mul,Nat.add_mul] at p
  have aY:b8*eU N (S*P)≤aT*P+18014398509481984*P:=by
   rcases K.eq with O | O
   ·have q:dW*P≤aT*P:=Nat.mul_le_mul_right P (i O)
    have:=(zD e d f O (by omega)).2;omega
   ·have:=(Bu e d f O).2;omega
  have c:2*eU N (S*P) < P:=by
   refine Nat.lt_of_mul_lt_mul_left (show b8*(2*eU N (S*P)) < b8*P from ?_)
   rw [Nat.mul_left_comm];omega
  rw [Km o c];omega
 ·have O:aT+m*a=S*b8:=K.eq.resolve_right fun b=>g (Or.inr b)
  have s:S=1:=by
   have:¬ 2≤S:=fun b=>g (Or.inl b)
   omega
  subst s
  have q:dW*P≤aT*P:=Nat.mul_le_mul_right P (i O)
  obtain⟨aY,c⟩:=zD e d f O (by omega)
  rw [Nat.one_mul] at aY c
  have w:N ≠ P:=by
   intro t
   rw [t] at c
   have:eU P P=0:=by unfold eU;split <;> omega
   rw [this,Nat.mul_zero] at c;omega
  have x:N / P=0:=Nat.div_eq_of_lt (by omega)
  have:=Fk N P
  omega
end Go.Proofs.YtjijdlkpmngolaaGreat.G
