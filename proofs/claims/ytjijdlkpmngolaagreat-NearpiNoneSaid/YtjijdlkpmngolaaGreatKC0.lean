import Derived.Test.YtjijdlkpmngolaaGreatKF
import Derived.Test.YtjijdlkpmngolaaGreatKB
namespace Go.Proofs.YtjijdlkpmngolaaGreat.G
open Go.Gv
theorem Hn{Y:aD}{a:M}{c l:Nat}{L:List Nat}{Z:U}(r:cD Z a c L)(e:l=L.length)(g:Y (.slice a (dI L).length c) Z):
  ∀ n:Nat,n≤L.length→dI (L.take n)=dI L→lA.cJ.t Y (n+1) a l c (n:Int) Z:=by
 have aY:=r.len
 intro n
 have fin:∀ n:Nat,n≤L.length→dI L=L.take n→lA.aZ.t Y a l c (n:Int) Z:=by
  intro n b O
  refine tQ rfl (Nat.le_trans b r.cap) ?_
  have f:(dI L).length=n:=by rw [O,List.length_take];omega
  rw [← f];exact g
 induction n with
 | zero=>
  intro b d
  unfold lA.cJ.t lA.cF.t
  refine cC (fun Z=>absurd Z (by omega)) fun _=>fin 0 b ?_
  rw [← d];rfl
 | succ n bO=>
  intro b d
  refine cC (fun _=>?_) fun Z=>absurd (by omega) Z
  refine cN (n:Int) (by omega) (by omega) (by omega) ?_
  refine fP r (aC:=n) rfl e (by omega) ?_
  have es:=k9 (L:=L) (n:=n) (by omega)
  refine fN (fun h=>?_) fun h=>?_
  ·refine cN (n:Int) (by omega) (by omega) (by omega) ?_
   refine bO (by omega) ?_
   rw [← d,es,show L.getD n 0=0 by omega,tR]
  ·refine fin (n+1) b ?_
   rw [← d,es,vQ _ (by omega)]
theorem vR{a:M}{c l:Nat}{L:List Nat}{Z:U}(r:cD Z a c L)(b:l=L.length):
  a0 lA.id #[.slice a l c] Z fun v aB=>aB=Z∧v=.slice a (dI L).length c∧cD Z a c (dI L):=by
 have d:cD Z a c (dI L):=by
  have:∀ n:Nat,n≤L.length→dI (L.take n)=dI L→∃ m,dI L=L.take m:=by
   intro n
   induction n with
   | zero=>intro _ O;exact⟨0,by rw [← O];rfl⟩
   | succ n bO=>
    intro e O
    have es:=k9 (L:=L) (n:=n) (by omega)
    by_cases aV:L.getD n 0=0
    ·refine bO (by omega) ?_;rw [← O,es,aV,tR]
    ·refine⟨n+1,?_⟩;rw [← O,es,vQ _ aV]
  obtain⟨m,O⟩:=this L.length (Nat.le_refl _) (by rw [List.take_length])
  rw [O];exact r.take m
 refine lA.ok ?_
 unfold lA.t lA.aM.t
 refine⟨L.length+1,?_⟩
 subst b
 exact Hn r rfl ⟨rfl,rfl,d⟩ L.length (Nat.le_refl _) (by rw [List.take_length])
theorem r0{a:M}{c l:Nat}{L:List Nat}{aV Z:U}(g:cZ dT aV Z a c L)(b:l=L.length):
  a0 mK.id #[.slice a l c] Z fun v aB=>aB=Z∧eT aV Z v (fC (val L)):=by
 have r:=g.eH
 refine mK.ok ?_
 unfold mK.t mK.aM.t
 refine b5 (vR r b) fun v aB ⟨d,e,h⟩=>?_
 subst d;subst e
 have O:=k8 r.words
 refine cC (fun f=>?_) fun f=>?_
 ·refine⟨rfl,?_⟩
  unfold fC;rw [O,if_neg (by omega)];exact eT.none
 ·refine⟨rfl,?_⟩
  unfold fC;rw [O,if_pos (by omega)];exact eT.mk rfl rfl g.trim (show In .i64 0 by decide)
theorem mL{a:M}{c l:Nat}{L:List Nat}{Z:U}(r:cD Z a c L)(e:l=L.length):
  a0 j1.id #[.slice a l c] Z fun v aB=>aB=Z∧v=.bool (decide (iK L)):=by
 subst e
 have aY:=r.len
 refine j1.ok ?_
 unfold j1.t j1.aM.t
 refine cC (fun g=>?_) fun g=>?_
 ·refine fN (fun aV=>?_) fun aV=>?_
  ·refine⟨rfl,?_⟩
   have O:L=[]:=List.length_eq_zero_iff.mp (by omega)
   subst O;rfl
  ·refine cN ((L.length - 1:Nat):Int) (by omega) (by omega) (by omega) ?_
   refine fP r (aC:=L.length - 1) rfl rfl (by omega) ⟨rfl,?_⟩
   have d:=@tS L
   by_cases b:L.getD (L.length - 1) 0=0
   ·rw [b]
    have:¬ iK L:=fun f=>by
     rcases d.mp f.2 with O | O
     ·subst O;simp at aV
     ·exact O b
    simp [this]
   ·have:iK L:=⟨by omega,d.mpr (Or.inr b)⟩
    simp only [this,decide_true]
    congr 1
    exact bne_iff_ne.mpr (by omega)
 ·refine⟨rfl,?_⟩
  have:¬ iK L:=fun f=>by have:=f.1;omega
  simp [this]
theorem AD{a:M}{c l:Nat}{L:List Nat}{Z:U}(r:cD Z a c L)(e:l=L.length):
  a0 pC.id #[.slice a l c] Z fun v aB=>bC Z aB∧eT Z aB v (fC (val L)):=by
 refine pC.ok ?_
 unfold pC.t pC.aM.t
 refine b5 (vR r e) fun v aB ⟨f,g,b⟩=>?_
 subst f;subst g
 have O:=k8 r.words
 refine cC (fun h=>?_) fun h=>?_
 ·refine⟨bC.refl _,?_⟩
  unfold fC;rw [O,if_neg (by omega)];exact eT.none
 ·have aY:=b.len
  refine m1 (dI L).length rfl rfl rfl rfl aY fun aY aN S=>?_
  refine x8 aN (b.aS S) (by simp) rfl (Nat.le_refl _) S fun k d i=>?_
  refine⟨i,?_⟩
  unfold fC;rw [O,if_pos (by omega)]
  have j:List.take (List.replicate (dI L).length 0).length (dI L) ++ List.drop (dI L).length (List.replicate (dI L).length 0)=dI L:=by simp
  rw [j] at d
  exact eT.mk (by simp) rfl (d.lS (Nat.le_refl _) (by simp)) (show In .i64 0 by decide)
theorem Ho{Y:aD}{a K:M}{c aT l m:Nat}{L aP:List Nat}{Z:U}(r:cD Z a c L)(aI:cD Z K aT aP)(e:l=L.length)(f:m=aP.length)(h:L.length=aP.length)(g:Y (.bool (decide (L=aP))) Z):
  ∀ S n:Nat,n+S=L.length→L.take n=aP.take n→lU.bJ.t Y (S+1) a l c K m aT (n:Int) Z:=by
 subst e;subst f
 have aY:=r.len
 intro S
 induction S with
 | zero=>
  intro n i d
  refine cC (fun b=>absurd b (by omega)) fun _=>?_
  have O:L=aP:=by
   rw [← List.take_length (l:=L),← List.take_length (l:=aP),← h,show L.length=n by omega];exact d
  show Y (.bool true) Z
  simpa [O] using g
 | succ S bO=>
  intro n i d
  refine cC (fun b=>?_) fun b=>absurd (by omega) b
  refine fP r (aC:=n) rfl rfl (by omega) ?_
  refine fP aI (aC:=n) rfl rfl (by omega) ?_
  refine jB (fun j=>?_) fun k=>?_
  ·have O:L ≠ aP:=fun O=>j (by rw [O])
   simpa [O] using g
  ·refine cN ((n+1:Nat):Int) (by omega) (by omega) (by omega) ?_
   refine bO (n+1) (by omega) ?_
   rw [k9 (by omega),k9 (by omega),d,show L.getD n 0=aP.getD n 0 by omega]
theorem Hp{a K:M}{c aT l m:Nat}{L aP:List Nat}{Z:U}(r:cD Z a c L)(aI:cD Z K aT aP)(b:l=L.length)(d:m=aP.length):
  qE lU.id #[.slice a l c,.slice K m aT] Z fun v=>v=.bool (decide (L=aP)):=by
 refine⟨.bool (decide (L=aP)),?_,rfl⟩
 refine lU.ok ?_
 unfold lU.t lU.aM.t
 refine jB (fun e=>?_) fun f=>?_
 ·have O:L ≠ aP:=fun O=>e (by rw [b,d,O])
  simp [O]
 ·refine⟨l+1,?_⟩
  refine Ho r aI b d (by omega) ⟨rfl,rfl⟩ l 0 (by omega) ?_
  simp
theorem Hq{a K:M}{c aT l m:Nat}{L aP:List Nat}{Z:U}(r:cD Z a c L)(aI:cD Z K aT aP)(b:l=L.length)(d:m=aP.length){aF:Bool→Prop}(g:aF (decide (L=aP))):
  qE lU.id #[.slice a l c,.slice K m aT] Z fun v=>eS v aF:=by
 obtain⟨v,e,O⟩:=Hp r aI b d
 subst O
 exact⟨_,e,g⟩
theorem x9{N:Int}{aQ:Int}{n:Nat}(a:N=(n:Int))(aI p:Nat)(bI:aI≤64)(b:p=2 ^ aI)(c:aQ=(aI:Int)){aF:Int→Prop}(g:aF ((n / p:Nat):Int)):a6 (gP .u64 N aQ) aF:=by
 subst a;subst c;subst b
 refine⟨?_⟩
 show aF (Int.fdiv (n:Int) (2 ^ (min (aI:Int).toNat 64)))
 have O:min (aI:Int).toNat 64=aI:=by omega
 rw [O]
 have d:Int.fdiv (n:Int) (2 ^ aI)=((n / 2 ^ aI:Nat):Int):=by
  rw [Int.fdiv_eq_ediv_of_nonneg _ (Int.le_of_lt (Int.pow_pos (by decide)))]
  norm_cast
 rw [d];exact g
theorem jS{N aQ:Int}(O:N=aQ){aF:Int→Prop}(g:aF aQ):a6 N aF:=by subst O;exact⟨g⟩
theorem Hr{aI:ByteArray}{N:Int}{n:Nat}{K:UInt8}(a:N=(n:Int))(O:aI[n]?=some K){aF:Int→Prop}(g:aF (K.toNat:Int)):u4 aI N aF:=by
 subst a
 refine⟨by omega,?_⟩
 rw [Int.toNat_natCast,O];exact g
theorem Hs:(List.range 256).all (fun N=>decide ((⟨#[0,1,2,2,3,3,3,3,4,4,4,4,4,4,4,4,5,5,5,5,5,5,5,5,5,5,5,5,5,5,5,5,6,6,6,6,6,6,6,6,6,6,6,6,6,6,6,6,6,6,6,6,6,6,6,6,6,6,6,6,6,6,6,6,7,7,7,7,7,7,7,7,7,7,7,7,7,7,7,7,7,7,7,7,7,7,7,7,7,7,7,7,7,7,7,7,7,7,7,7,7,7,7,7,7,7,7,7,7,7,7,7,7,7,7,7,7,7,7,7,7,7,7,7,7,7,7,7,8,8,8,8,8,8,8,8,8,8,8,8,8,8,8,8,8,8,8,8,8,8,8,8,8,8,8,8,8,8,8,8,8,8,8,8,8,8,8,8,8,8,8,8,8,8,8,8,8,8,8,8,8,8,8,8,8,8,8,8,8,8,8,8,8,8,8,8,8,8,8,8,8,8,8,8,8,8,8,8,8,8,8,8,8,8,8,8,8,8,8,8,8,8,8,8,8,8,8,8,8,8,8,8,8,8,8,8,8,8,8,8,8,8,8,8,8,8,8,8,8,8,8,8,8,8,8,8]⟩:ByteArray)[N]?=some (UInt8.ofNat (dV N))))=true:=by decide +kernel
theorem Df{Y:aD}{n aI:Nat}{N aQ:Int}(b:N=(n:Int))(c:aQ=(aI:Int))(d:n < 256)(bI:aI≤64){Z:U}(g:Y (.int .i64 ((aI+dV n:Nat):Int)) Z):lV.cF.t Y N aQ Z:=by
 subst b;subst c
 unfold lV.cF.t
 have h:dV n≤8:=h7.mpr (by omega)
 have a:=List.all_eq_true.mp Hs n (by simpa using d)
 have a:=of_decide_eq_true a
 have e:IntKind.u8.wrap (n:Int)=(n:Int):=by
  simp only [IntKind.wrap,IntKind.bits,IntKind.signed,Bool.false_and,Bool.false_eq_true,if_false];omega
 refine jS e ?_
 refine Hr rfl a ?_
 have f:((UInt8.ofNat (dV n)).toNat:Int)=(dV n:Int):=by
  rw [UInt8.toNat_ofNat'];omega
 refine cN (dV n:Int) f (by omega) (by omega) ?_
 refine cN ((aI+dV n:Nat):Int) (by omega) (by omega) (by omega) ?_
 exact g
theorem Dg{N:Int}{n:Nat}(a:N=(n:Int))(h:n < 18446744073709551616)(Z:U):
  a0 lV.id #[.int .u64 N] Z fun v aB=>aB=Z∧v=.int .i64 (dV n:Int):=by
 subst a
 refine lV.ok ?_
 unfold lV.t lV.aM.t
 have low:∀ (m aI:Nat) (N aQ:Int),N=(m:Int)→aQ=(aI:Int)→m < 65536→aI≤48→aI+dV m=dV n→lV.bF.t (fun v aB=>aB=Z∧v=.int .i64 (dV n:Int)) N aQ Z:=by
  intro m aI N aQ a d g bI O
  subst a;subst d
  unfold lV.bF.t
  refine cC (fun b=>⟨by omega,?_⟩) fun b=>?_
  ·refine x9 rfl 8 256 (by omega) (by omega) rfl ?_
   refine cN ((aI+8:Nat):Int) (by omega) (by omega) (by omega) ?_
   have:=rX m 8
   have e:8 < dV m:=Nat.lt_of_not_le fun c=>by have:=h7.mp c;omega
   refine Df rfl rfl (by omega) (by omega) ⟨rfl,?_⟩
   rw [← O,show(256:Nat)=2 ^ 8 by decide,this]
   congr 2;omega
  ·refine Df rfl rfl (by omega) (by omega) ⟨rfl,by rw [O]⟩
 have f:∀ (m aI:Nat) (N aQ:Int),N=(m:Int)→aQ=(aI:Int)→m < 4294967296→aI≤32→aI+dV m=dV n→lV.aZ.t (fun v aB=>aB=Z∧v=.int .i64 (dV n:Int)) N aQ Z:=by
  intro m aI N aQ a d g bI O
  subst a;subst d
  unfold lV.aZ.t
  refine cC (fun b=>⟨by omega,?_⟩) fun b=>?_
  ·refine x9 rfl 16 65536 (by omega) (by omega) rfl ?_
   refine cN ((aI+16:Nat):Int) (by omega) (by omega) (by omega) ?_
   have:=rX m 16
   have e:16 < dV m:=Nat.lt_of_not_le fun c=>by have:=h7.mp c;omega
   refine low _ _ _ _ rfl rfl (by omega) (by omega) ?_
   rw [← O,show(65536:Nat)=2 ^ 16 by decide,this];omega
  ·exact low _ _ _ _ rfl rfl (by omega) (by omega) O
 refine cC (fun b=>⟨by omega,?_⟩) fun b=>?_
 ·refine x9 rfl 32 4294967296 (by omega) (by omega) rfl ?_
  have:=rX n 32
  have e:32 < dV n:=Nat.lt_of_not_le fun c=>by have:=h7.mp c;omega
  refine f _ 32 _ _ rfl rfl (by omega) (by omega) ?_
  rw [show(4294967296:Nat)=2 ^ 32 by decide,this];omega
 ·exact f _ 0 _ _ rfl rfl (by omega) (by omega) (by omega)
theorem Dh{a:M}{c l:Nat}{L:List Nat}{Z:U}(r:cD Z a c L)(g:l=L.length):
  a0 nK.id #[.slice a l c] Z fun v aB=>aB=Z∧v=.int .i64 (dV (val L):Int):=by
 refine nK.ok ?_
 unfold nK.t nK.aM.t
 refine b5 (vR r g) fun v aB ⟨e,f,d⟩=>?_
 subst e;subst f
 refine bD rfl ?_
 rw [← qA L]
 have aY:=d.len
 refine fN (fun aV=>⟨rfl,?_⟩) fun aV=>?_
 ·have O:dI L=[]:=List.length_eq_zero_iff.mp (by omega)
  rw [O];rfl
 ·obtain⟨n,b⟩:∃ n,(dI L).length=n+1:=⟨(dI L).length - 1,by omega⟩
  rw [b]
  refine cN (n:Int) (by omega) (by omega) (by omega) ?_
  refine cN ((64*n:Nat):Int) (by omega) (by omega) (by omega) ?_
  refine cN (n:Int) (by omega) (by omega) (by omega) ?_
  refine fP d (aC:=n) rfl b.symm (by omega) ?_
  have h:(dI L).getD n 0 ≠ 0:=by
   rcases tS.mp (AE L) with O | O
   ·rw [O] at b;simp at b
   ·rwa [b] at O
  have i:=vL d.words b h
  have j:dV ((dI L).getD n 0)≤64:=h7.mpr (d.word n)
  refine b5 (Dg rfl (d.word n) _) fun v aB ⟨e,f⟩=>?_
  subst e;subst f
  refine bR rfl ?_
  refine cN (dV (val (dI L)):Int) (by omega) (by omega) (by omega) ⟨rfl,rfl⟩
theorem pD{N aQ:Int}{n:Nat}(a:N=(n:Int))(aI p:Nat)(bI:aI≤64)(b:p=2 ^ aI)(c:aQ=(aI:Int)){aF:Int→Prop}(g:aF ((n*p % 18446744073709551616:Nat):Int)):0≤aQ∧a6 (hW .u64 N aQ) aF:=by
 subst a;subst c;subst b
 refine⟨by omega,⟨?_⟩⟩
 show aF (IntKind.u64.wrap ((n:Int)*2 ^ (min (aI:Int).toNat 64)))
 have O:min (aI:Int).toNat 64=aI:=by omega
 rw [O,wrap_u64]
 have d:((n:Int)*2 ^ aI) % 18446744073709551616=((n*2 ^ aI % 18446744073709551616:Nat):Int):=by
  have e:(2:Int) ^ aI=((2 ^ aI:Nat):Int):=by rw [Int.natCast_pow];rfl
  rw [e,← Int.natCast_mul];omega
 rw [d];exact g
theorem lW{N aQ:Int}{n:Nat}(a:N=(n:Int))(aI p:Nat)(bI:aI≤64)(b:p=2 ^ aI)(c:aQ=(aI:Int)){aF:Int→Prop}(g:aF ((n / p:Nat):Int)):0≤aQ∧a6 (gP .u64 N aQ) aF:=
 ⟨by omega,x9 a aI p bI b c g⟩
theorem yA(a:Nat):BitVec.ofInt 64 (a:Int)=BitVec.ofNat 64 a:=BitVec.ofInt_natCast 64 a
theorem yB{N aQ:Int}{a K:Nat}(b:N=(a:Int))(c:aQ=(K:Int))(d:a < 18446744073709551616)(e:K < 18446744073709551616){aF:Int→Prop}(g:aF ((a ||| K:Nat):Int)):a6 (s4 .u64 N aQ) aF:=by
 subst b;subst c
 refine⟨?_⟩
 show aF (IntKind.u64.wrap (BitVec.ofInt 64 (a:Int) ||| BitVec.ofInt 64 (K:Int)).toNat)
 have O:(BitVec.ofInt 64 (a:Int) ||| BitVec.ofInt 64 (K:Int)).toNat=a ||| K:=by
  rw [yA,yA,BitVec.toNat_or,BitVec.toNat_ofNat,BitVec.toNat_ofNat,Nat.mod_eq_of_lt (by omega),Nat.mod_eq_of_lt (by omega)]
 have f:a ||| K < 18446744073709551616:=Nat.or_lt_two_pow (n:=64) d e
 rw [O,AF (by omega) (by omega)];exact g
theorem Di{N aQ:Int}{a K:Nat}(b:N=(a:Int))(c:aQ=(K:Int))(d:a < 18446744073709551616)(e:K < 18446744073709551616){aF:Int→Prop}(g:aF ((a &&& K:Nat):Int)):a6 (iV .u64 N aQ) aF:=by
 subst b;subst c
 refine⟨?_⟩
 show aF (IntKind.u64.wrap (BitVec.ofInt 64 (a:Int) &&& BitVec.ofInt 64 (K:Int)).toNat)
 have O:(BitVec.ofInt 64 (a:Int) &&& BitVec.ofInt 64 (K:Int)).toNat=a &&& K:=by
  rw [yA,yA,BitVec.toNat_and,BitVec.toNat_ofNat,BitVec.toNat_ofNat,Nat.mod_eq_of_lt (by omega),Nat.mod_eq_of_lt (by omega)]
 have f:a &&& K≤a:=Nat.and_le_left
 rw [O,AF (by omega) (by omega)];exact g
theorem Dj{R a K:Nat}(Z:K < 2 ^ R):K ||| (2 ^ R*a)=2 ^ R*a+K:=by
 rw [Nat.or_comm,Nat.two_pow_add_eq_or_of_lt Z]
theorem c3{N:Int}(aQ:Nat)(O:N=(aQ:Int))(Z:aQ < 18446744073709551616){aF:Int→Prop}(g:aF (aQ:Int)):a6 (IntKind.u64.wrap N) aF:=by
 subst O;refine⟨?_⟩;show aF _;rw [AF (by omega) (by omega)];exact g
theorem m2(n m:Nat):Int.tdiv (n:Int) (m:Int)=((n / m:Nat):Int):=by
 rw [Int.tdiv_eq_ediv_of_nonneg (by omega)];norm_cast
theorem r1(n m:Nat):Int.tmod (n:Int) (m:Int)=((n % m:Nat):Int):=by
 rw [Int.tmod_eq_emod_of_nonneg (by omega)];norm_cast
theorem r2{a K:Nat}(b:a < 4294967296)(b:K < 4294967296):a*K≤18446744065119617025:=Nat.mul_le_mul (show a≤4294967295 by omega) (show K≤4294967295 by omega)
theorem mM{N:Int}{n:Nat}(a:N=(n:Int))(b:n < 18446744073709551616){aF:Int→Prop}(g:aF ((n % 4294967296:Nat):Int)):a6 (iV .u64 N 4294967295) aF:=by
 refine Di (K:=4294967295) a rfl b (by decide) ?_
 have:n &&& 4294967295=n % 4294967296:=Nat.and_two_pow_sub_one_eq_mod n 32
 rw [this];exact g
theorem j2{N:Int}(aQ:Nat)(O:N=(aQ:Int))(Z:aQ < 4294967296){aF:Int→Prop}(g:aF (aQ:Int)):a6 (IntKind.u32.wrap N) aF:=by
 subst O;refine⟨?_⟩;show aF _
 have:IntKind.u32.wrap (aQ:Int)=(aQ:Int):=by
  simp only [IntKind.wrap,IntKind.bits,IntKind.signed,Bool.false_and,Bool.false_eq_true,if_false];omega
 rw [this];exact g
theorem qF{N:Int}{n:Nat}(a:N=(n:Int)){aF:Int→Prop}(g:aF ((n / 4294967296:Nat):Int)):0≤(32:Int)∧a6 (gP .u64 N 32) aF:=
 lW a 32 4294967296 (by decide) (by decide) rfl g
theorem AG{N:Int}{n:Nat}(a:N=(n:Int))(b:n < 4294967296){aF:Int→Prop}(g:aF ((n*4294967296:Nat):Int)):0≤(32:Int)∧a6 (hW .u64 N 32) aF:=by
 refine pD a 32 4294967296 (by decide) (by decide) rfl ?_
 rw [Nat.mod_eq_of_lt (by omega)];exact g
theorem qG{aV Z:U}{a:M}{l c n:Nat}{N:Int}{L:List Nat}(g:cZ b7 aV Z a c L)(e:bC aV Z)(f:l=L.length)(h:N=(n:Int))(i:n < 4294967296)(j:L.length+1≤70368744177656)(k:c < L.length+1→L.length+1≤35184372088832){aF:M→Nat→Nat→U→Prop}
  (post:∀ b c8 aB,cZ b7 aV aB b c8 (L ++ [n])→bC aV aB→(L.length+1≤c→c8=c)→aF b (L.length+1) c8 aB):dN Z 89 [.int .u32 N] fun aE m=>hF m 89 h1 a l c (.slice (some aE) 1 1) aF:=
 C6 b7 g e [n] (by rw [h];rfl) (fun aQ d=>by rw [List.mem_singleton] at d;subst d;exact i) f rfl rfl 0 rfl oJ 4 rfl (by decide) j (fun Z=>by have:=k (by simpa using Z);simp;omega) post
theorem Dk{aV Z:U}{a:M}{l c n:Nat}{N:Int}{L:List Nat}(g:cZ dT aV Z a c L)(e:bC aV Z)(f:l=L.length)(h:N=(n:Int))(i:n < 18446744073709551616)(j:L.length+1≤35184372088828)(k:c < L.length+1→L.length+1≤17592186044416){aF:M→Nat→Nat→U→Prop}
  (post:∀ b c8 aB,cZ dT aV aB b c8 (L ++ [n])→bC aV aB→(L.length+1≤c→c8=c)→aF b (L.length+1) c8 aB):dN Z 35 [.int .u64 N] fun aE m=>hF m 35 j3 a l c (.slice (some aE) 1 1) aF:=
 C6 dT g e [n] (by rw [h];rfl) (fun aQ d=>by rw [List.mem_singleton] at d;subst d;exact i) f rfl rfl 0 rfl C1 8 rfl (by decide) j (fun Z=>by have:=k (by simpa using Z);simp;omega) post
theorem Dl{Y:aD}{a:M}{c l:Nat}{L:List Nat}{Z:U}(r:cL b7 Z a c L)(j:l=L.length)(n:Nat)(e:n≤L.length)(O:dI L=L.take n)(g:∀ v aB,bC Z aB→gA Z aB v (D.val L)→Y v aB):gV.aZ.t Y a l c (n:Int) Z:=by
 have aY:=r.mJ
 unfold gV.aZ.t
 refine oL b7 0 n n rfl oJ 4 rfl (by decide) rfl rfl (Nat.le_refl _) (by omega) fun k aN S=>?_
 refine tQ rfl (Nat.le_trans e r.cap) ?_
 have f:=(r.take n).aS S
 have b:(L.take n).length=n:=by rw [List.length_take];omega
 refine Hh aN f (by simp) b.symm fun m d h=>?_
 have i:(L.take n).take (min (L.take n).length n) ++ (List.replicate n 0).drop (min (L.take n).length n)=D.aL (D.val L):=by
  rw [D.k8 r.ok,O,b,Nat.min_self,List.take_take];simp
 rw [Int.toNat_natCast] at d ⊢
 rw [i] at d
 refine g _ _ (h.aS S (Nat.le_refl _)) ⟨some ⟨Z.size,0,none⟩,n,?_,d.lS (Nat.le_refl _) (by rw [D.k8 r.ok,O,b];show n≤70368744177656;omega) ?_⟩
 ·rw [D.k8 r.ok,O,b]
 ·rw [D.k8 r.ok,O,b]
theorem Ht{Y:aD}{a:M}{c l:Nat}{L:List Nat}{Z:U}(r:cL b7 Z a c L)(d:l=L.length)(g:∀ v aB,bC Z aB→gA Z aB v (D.val L)→Y v aB):
  ∀ n:Nat,n≤L.length→dI (L.take n)=dI L→gV.cJ.t Y (n+1) a l c (n:Int) Z:=by
 have aY:=r.mJ
 intro n
 induction n with
 | zero=>
  intro e b
  unfold gV.cJ.t gV.cF.t
  refine cC (fun Z=>absurd Z (by omega)) fun _=>Dl r d 0 e ?_ g
  rw [← b];rfl
 | succ n bO=>
  intro e b
  refine cC (fun _=>?_) fun Z=>absurd (by omega) Z
  refine cN (n:Int) (by omega) (by omega) (by omega) ?_
  refine iH r (aC:=n) rfl d (by omega) ?_
  have es:=k9 (L:=L) (n:=n) (by omega)
  refine fN (fun f=>?_) fun f=>?_
  ·refine cN (n:Int) (by omega) (by omega) (by omega) ?_
   refine bO (by omega) ?_
   rw [← b,es,show L.getD n 0=0 by omega,tR]
  ·refine Dl r d (n+1) e ?_ g
   rw [← b,es,vQ _ (by omega)]
theorem m3{a:M}{c l:Nat}{L:List Nat}{Z:U}(r:cL b7 Z a c L)(b:l=L.length):
  a0 gV.id #[.slice a l c] Z fun v aB=>bC Z aB∧gA Z aB v (D.val L):=by
 refine gV.ok ?_
 unfold gV.t gV.aM.t
 refine⟨L.length+1,?_⟩
 subst b
 exact Ht r rfl (fun v aB S aI=>⟨S,aI⟩) L.length (Nat.le_refl _) (by rw [List.take_length])
theorem qH{aV Z:U}{a:M}{c l a1:Nat}{L:List Nat}(g:cZ b7 aV Z a c L)(b:l=L.length)(d:D.val L=a1)(S:bC aV Z){Y:aD}(post:∀ v aB,bC aV aB→gA aV aB v a1→Y v aB):
  a0 gV.id #[.slice a l c] Z fun v aB=>aU v fun a l c=>Y (.slice a l c) aB:=by
 subst d
 refine b5 (m3 g.rd b) fun v aB ⟨e,aI⟩=>?_
 refine aI.elim fun bL bG f=>?_
 exact post _ _ (S.trans e) ⟨_,_,rfl,f.from S.le⟩
theorem Hu{Y:aD}{a:M}{c l m:Nat}{b:List Nat}{aV:U}(r:cL b7 aV a c b)(k:l=b.length)(post:∀ a c aB,bC aV aB→cZ dT aV aB a c (join b)→Y (.slice a (join b).length c) aB)(p:(b.length+1) / 2≤m):
  ∀ (S R:Nat) (bL:M) (Z:U),R+S=(b.length+1) / 2→cZ dT aV Z bL m (join (b.take (2*R)))→bC aV Z→
   kX.bJ.t Y (S+1) a l c bL R m ((2*R:Nat):Int) Z:=by
 subst k
 have aY:=r.mJ
 intro S
 induction S with
 | zero=>
  intro R bL Z a5 g cI
  unfold kX.bJ.t kX.b9.t
  refine cC (fun d=>absurd d (by omega)) fun _=>?_
  unfold kX.aZ.t
  have O:b.take (2*R)=b:=List.take_of_length_le (by omega)
  rw [O] at g
  have:=post _ _ _ cI g
  have n:(join b).length=R:=by rw [Az];omega
  rw [n] at this;exact this
 | succ S bO=>
  intro R bL Z a5 g cI
  have q:=r.kK (2*R)
  have o:=r.kK (2*R+1)
  have f:(join (b.take (2*R))).length=R:=by rw [Az,List.length_take];omega
  have j:(b.take (2*R)).length % 2=0:=by rw [List.length_take];omega
  unfold kX.bJ.t kX.b9.t
  refine cC (fun _=>?_) fun d=>absurd (by omega) d
  refine iH (r.aS cI) (aC:=2*R) rfl rfl (by omega) ?_
  refine c3 (b.getD (2*R) 0) rfl (by omega) ?_
  refine cN ((2*R+1:Nat):Int) (by omega) (by omega) (by omega) ?_
  refine cC (fun d=>?_) fun d=>?_
  ·refine cN ((2*R+1:Nat):Int) (by omega) (by omega) (by omega) ?_
   refine iH (r.aS cI) (aC:=2*R+1) rfl rfl (by omega) ?_
   refine c3 (b.getD (2*R+1) 0) rfl (by omega) ?_
   refine AG rfl o ?_
   refine c3 (b.getD (2*R) 0+b.getD (2*R+1) 0*4294967296) (by omega) (by omega) ?_
   refine Dk g cI f.symm rfl (by omega) (by omega) (by omega) fun h c8 aB e cV i=>?_
   obtain rfl:=i (by omega)
   refine cN ((2*(R+1):Nat):Int) (by omega) (by omega) (by omega) ?_
   rw [f]
   have O:b.take (2*(R+1))=b.take (2*R) ++ [b.getD (2*R) 0,b.getD (2*R+1) 0]:=by
    rw [show 2*(R+1)=2*R+1+1 by omega,k9 (by omega),k9 (by omega)];simp
   rw [← Db j,← O] at e
   exact bO (R+1) h aB (by omega) e cV
  ·refine Dk g cI f.symm rfl (by omega) (by omega) (by omega) fun h c8 aB e cV i=>?_
   obtain rfl:=i (by omega)
   refine cN ((2*(R+1):Nat):Int) (by omega) (by omega) (by omega) ?_
   rw [f]
   have O:b.take (2*(R+1))=b.take (2*R) ++ [b.getD (2*R) 0]:=by
    rw [← k9 (by omega),List.take_of_length_le (by omega),List.take_of_length_le (by omega)]
   rw [← Dc j,← O] at e
   exact bO (R+1) h aB (by omega) e cV
theorem Hv{a:M}{c l:Nat}{L:List Nat}{Z:U}(r:cL b7 Z a c L)(e:l=L.length):
  a0 kX.id #[.slice a l c] Z fun v aB=>bC Z aB∧rY Z aB v (aL (D.val L)):=by
 refine kX.ok ?_
 unfold kX.t kX.aM.t
 refine b5 (m3 r e) fun v aY ⟨b4,aI⟩=>?_
 refine aI.elim fun aJ aG b=>?_
 have h:=b.rd.mJ
 have f:Int.tdiv (((D.aL (D.val L)).length:Nat):Int) 2=(((D.aL (D.val L)).length / 2:Nat):Int):=m2 _ 2
 refine⟨by decide,?_⟩
 rw [f]
 refine cN (((D.aL (D.val L)).length / 2:Nat):Int) rfl (by omega) (by omega) ?_
 refine cN (((D.aL (D.val L)).length / 2+1:Nat):Int) (by omega) (by omega) (by omega) ?_
 refine oL dT 0 0 ((D.aL (D.val L)).length / 2+1) rfl C1 8 rfl (by decide) rfl rfl (by omega) (by omega) fun g aN S=>?_
 unfold kX.bF.t
 refine⟨((D.aL (D.val L)).length+1) / 2+1,?_⟩
 rw [Int.toNat_natCast]
 refine Hu b.rd rfl (fun i c8 aB cV d=>?_) (by omega) _ 0 _ g (by omega) ?_ S
 ·have O:join (D.aL (D.val L))=aL (D.val L):=Hl _
  rw [O] at d ⊢
  exact⟨b4.trans cV,_,_,rfl,d.from b4.le⟩
 ·exact dS.j0 (L:=join ((D.aL (D.val L)).take (2*0))) (rest:=List.replicate ((D.aL (D.val L)).length / 2+1) 0) (by simpa [join] using aN) (Nat.le_refl _) (by simp [join]) (by simp [join]) (by simp [join])
theorem Hw{a:M}{c l a1:Nat}{Z:U}(r:cL b7 Z a c (D.aL a1))(b:l=(D.aL a1).length):
  a0 kX.id #[.slice a l c] Z fun v aB=>bC Z aB∧rY Z aB v (aL a1):=by
 have:=Hv r b
 rw [D.eV] at this;exact this
theorem m4{N:Int}{aA:Nat}(a:N=(aA:Int))(d:aA < 18446744073709551616)(Z:U):a0 hM.id #[.int .u64 N] Z fun v aB=>bC Z aB∧gA Z aB v aA:=by
 refine hM.ok ?_
 unfold hM.t hM.aM.t
 refine mM a d ?_
 refine j2 (aA % 4294967296) rfl (by omega) ?_
 refine qF a ?_
 refine j2 (aA / 4294967296) rfl (by omega) ?_
 refine vN b7 [aA % 4294967296,aA / 4294967296] rfl (fun aQ b=>?_) fun aY aN S=>?_
 ·simp only [List.mem_cons,List.not_mem_nil,or_false] at b
  show aQ < 4294967296
  rcases b with O | O <;> omega
 ·refine qH (aV:=Z) (Y:=fun v aB=>bC Z aB∧gA Z aB v aA) (aN.lS (c:=2) (Nat.le_refl _) (show 2≤70368744177656 by decide) rfl) (by rfl) (a1:=aA) ?_ S (fun v aB S aI=>⟨S,aI⟩)
  simp only [D.val];omega
theorem Hx{Y:aD}{a K:M}{c aT:Nat}{L aP:List Nat}{Z:U}(r:cL b7 Z a c L)(aI:cL b7 Z K aT aP)(e:L.length=aP.length)(g:Y (.int .i64 (fD (D.val L) (D.val aP))) Z):
  ∀ n:Nat,n≤L.length→L.drop n=aP.drop n→h8.bJ.t Y (n+1) a L.length c K aP.length aT ((n:Int) - 1) Z:=by
 have aY:=r.mJ
 intro n
 induction n with
 | zero=>
  intro f b
  unfold h8.bJ.t h8.b9.t
  refine cC (fun d=>absurd d (by omega)) fun _=>?_
  unfold h8.aZ.t
  rw [List.drop_zero,List.drop_zero] at b
  rw [b] at g
  simpa [fD] using g
 | succ n bO=>
  intro f b
  unfold h8.bJ.t h8.b9.t
  refine cC (fun d=>?_) fun d=>absurd (by omega) d
  refine iH r (aC:=n) (by omega) rfl (by omega) ?_
  refine iH aI (aC:=n) (by omega) rfl (by omega) ?_
  refine cC (fun d=>?_) fun d=>?_
  ·have bP:=D.rW r.ok aI.ok e (aC:=n) (by omega) b (by omega)
   unfold fD at g;rw [if_pos bP] at g;exact g
  ·refine iH r (aC:=n) (by omega) rfl (by omega) ?_
   refine iH aI (aC:=n) (by omega) rfl (by omega) ?_
   refine cC (fun h=>?_) fun h=>?_
   ·have bP:=D.rW aI.ok r.ok e.symm (aC:=n) (by omega) b.symm (by omega)
    unfold fD at g;rw [if_neg (by omega),if_neg (by omega)] at g;exact g
   ·refine cN ((n:Int) - 1) (by omega) (by omega) (by omega) ?_
    refine bO (by omega) ?_
    rw [h6 (L:=L) (by omega),h6 (L:=aP) (by omega),b,show L.getD n 0=aP.getD n 0 by omega]
theorem yC{a K:M}{c aT l m a1 bH:Nat}{Z:U}(r:cL b7 Z a c (D.aL a1))(aI:cL b7 Z K aT (D.aL bH))(e:l=(D.aL a1).length)(f:m=(D.aL bH).length):
  a0 h8.id #[.slice a l c,.slice K m aT] Z fun v aB=>aB=Z∧v=.int .i64 (fD a1 bH):=by
 subst e;subst f
 have aY:=r.mJ
 refine h8.ok ?_
 unfold h8.t h8.aM.t
 have b:D.val (D.aL a1)=a1:=D.eV a1
 have d:D.val (D.aL bH)=bH:=D.eV bH
 refine jB (fun h=>?_) fun i=>?_
 ·refine cC (fun g=>⟨rfl,?_⟩) fun g=>⟨rfl,?_⟩
  ·have:=D.qB r.ok (D.o9 bH) (by omega)
   rw [b,d] at this
   unfold fD;rw [if_pos this]
  ·have:=D.qB aI.ok (D.o9 a1) (by omega)
   rw [b,d] at this
   unfold fD;rw [if_neg (by omega),if_neg (by omega)]
 ·unfold h8.bF.t
  refine cN (((D.aL a1).length:Int) - 1) rfl (by omega) (by omega) ?_
  refine⟨(D.aL a1).length+1,?_⟩
  refine Hx r aI (by omega) ?_ _ (Nat.le_refl _) ?_
  ·rw [b,d];exact⟨rfl,rfl⟩
  ·rw [List.drop_length,List.drop_of_length_le (by omega)]
theorem yD{Y:aD}{a K:M}{c aT S m T:Nat}{L aP:List Nat}{aV:U}(R:Nat)(a3:List Nat)(b:Nat)(bL:M)(Z:U)(N:Int)(d:N=(b:Int))(f:b < 18446744073709551616)(a5:R < m)(w:m≤35184372088832)(g:cZ b7 aV Z bL m a3)(cI:bC aV Z)(e:a3.length=R)
  (bO:∀ bL Z,cZ b7 aV Z bL m (a3 ++ [b % 4294967296])→bC aV Z→g8.bJ.t Y S a L.length c K aP.length aT bL (R+1) m ((b / 4294967296:Nat):Int) ((R+1:Nat):Int) Z) :
  a6 (iV .u64 N 4294967295) fun h=>a6 (IntKind.u32.wrap h) fun i=>dN Z 89 [.int .u32 i] fun j k=>hF k 89 h1 bL R m (.slice (some j) 1 1) fun l n o p=>
   0≤(32:Int)∧a6 (gP .u64 N 32) fun q=>a6 (IntKind.i64.wrap ((R:Int)+1)) fun r=>g8.bJ.t Y S a L.length c K aP.length aT l n o q r p:=by
 refine mM d f ?_
 refine j2 (b % 4294967296) rfl (by omega) ?_
 refine qG g cI e.symm rfl (by omega) (by omega) (by omega) fun s c8 aB u cV v=>?_
 obtain rfl:=v (by omega)
 refine qF d ?_
 refine cN ((R+1:Nat):Int) (by omega) (by omega) (by omega) ?_
 rw [e]
 exact bO s aB u cV
theorem Hy{Y:aD}{a K:M}{c aT m T:Nat}{L aP:List Nat}{aV:U}(r:cL b7 aV a c L)(aI:cL b7 aV K aT aP)(p:L.length < m)(q:aP.length < m)(i:m≤35184372088832)(post:∀ v aB,bC aV aB→gA aV aB v T→Y v aB):
  ∀ (S R b:Nat) (a3:List Nat) (bL:M) (Z:U),R+S=m→a3.length=R→b≤1→(m≤R→b=0)→D.val a3+(D.val (L.drop R)+D.val (aP.drop R)+b)*2 ^ (32*R)=T→cZ b7 aV Z bL m a3→bC aV Z→
   g8.bJ.t Y (S+1) a L.length c K aP.length aT bL R m (b:Int) (R:Int) Z:=by
 intro S
 induction S with
 | zero=>
  intro R b a3 bL Z a5 d n l O g cI
  unfold g8.bJ.t g8.b9.t
  refine cC (fun e=>absurd e (by omega)) fun _=>?_
  refine cC (fun e=>absurd e (by omega)) fun _=>?_
  rw [List.drop_of_length_le (by omega),List.drop_of_length_le (by omega)] at O
  have k:=l (by omega)
  refine cC (fun e=>absurd e (by omega)) fun _=>?_
  unfold g8.aZ.t
  refine qH g d.symm ?_ cI post
  rw [k] at O
  simpa [D.val] using O
 | succ S bO=>
  intro R b a3 bL Z a5 d n l O g cI
  have s:=r.kK R
  have u:=aI.kK R
  have cS:∀ t c8,(L.getD R 0+aP.getD R 0+b)=t+4294967296*c8→D.val (a3 ++ [t])+(D.val (L.drop (R+1))+D.val (aP.drop (R+1))+c8)*2 ^ (32*(R+1))=T:=by
   intro t c8 w
   have aY:=D.kW L R
   have x:=D.kW aP R
   rw [← O]
   exact D.Dd (aI:=L.getD R 0+aP.getD R 0) d (by omega) (by omega)
  have more:R < L.length∨R < aP.length∨0 < b→g8.dD.t Y (g8.bJ.t Y (S+1)) a L.length c K aP.length aT bL R m (b:Int) (R:Int) Z:=by
   intro _
   unfold g8.dD.t
   refine cC (fun e=>?_) fun e=>?_
   ·refine iH (r.aS cI) (aC:=R) rfl rfl (by omega) ?_
    refine c3 (L.getD R 0) rfl (by omega) ?_
    refine c3 (b+L.getD R 0) (by omega) (by omega) ?_
    refine cC (fun j=>?_) fun j=>?_
    ·refine iH (aI.aS cI) (aC:=R) rfl rfl (by omega) ?_
     refine c3 (aP.getD R 0) rfl (by omega) ?_
     refine c3 (b+L.getD R 0+aP.getD R 0) (by omega) (by omega) ?_
     exact yD (T:=T) R a3 _ bL Z _ rfl (by omega) (by omega) i g cI d fun f aB h cV=>bO (R+1) _ _ f aB (by omega) (by simp [d]) (by omega) (by omega) (cS _ _ (by omega)) h cV
    ·have o:aP.getD R 0=0:=by simp [List.getD,show aP.length≤R by omega]
     exact yD (T:=T) R a3 _ bL Z _ rfl (by omega) (by omega) i g cI d fun f aB h cV=>bO (R+1) _ _ f aB (by omega) (by simp [d]) (by omega) (by omega) (cS _ _ (by omega)) h cV
   ·have y:L.getD R 0=0:=by simp [List.getD,show L.length≤R by omega]
    refine cC (fun j=>?_) fun j=>?_
    ·refine iH (aI.aS cI) (aC:=R) rfl rfl (by omega) ?_
     refine c3 (aP.getD R 0) rfl (by omega) ?_
     refine c3 (b+aP.getD R 0) (by omega) (by omega) ?_
     exact yD (T:=T) R a3 _ bL Z _ rfl (by omega) (by omega) i g cI d fun f aB h cV=>bO (R+1) _ _ f aB (by omega) (by simp [d]) (by omega) (by omega) (cS _ _ (by omega)) h cV
    ·have o:aP.getD R 0=0:=by simp [List.getD,show aP.length≤R by omega]
     exact yD (T:=T) R a3 _ bL Z _ rfl (by omega) (by omega) i g cI d fun f aB h cV=>bO (R+1) _ _ f aB (by omega) (by simp [d]) (by omega) (by omega) (cS _ _ (by omega)) h cV
  unfold g8.bJ.t g8.b9.t
  refine cC (fun e=>more (by omega)) fun e=>?_
  refine cC (fun e=>more (by omega)) fun j=>?_
  refine cC (fun e=>more (by omega)) fun z=>?_
  have k:b=0:=by omega
  unfold g8.aZ.t
  refine qH g d.symm ?_ cI post
  rw [List.drop_of_length_le (by omega),List.drop_of_length_le (by omega),k] at O
  simpa [D.val] using O
theorem AH{a K:M}{c aT l n a1 bH:Nat}{Z:U}(r:cL b7 Z a c (D.aL a1))(aI:cL b7 Z K aT (D.aL bH))(b:l=(D.aL a1).length)(d:n=(D.aL bH).length)(f:(D.aL a1).length≤1099511627776)(g:(D.aL bH).length≤1099511627776):
  a0 g8.id #[.slice a l c,.slice K n aT] Z fun v aB=>bC Z aB∧gA Z aB v (a1+bH):=by
 subst b;subst d
 refine g8.ok ?_
 unfold g8.t g8.aM.t
 have O:(if (((D.aL bH).length:Nat):Int) > (((D.aL a1).length:Nat):Int) then(((D.aL bH).length:Nat):Int) else(((D.aL a1).length:Nat):Int))=((max (D.aL a1).length (D.aL bH).length:Nat):Int):=by split <;> omega
 rw [O]
 refine cN ((max (D.aL a1).length (D.aL bH).length+1:Nat):Int) (by omega) (by omega) (by omega) ?_
 refine oL b7 0 0 (max (D.aL a1).length (D.aL bH).length+1) rfl oJ 4 rfl (by decide) rfl rfl (by omega) (by omega) fun e aN S=>?_
 unfold g8.bF.t
 refine⟨max (D.aL a1).length (D.aL bH).length+2,?_⟩
 rw [Int.toNat_natCast]
 refine Hy (T:=a1+bH) r aI (by omega) (by omega) (by omega) (fun v aB S aI=>⟨S,aI⟩) _ 0 0 [] _ e (by omega) rfl (by omega) (by omega) ?_ ?_ S
 ·simp [D.val,D.eV]
 ·exact dS.j0 (L:=[]) (rest:=List.replicate (max (D.aL a1).length (D.aL bH).length+1) 0) (by simpa using aN) (Nat.le_refl _) (by simp) (by simp) (by simp)
theorem AI{aV Z:U}{K l:Nat}{a3:List Nat}(aN:dS b7 Z K a3)(cI:bC aV Z)(a:aV.size≤K){R:Int}{aC:Nat}(a5:R=(aC:Int))(f:l=a3.length)(b:aC < a3.length){N:Int}{v:Nat}(c:N=(v:Int))(bP:v < 4294967296){aF:U→Prop}
  (g:∀ aB,dS b7 aB K (a3.set aC v)→bC aV aB→aF aB):c2 (some ⟨K,0,none⟩) l R 1 fun aE=>b3 Z aE (.int .u32 N) aF:=
 x5 aN a5 (by omega) b (by rw [c];rfl) bP fun d e=>g _ d (e.aS cI a)
theorem Hz{aA:Nat}(Z:aA ≠ 0):dV aA=dV (aA / 2)+1:=by
 have aY:=rX aA 1
 have a:=pA Z
 rw [show aA / 2=aA / 2 ^ 1 by rfl];omega
theorem HA{Y:aD}{Z:U}{T:Nat}(h:T < 4611686018427387904)(g:Y (.int .i64 (T:Int)) Z):∀ (S N aA:Nat),aA < 2 ^ S→N+dV aA=T→S≤32→kA.bJ.t Y (S+1) (N:Int) (aA:Int) Z:=by
 intro S
 induction S with
 | zero=>
  intro N aA a O _
  have:aA=0:=by simpa using a
  subst this
  unfold kA.bJ.t kA.b9.t
  refine cC (fun b=>absurd b (by omega)) fun _=>?_
  unfold kA.aZ.t
  rw [show N=T by simpa [Dm] using O];exact g
 | succ S bO=>
  intro N aA a O c
  unfold kA.bJ.t kA.b9.t
  refine cC (fun b=>?_) fun b=>?_
  ·have d:aA ≠ 0:=by omega
   have i:=Hz d
   refine cN ((N+1:Nat):Int) (by omega) (by omega) (by omega) ?_
   refine⟨by decide,?_⟩
   have e:Int.tdiv (aA:Int) 2=((aA / 2:Nat):Int):=m2 aA 2
   rw [e]
   have f:2 ^ (S+1)≤2 ^ 32:=Nat.pow_le_pow_right (by decide) c
   refine j2 (aA / 2) rfl (by rw [show(2:Nat) ^ 32=4294967296 from rfl] at f;omega) ?_
   exact bO (N+1) (aA / 2) (by rw [Nat.pow_succ] at a;omega) (by omega) (by omega)
  ·have:aA=0:=by omega
   subst this
   unfold kA.aZ.t
   rw [show N=T by simpa [Dm] using O];exact g
theorem Dn{a:M}{c l:Nat}{L:List Nat}{Z:U}(r:cL b7 Z a c L)(d:l=L.length)(e:dI L=L):
  a0 kA.id #[.slice a l c] Z fun v aB=>aB=Z∧v=.int .i64 ((dV (D.val L):Nat):Int):=by
 subst d
 have aY:=r.mJ
 refine kA.ok ?_
 unfold kA.t kA.aM.t
 refine fN (fun aV=>?_) fun aV=>?_
 ·have O:L=[]:=List.length_eq_zero_iff.mp (by omega)
  subst O;exact⟨rfl,rfl⟩
 ·have f:L.getD (L.length - 1) 0 ≠ 0:=by
   rcases tS.mp e with O | O
   ·subst O;simp at aV
   ·exact O
  have g:=D.vL r.ok (n:=L.length - 1) (by omega) f
  have b:=r.kK (L.length - 1)
  have h:dV (L.getD (L.length - 1) 0)≤32:=h7.mpr b
  refine cN ((L.length - 1:Nat):Int) (by omega) (by omega) (by omega) ?_
  refine cN ((32*(L.length - 1):Nat):Int) (by omega) (by omega) (by omega) ?_
  unfold kA.bF.t
  refine cN ((L.length - 1:Nat):Int) (by omega) (by omega) (by omega) ?_
  refine iH r (aC:=L.length - 1) rfl rfl (by omega) ?_
  refine⟨33,?_⟩
  rw [g]
  exact HA (by omega) ⟨rfl,rfl⟩ 32 _ _ b rfl (Nat.le_refl _)
theorem HB{a:M}{c l a1:Nat}{Z:U}(r:cL b7 Z a c (D.aL a1))(b:l=(D.aL a1).length):
  a0 kA.id #[.slice a l c] Z fun v aB=>aB=Z∧v=.int .i64 ((dV a1:Nat):Int):=by
 have:=Dn r b (D.o9 a1)
 rw [D.eV] at this;exact this
theorem Dp{a3:List Nat}{R t v:Nat}(Z:R ≠ t):(a3.set R v).getD t 0=a3.getD t 0:=by
 simp [List.getD,Z]
theorem HC{Y:aD}{k:M→Nat→Nat→M→Nat→Nat→M→Nat→Nat→Int→U→Prop}{a K:M}{aG bG n R aE T N:Nat}{L aP:List Nat}{aV:U}
  (aI:cL b7 aV K bG aP) (a5:R < L.length) (o:N < 4294967296) (z:n=L.length+aP.length) (l:aV.size≤aE) (q:n≤70368744177656)
  (g:∀ aB a3,bC aV aB→dS b7 aB aE a3→a3.length=n→(∀ t,R+1+aP.length≤t→a3.getD t 0=0)→D.val a3+D.val (L.drop (R+1))*D.val aP*2 ^ (32*(R+1))=T→k a L.length aG K aP.length bG (some ⟨aE,0,none⟩) n n ((R+1:Nat):Int) aB) :
  ∀ (S aC b:Nat) (a3:List Nat) (Z:U),aC+S=aP.length→b < 4294967296→a3.length=n→dS b7 Z aE a3→bC aV Z→(∀ t,R+aP.length≤t→a3.getD t 0=0)→
   D.val a3+(N*D.val (aP.drop aC)+b)*2 ^ (32*(R+aC))+D.val (L.drop (R+1))*D.val aP*2 ^ (32*(R+1))=T→
   h9.kY.t Y k (S+1) a L.length aG K aP.length bG (some ⟨aE,0,none⟩) n n (R:Int) (b:Int) (N:Int) (aC:Int) Z:=by
 intro S
 induction S with
 | zero=>
  intro aC b a3 Z s h d aN cI f O
  unfold h9.kY.t h9.qI.t
  refine cC (fun e=>absurd e (by omega)) fun e=>?_
  have u:aC=aP.length:=by omega
  subst u
  unfold h9.e3.t
  refine cN ((R+aP.length:Nat):Int) (by omega) (by omega) (by omega) ?_
  refine j2 b rfl h ?_
  refine AI aN cI l (aC:=R+aP.length) rfl d.symm (by omega) rfl h fun w i j=>?_
  unfold h9.dD.t
  refine cN ((R+1:Nat):Int) (by omega) (by omega) (by omega) ?_
  refine g _ _ j i (by simp [d]) (fun t m=>?_) ?_
  ·rw [Dp (by omega)];exact f t (by omega)
  ·have bI:=D.k7 (a3:=a3) (aC:=R+aP.length) (v:=b) (by omega)
   rw [f _ (Nat.le_refl _)] at bI
   rw [List.drop_length] at O
   simp only [D.val,Nat.zero_mul,Nat.mul_zero,Nat.zero_add,Nat.add_zero] at bI O
   omega
 | succ S bO=>
  intro aC b a3 Z s h d aN cI f O
  have x:=aI.kK aC
  have A:a3.getD (R+aC) 0 < 4294967296:=mI (by decide) aN.ok _
  have B:=r2 o x
  unfold h9.kY.t h9.qI.t
  refine cC (fun e=>?_) fun e=>absurd (by omega) e
  refine cN ((R+aC:Nat):Int) (by omega) (by omega) (by omega) ?_
  refine iH (aN.qC (c:=n) (by rw [d];exact q) (by omega)) (aC:=R+aC) rfl d.symm (by omega) ?_
  refine c3 (a3.getD (R+aC) 0) rfl (by omega) ?_
  refine iH (aI.aS cI) (aC:=aC) rfl rfl (by omega) ?_
  refine c3 (aP.getD aC 0) rfl (by omega) ?_
  have cS:N*D.val (aP.drop aC)=N*aP.getD aC 0+4294967296*(N*D.val (aP.drop (aC+1))):=by
   rw [D.kW,Nat.mul_add,Nat.mul_left_comm]
  rw [cS] at O
  have y:(N:Int)*((aP.getD aC 0:Nat):Int)=((N*aP.getD aC 0:Nat):Int):=(Int.natCast_mul _ _).symm
  rw [y]
  generalize N*aP.getD aC 0=p at *
  refine c3 p rfl (by omega) ?_
  refine c3 (a3.getD (R+aC) 0+p) (by omega) (by omega) ?_
  refine c3 (p+b+a3.getD (R+aC) 0) (by omega) (by omega) ?_
  refine cN ((R+aC:Nat):Int) (by omega) (by omega) (by omega) ?_
  refine mM rfl (by omega) ?_
  refine j2 ((p+b+a3.getD (R+aC) 0) % 4294967296) rfl (by omega) ?_
  refine AI aN cI l (aC:=R+aC) rfl d.symm (by omega) rfl (by omega) fun w i j=>?_
  refine qF rfl ?_
  refine cN ((aC+1:Nat):Int) (by omega) (by omega) (by omega) ?_
  refine bO (aC+1) _ _ _ (by omega) (by omega) (by simp [d]) i j (fun t m=>?_) ?_
  ·rw [Dp (by omega)];exact f t m
  ·have bI:=D.k7 (a3:=a3) (aC:=R+aC) (v:=(p+b+a3.getD (R+aC) 0) % 4294967296) (by omega)
   have:=x0 (bA:=4294967296) (p:=p) (c:=b) (r:=N*D.val (aP.drop (aC+1))) (jF:=(p+b+a3.getD (R+aC) 0) % 4294967296) (c8:=(p+b+a3.getD (R+aC) 0) / 4294967296) (by omega) bI
   rw [show R+(aC+1)=R+aC+1 by omega,D.jQ (R+aC),this];exact O
theorem HD{Y:aD}{a K:M}{aG bG n aE T:Nat}{L aP:List Nat}{aV:U}
  (r:cL b7 aV a aG L) (aI:cL b7 aV K bG aP) (g:n=L.length+aP.length) (d:aV.size≤aE) (e:n≤70368744177656) (post:∀ v aB,bC aV aB→gA aV aB v T→Y v aB) :
  ∀ (S R:Nat) (a3:List Nat) (Z:U),R+S=L.length→a3.length=n→dS b7 Z aE a3→bC aV Z→(∀ t,R+aP.length≤t→a3.getD t 0=0)→D.val a3+D.val (L.drop R)*D.val aP*2 ^ (32*R)=T→
   h9.bJ.t Y (S+1) a L.length aG K aP.length bG (some ⟨aE,0,none⟩) n n (R:Int) Z:=by
 intro S
 induction S with
 | zero=>
  intro R a3 Z a5 b aN cI f O
  unfold h9.bJ.t h9.b9.t
  refine cC (fun c=>absurd c (by omega)) fun c=>?_
  unfold h9.aZ.t
  refine qH (aN.lS d (by rw [b];exact e) b.symm) b.symm ?_ cI post
  rw [List.drop_of_length_le (by omega)] at O
  simpa [D.val] using O
 | succ S bO=>
  intro R a3 Z a5 b aN cI f O
  have h:=r.kK R
  unfold h9.bJ.t h9.b9.t
  refine cC (fun c=>?_) fun c=>absurd (by omega) c
  unfold h9.eR.t
  refine iH (r.aS cI) (aC:=R) rfl rfl (by omega) ?_
  refine c3 (L.getD R 0) rfl (by omega) ?_
  unfold h9.gM.t
  refine⟨aP.length+1,?_⟩
  refine HC (T:=T) (N:=L.getD R 0) aI (by omega) h g d e (fun aB i cV fH j k l=>?_) aP.length 0 0 a3 Z (by omega) (by omega) b aN cI f ?_
  ·exact bO (R+1) i aB (by omega) j fH cV k l
  ·rw [D.kW] at O
   rw [← O,D.jQ,List.drop_zero,Nat.add_zero,Nat.add_zero,Nat.add_mul,Nat.add_mul]
   have m:D.val (L.drop (R+1))*D.val aP*(4294967296*2 ^ (32*R))=4294967296*D.val (L.drop (R+1))*D.val aP*2 ^ (32*R):=by
    rw [Nat.mul_left_comm,Nat.mul_assoc 4294967296,Nat.mul_assoc 4294967296]
   rw [m];omega
theorem D.HE(n t:Nat):(List.replicate n 0).getD t 0=0:=by
 simp only [List.getD,List.getElem?_replicate];split <;> rfl
theorem HF{a K:M}{c aT l n a1 bH:Nat}{Z:U}(r:cL b7 Z a c (D.aL a1))(aI:cL b7 Z K aT (D.aL bH))(b:l=(D.aL a1).length)(d:n=(D.aL bH).length)(f:(D.aL a1).length≤1099511627776)(g:(D.aL bH).length≤1099511627776):
  a0 h9.id #[.slice a l c,.slice K n aT] Z fun v aB=>bC Z aB∧gA Z aB v (a1*bH):=by
 subst b;subst d
 refine h9.ok ?_
 unfold h9.t h9.aM.t
 refine cN (((D.aL a1).length+(D.aL bH).length:Nat):Int) (by omega) (by omega) (by omega) ?_
 refine oL b7 0 ((D.aL a1).length+(D.aL bH).length) ((D.aL a1).length+(D.aL bH).length) rfl oJ 4 rfl (by decide) rfl rfl (by omega) (by omega) fun e aN S=>?_
 unfold h9.bF.t
 refine⟨(D.aL a1).length+1,?_⟩
 rw [Int.toNat_natCast]
 refine HD (T:=a1*bH) r aI rfl (Nat.le_refl _) (by omega) (fun v aB S aI=>⟨S,aI⟩) _ 0 _ e (by omega) (by simp) aN S (fun t _=>D.HE _ _) ?_
 rw [D.rV,List.drop_zero,D.eV,D.eV];simp
theorem HG{Y:aD}{a:M}{c aA aE:Nat}{L:List Nat}{aV:U}(r:cL b7 aV a c L)(m:aV.size≤aE)(u:aA < 4294967296)(e:0 < aA)
  (post:∀ v aB,bC aV aB→(∃ h c8,v=.tuple #[.slice h (D.aL (D.val L / aA)).length c8,.int .u32 ((D.val L % aA:Nat):Int)]∧cZ b7 aV aB h c8 (D.aL (D.val L / aA)))→Y v aB) :
  ∀ (n le:Nat) (a3:List Nat) (Z:U),n≤L.length→a3.length=L.length→le < aA→dS b7 Z aE a3→bC aV Z→D.val (a3.drop n)*aA+le=D.val (L.drop n)→
   jC.bJ.t Y (n+1) a L.length c (aA:Int) (some ⟨aE,0,none⟩) L.length L.length (le:Int) ((n:Int) - 1) Z:=by
 have aY:=r.mJ
 intro n
 induction n with
 | zero=>
  intro le a3 Z o b f aN cI O
  unfold jC.bJ.t jC.b9.t
  refine cC (fun d=>absurd d (by omega)) fun _=>?_
  unfold jC.aZ.t
  rw [List.drop_zero,List.drop_zero] at O
  have i:D.val a3=D.val L / aA∧le=D.val L % aA:=by
   rw [← O,Nat.mul_comm,Nat.mul_add_div e,Nat.div_eq_of_lt f,Nat.mul_add_mod,Nat.mod_eq_of_lt f];simp
  refine b5 (m3 (aN.qC (c:=L.length) (by rw [b];exact aY) (by omega)) b.symm) fun v aB ⟨g,aI⟩=>?_
  refine aI.elim fun bL bG j=>?_
  refine j2 le rfl (by omega) ?_
  rw [i.1] at j ⊢
  rw [i.2]
  exact post _ _ (cI.trans g) ⟨_,_,rfl,j.from cI.le⟩
 | succ n bO=>
  intro le a3 Z o b f aN cI O
  have w:=r.kK n
  unfold jC.bJ.t jC.b9.t
  refine cC (fun d=>?_) fun d=>absurd (by omega) d
  refine AG rfl (by omega) ?_
  refine iH (r.aS cI) (aC:=n) (by omega) rfl (by omega) ?_
  refine c3 (L.getD n 0) rfl (by omega) ?_
  refine c3 (le*4294967296+L.getD n 0) (by omega) (by omega) ?_
  refine c3 aA rfl (by omega) ?_
  have k:(aA:Int) ≠ 0:=by omega
  refine⟨k,?_⟩
  have l:(le*4294967296+L.getD n 0) / aA < 4294967296:=by
   rw [Nat.div_lt_iff_lt_mul e]
   have:le*4294967296+4294967296≤aA*4294967296:=by omega
   rw [Nat.mul_comm 4294967296];omega
  have x:=Nat.div_add_mod (le*4294967296+L.getD n 0) aA
  have p:=Nat.mod_lt (le*4294967296+L.getD n 0) e
  rw [m2]
  refine c3 ((le*4294967296+L.getD n 0) / aA) rfl (by omega) ?_
  refine j2 ((le*4294967296+L.getD n 0) / aA) rfl l ?_
  refine AI aN cI m (aC:=n) (by omega) b.symm (by omega) rfl l fun y q g=>?_
  refine c3 aA rfl (by omega) ?_
  refine⟨k,?_⟩
  rw [r1]
  refine jS rfl ?_
  refine cN ((n:Int) - 1) (by omega) (by omega) (by omega) ?_
  refine bO _ _ _ (by omega) (by simp [b]) p q g ?_
  have s:(a3.set n ((le*4294967296+L.getD n 0) / aA)).drop n=(le*4294967296+L.getD n 0) / aA :: a3.drop (n+1):=by
   rw [h6 (by simp;omega),List.drop_set_of_lt (by omega)]
   simp [List.getD,show n < a3.length by omega]
  rw [s,h6 (L:=L) (by omega)]
  simp only [D.val]
  rw [Nat.add_mul,Nat.mul_assoc,Nat.mul_comm _ aA]
  generalize aA*((le*4294967296+L.getD n 0) / aA)=z at *
  generalize (le*4294967296+L.getD n 0) % aA=bA at *
  generalize D.val (a3.drop (n+1))*aA=aO at *
  omega
theorem AJ{a:M}{c l aA:Nat}{L:List Nat}{Z:U}(r:cL b7 Z a c L)(e:l=L.length){N:Int}(f:N=(aA:Int))(g:aA < 4294967296)(b:0 < aA):
  a0 jC.id #[.slice a l c,.int .u32 N] Z fun v aB=>bC Z aB∧∃ d c8,v=.tuple #[.slice d (D.aL (D.val L / aA)).length c8,.int .u32 ((D.val L % aA:Nat):Int)]∧cZ b7 Z aB d c8 (D.aL (D.val L / aA)):=by
 subst e;subst f
 have aY:=r.mJ
 refine jC.ok ?_
 unfold jC.t jC.aM.t
 refine fN (fun aV=>absurd aV (by omega)) fun _=>?_
 refine oL b7 0 L.length L.length rfl oJ 4 rfl (by decide) rfl rfl (by omega) (by omega) fun h aN S=>?_
 unfold jC.bF.t
 refine cN ((L.length:Int) - 1) rfl (by omega) (by omega) ?_
 refine⟨L.length+1,?_⟩
 rw [Int.toNat_natCast]
 refine HG r (Nat.le_refl _) g b (fun v aB S aI=>⟨S,aI⟩) L.length 0 _ h (Nat.le_refl _) (by simp) b aN S ?_
 rw [List.drop_length,List.drop_of_length_le (by simp)];simp [D.val]
theorem AK{S:Nat}(b:S < 32):2 ^ S < 4294967296:=Nat.pow_lt_pow_right (a:=2) (by decide) b
theorem AL{S:Nat}(b:S < 32){N:Int}(c:N=(S:Int)){aF:Int→Prop}(g:aF ((2 ^ S:Nat):Int)):0≤N∧a6 (hW .u32 1 N) aF:=by
 subst c
 refine⟨by omega,⟨?_⟩⟩
 show aF (IntKind.u32.wrap (1*2 ^ (min (S:Int).toNat 32)))
 have O:min (S:Int).toNat 32=S:=by omega
 have e:2 ^ S < 4294967296:=Nat.pow_lt_pow_right (a:=2) (by decide) b
 have d:(1:Int)*2 ^ S=((2 ^ S:Nat):Int):=by rw [Int.natCast_pow,Int.one_mul];rfl
 rw [O,d]
 have:IntKind.u32.wrap ((2 ^ S:Nat):Int)=((2 ^ S:Nat):Int):=by
  simp only [IntKind.wrap,IntKind.bits,IntKind.signed,Bool.false_and,Bool.false_eq_true,if_false]
  generalize 2 ^ S=p at *
  omega
 rw [this];exact g
theorem nL{n:Nat}(b:n < 9223372036854775808){N:Int}(a:N=(n:Int)){aF:Int→Prop}(g:aF ((n / 32:Nat):Int)):(32:Int) ≠ 0∧a6 (IntKind.i64.wrap (Int.tdiv N 32)) aF:=by
 subst a
 refine⟨by decide,?_⟩
 have O:Int.tdiv (n:Int) 32=((n / 32:Nat):Int):=m2 n 32
 rw [O];exact cN _ rfl (by omega) (by omega) g
theorem yE{n:Nat}{N:Int}(a:N=(n:Int)){aF:Int→Prop}(g:aF ((n % 32:Nat):Int)):(32:Int) ≠ 0∧a6 (Int.tmod N 32) aF:=by
 subst a
 refine⟨by decide,?_⟩
 have O:Int.tmod (n:Int) 32=((n % 32:Nat):Int):=r1 n 32
 rw [O];exact⟨g⟩
theorem Dq(n:Nat):2 ^ n=2 ^ (32*(n / 32))*2 ^ (n % 32):=by rw [← Nat.pow_add,Nat.div_add_mod]
theorem AM{a:M}{c l a1:Nat}{Z:U}(r:cL b7 Z a c (D.aL a1))(g:l=(D.aL a1).length){N:Int}{n:Nat}(h:N=(n:Int))(f:n < 9223372036854775808):
  a0 kL.id #[.slice a l c,.int .i64 N] Z fun v aB=>bC Z aB∧gA Z aB v (a1 / 2 ^ n):=by
 subst g;subst h
 have e:D.val (D.aL a1)=a1:=D.eV a1
 have aY:=r.mJ
 refine kL.ok ?_
 unfold kL.t kL.aM.t
 refine cC (fun aV=>?_) fun aV=>?_
 ·have:n=0:=by omega
  subst this
  refine b5 (m3 r rfl) fun v aB ⟨d,aI⟩=>?_
  refine aI.elim fun bL bG b=>⟨d,bL,bG,?_,?_⟩
  ·rw [e];simp
  ·rw [e] at b;simpa using b
 ·refine nL f rfl ?_
  refine cC (fun i=>?_) fun i=>?_
  ·refine b5 (m4 (aA:=0) rfl (by decide) Z) fun v aB ⟨d,aI⟩=>?_
   refine aI.elim fun bL bG b=>⟨d,bL,bG,?_,?_⟩
   all_goals
    have q:=D.gE.mp (Nat.le_of_eq (rfl:(D.aL a1).length=_))
    have s:2 ^ (32*(D.aL a1).length)≤2 ^ n:=Nat.pow_le_pow_right (by decide) (by omega)
    have j:a1 / 2 ^ n=0:=Nat.div_eq_of_lt (by omega)
    rw [j]
   exact b
  ·refine nL f rfl ?_
   refine Dr rfl (by omega) ?_
   have k:=r.drop (m:=c) (n / 32) (by omega) r.cap
   refine yE rfl ?_
   refine AL (S:=n % 32) (by omega) rfl ?_
   have o:2 ^ (n % 32) < 4294967296:=AK (show n % 32 < 32 by omega)
   refine b5 (AJ k (by simp) rfl o (Nat.pow_pos (by decide))) fun v aB ⟨d,bL,bG,p,b⟩=>?_
   subst p
   have cS:D.val ((D.aL a1).drop (n / 32)) / 2 ^ (n % 32)=a1 / 2 ^ n:=by
    rw [D.kJ (D.oH a1),e,Nat.div_div_eq_div_mul,← Dq]
   rw [cS] at b ⊢
   refine g7 rfl (cK (bD rfl (cK (bR rfl (dY ?_)))))
   exact⟨d,_,_,rfl,b⟩
theorem HH{a:M}{c l a1:Nat}{Z:U}(r:cL b7 Z a c (D.aL a1))(w:l=(D.aL a1).length){N:Int}{n:Nat}(x:N=(n:Int))(d:n < 9223372036854775808)(C:(D.aL a1).length≤1099511627776):
  a0 kZ.id #[.slice a l c,.int .i64 N] Z fun v aB=>bC Z aB∧gA Z aB v (a1 % 2 ^ n):=by
 subst w;subst x
 have i:D.val (D.aL a1)=a1:=D.eV a1
 have aY:=r.mJ
 refine kZ.ok ?_
 unfold kZ.t kZ.aM.t
 refine cC (fun aV=>?_) fun aV=>?_
 ·have:n=0:=by omega
  subst this
  refine b5 (m4 (aA:=0) rfl (by decide) Z) fun v aB ⟨e,aI⟩=>?_
  refine aI.elim fun bL bG b=>⟨e,bL,bG,?_,?_⟩
  ·simp [Nat.mod_one]
  ·simpa [Nat.mod_one] using b
 ·refine nL d rfl ?_
  refine cC (fun f=>?_) fun f=>?_
  ·refine b5 (m3 r rfl) fun v aB ⟨e,aI⟩=>?_
   have E:=D.gE.mp (Nat.le_of_eq (rfl:(D.aL a1).length=_))
   have y:2 ^ (32*(D.aL a1).length)≤2 ^ n:=Nat.pow_le_pow_right (by decide) (by omega)
   have o:a1 % 2 ^ n=a1:=Nat.mod_eq_of_lt (by omega)
   refine aI.elim fun bL bG b=>⟨e,bL,bG,?_,?_⟩
   ·rw [i,o]
   ·rw [i] at b;rw [o];exact b
  ·have p:n / 32 < (D.aL a1).length:=by omega
   refine nL d rfl ?_
   refine tQ rfl (by have:=r.cap;omega) ?_
   have q:=r.take (n / 32)
   have s:((D.aL a1).take (n / 32)).length=n / 32:=by rw [List.length_take];omega
   refine b5 (m3 q s.symm) fun v z ⟨e,aI⟩=>?_
   refine aI.elim fun bL bG b=>?_
   have F:(D.aL (D.val ((D.aL a1).take (n / 32)))).length≤n / 32:=by
    rw [D.k8 q.ok]
    have:=tT ((D.aL a1).take (n / 32));omega
   have G:=r.kK (n / 32)
   have key:∀ (S:Nat) (a3:List Nat) (dR:M) (dA:Nat) (g:U),a3.length+S=n / 32→D.val a3=D.val ((D.aL a1).take (n / 32))→cZ b7 Z g dR dA a3→bC Z g→
     kZ.cJ.t (fun v aB=>bC Z aB∧gA Z aB v (a1 % 2 ^ n)) (S+1) a (D.aL a1).length c (n:Int) dR a3.length dA g:=by
    intro S
    induction S with
    | zero=>
     intro a3 dR dA g A cS j h
     unfold kZ.cJ.t kZ.cF.t
     refine nL d rfl ?_
     refine cC (fun f=>absurd f (by omega)) fun _=>?_
     unfold kZ.aZ.t
     refine nL d rfl ?_
     refine iH (r.aS h) (aC:=n / 32) rfl rfl p ?_
     refine yE rfl ?_
     refine AL (S:=n % 32) (by omega) rfl ?_
     have H:0 < 2 ^ (n % 32):=Nat.pow_pos (by decide)
     refine⟨by omega,?_⟩
     rw [r1]
     refine jS rfl ?_
     have y:(D.aL a1).getD (n / 32) 0 % 2 ^ (n % 32)≤(D.aL a1).getD (n / 32) 0:=Nat.mod_le _ _
     refine qG j h rfl rfl (by omega) (by omega) (by omega) fun u c8 aB k cV _=>?_
     refine qH (Y:=fun v aB=>bC Z aB∧gA Z aB v (a1 % 2 ^ n)) k (by simp) ?_ cV fun v aB S aI=>⟨S,aI⟩
     have B:a3.length=n / 32:=by omega
     rw [D.hI,B,cS]
     have bP:=D.Al (D.oH a1) (m:=n / 32) (S:=n % 32) p (by omega)
     rw [i,Nat.div_add_mod,D.hI,s] at bP
     exact bP
    | succ S bO=>
     intro a3 dR dA g A cS j h
     unfold kZ.cJ.t kZ.cF.t
     refine nL d rfl ?_
     refine cC (fun _=>?_) fun f=>absurd (by omega) f
     refine qG (n:=0) j h rfl rfl (by decide) (by omega) (by omega) fun u c8 aB k cV _=>?_
     have:=bO (a3 ++ [0]) u c8 aB (by simp;omega) (by rw [D.hI,cS];simp [D.val]) k cV
     simpa using this
   refine⟨n / 32 - (D.aL (D.val ((D.aL a1).take (n / 32)))).length+1,?_⟩
   exact key _ _ bL bG z (by omega) (by rw [D.eV]) b e
theorem Ds{a3 L aP:List Nat}{R N aQ t aN fH:Nat}(a:a3.length=R)(Z:N+4294967296*fH=t+aQ+aN)(a5:D.val a3+D.val (aP.take R)=D.val (L.take R)+aN*2 ^ (32*R))(b:D.val (L.take (R+1))=D.val (L.take R)+2 ^ (32*R)*N)(c:D.val (aP.take (R+1))=D.val (aP.take R)+2 ^ (32*R)*aQ):
  D.val (a3 ++ [t])+D.val (aP.take (R+1))=D.val (L.take (R+1))+fH*2 ^ (32*(R+1)):=by
 rw [D.hI,a,b,c,D.jQ]
 simp only [D.val,Nat.mul_zero,Nat.add_zero]
 generalize 2 ^ (32*R)=P at *
 have O:P*(N+4294967296*fH)=P*(t+aQ+aN):=by rw [Z]
 have d:P*(N+4294967296*fH)=P*N+fH*(4294967296*P):=by rw [Nat.mul_add,Nat.mul_left_comm,Nat.mul_comm P fH,Nat.mul_left_comm]
 have e:P*(t+aQ+aN)=P*t+P*aQ+aN*P:=by rw [Nat.mul_add,Nat.mul_add,Nat.mul_comm P aN]
 omega
theorem tU{L:List Nat}{R:Nat}:D.val (L.take (R+1))=D.val (L.take R)+2 ^ (32*R)*L.getD R 0:=by
 by_cases Z:R < L.length
 ·rw [k9 Z,D.hI,List.length_take,Nat.min_eq_left (by omega)];simp [D.val]
 ·rw [List.take_of_length_le (by omega),List.take_of_length_le (by omega)]
  simp [List.getD,show L.length≤R by omega]
theorem Dt{Y:aD}{a K:M}{c aT S m:Nat}{L aP:List Nat}{aV:U}(i:m=L.length)(R N take:Nat)(a3:List Nat)(bL:M)(Z:U)(aQ:Int)(j:aQ=(take:Int))(k:N=L.getD R 0)(Q:N < 4294967296)(T:take≤4294967296)(a5:R < m)(V:m≤70368744177656)(r:cL b7 Z a c L)(g:cZ b7 aV Z bL m a3)(cI:bC aV Z)(b:a3.length=R)
  (bO:∀ (t aN:Nat) bL Z,N+4294967296*aN=t+take→aN≤1→t < 4294967296→cZ b7 aV Z bL m (a3 ++ [t])→bC aV Z→hN.bJ.t Y S a L.length c K aP.length aT bL (R+1) m (aN:Int) ((R+1:Nat):Int) Z) :
  c2 a L.length (R:Int) 1 fun l=>fB Z l fun n=>aW .u32 n fun o=>a6 (IntKind.u64.wrap o) fun d=>
   cond (decide (d < aQ)) (a6 (IntKind.u64.wrap (d+4294967296)) fun p=>a6 (IntKind.u64.wrap (p - aQ)) fun q=>a6 (IntKind.u32.wrap q) fun s=>dN Z 89 [.int .u32 s] fun u v=>hF v 89 h1 bL R m (.slice (some u) 1 1) fun w x y z=>a6 (IntKind.i64.wrap ((R:Int)+1)) fun A=>hN.bJ.t Y S a L.length c K aP.length aT w x y 1 A z)
    (a6 (IntKind.u64.wrap (d - aQ)) fun B=>a6 (IntKind.u32.wrap B) fun C=>dN Z 89 [.int .u32 C] fun D E=>hF E 89 h1 bL R m (.slice (some D) 1 1) fun F G H I=>a6 (IntKind.i64.wrap ((R:Int)+1)) fun J=>hN.bJ.t Y S a L.length c K aP.length aT F G H 0 J I):=by
 subst j;subst i
 refine iH r (aC:=R) rfl rfl a5 ?_
 rw [← k]
 refine c3 N rfl (by omega) ?_
 refine cC (fun P=>?_) fun P=>?_
 ·refine c3 (N+4294967296) (by omega) (by omega) ?_
  refine c3 (N+4294967296 - take) (by omega) (by omega) ?_
  refine j2 (N+4294967296 - take) rfl (by omega) ?_
  refine qG g cI b.symm rfl (by omega) (by omega) (by omega) fun e c8 aB f cV h=>?_
  obtain rfl:=h (by omega)
  refine cN ((R+1:Nat):Int) (by omega) (by omega) (by omega) ?_
  rw [b]
  exact bO _ 1 e aB (by omega) (by omega) (by omega) f cV
 ·refine c3 (N - take) (by omega) (by omega) ?_
  refine j2 (N - take) rfl (by omega) ?_
  refine qG g cI b.symm rfl (by omega) (by omega) (by omega) fun e c8 aB f cV h=>?_
  obtain rfl:=h (by omega)
  refine cN ((R+1:Nat):Int) (by omega) (by omega) (by omega) ?_
  rw [b]
  exact bO _ 0 e aB (by omega) (by omega) (by omega) f cV
theorem HI{Y:aD}{a K:M}{c aT:Nat}{L aP:List Nat}{aV:U}(r:cL b7 aV a c L)(aI:cL b7 aV K aT aP)(q:D.val aP≤D.val L)(s:aP.length≤L.length)(post:∀ v aB,bC aV aB→gA aV aB v (D.val L - D.val aP)→Y v aB):
  ∀ (S R b:Nat) (a3:List Nat) (bL:M) (Z:U),R+S=L.length→a3.length=R→b≤1→D.val a3+D.val (aP.take R)=D.val (L.take R)+b*2 ^ (32*R)→cZ b7 aV Z bL L.length a3→bC aV Z→
   hN.bJ.t Y (S+1) a L.length c K aP.length aT bL R L.length (b:Int) (R:Int) Z:=by
 have aY:=r.mJ
 intro S
 induction S with
 | zero=>
  intro R b a3 bL Z a5 d k O g cI
  unfold hN.bJ.t hN.b9.t
  refine cC (fun e=>absurd e (by omega)) fun _=>?_
  unfold hN.aZ.t
  refine qH g d.symm ?_ cI post
  rw [List.take_of_length_le (by omega),List.take_of_length_le (by omega)] at O
  have l:=D.hS (L:=a3) g.rd.ok
  rw [d] at l
  have:b=0:=by
   rcases Nat.lt_or_ge b 1 with m | m
   ·omega
   ·have:b=1:=by omega
    subst this;omega
  subst this
  omega
 | succ S bO=>
  intro R b a3 bL Z a5 d k O g cI
  have j:=r.kK R
  have u:=aI.kK R
  unfold hN.bJ.t hN.b9.t
  refine cC (fun _=>?_) fun e=>absurd (by omega) e
  refine cC (fun e=>?_) fun e=>?_
  ·refine iH (aI.aS cI) (aC:=R) rfl rfl (by omega) ?_
   refine c3 (aP.getD R 0) rfl (by omega) ?_
   refine c3 (aP.getD R 0+b) (by omega) (by omega) ?_
   exact Dt rfl R (L.getD R 0) (aP.getD R 0+b) a3 bL Z _ rfl rfl j (by omega) (by omega) aY (r.aS cI) g cI d fun t aN f aB n h o i cV=>bO (R+1) aN _ f aB (by omega) (by simp [d]) h (Ds d (by omega) O tU tU) i cV
  ·have p:aP.getD R 0=0:=by simp [List.getD,show aP.length≤R by omega]
   exact Dt rfl R (L.getD R 0) b a3 bL Z _ rfl rfl j (by omega) (by omega) aY (r.aS cI) g cI d fun t aN f aB n h o i cV=>bO (R+1) aN _ f aB (by omega) (by simp [d]) h (Ds d (by omega) O tU (aQ:=0) (by rw [tU,p])) i cV
theorem Du{a K:M}{c aT l n a1 bH:Nat}{Z:U}(r:cL b7 Z a c (D.aL a1))(aI:cL b7 Z K aT (D.aL bH))(e:l=(D.aL a1).length)(f:n=(D.aL bH).length):
  a0 hN.id #[.slice a l c,.slice K n aT] Z fun v aB=>bC Z aB∧gA Z aB v (a1 - bH):=by
 subst e;subst f
 have aY:=r.mJ
 refine hN.ok ?_
 unfold hN.t hN.aM.t
 refine b5 (yC r aI rfl rfl) fun v aB ⟨g,h⟩=>?_
 subst g;subst h
 refine bR rfl ?_
 refine cC (fun b=>?_) fun b=>?_
 ·refine b5 (m4 (aA:=0) rfl (by decide) aB) fun v d ⟨i,s2⟩=>?_
  have j:a1 - bH=0:=by unfold fD at b;split at b <;> (try split at b) <;> omega
  rw [j]
  refine s2.elim fun bL bG k=>⟨i,bL,bG,rfl,k⟩
 ·have m:bH < a1:=by unfold fD at b;split at b <;> (try split at b) <;> omega
  have o:(D.aL bH).length≤(D.aL a1).length:=D.mY (Nat.le_of_lt m)
  refine oL b7 0 0 (D.aL a1).length rfl oJ 4 rfl (by decide) rfl rfl (by omega) (by omega) fun d aN S=>?_
  unfold hN.bF.t
  refine⟨(D.aL a1).length+1,?_⟩
  rw [Int.toNat_natCast]
  refine HI r aI (by rw [D.eV,D.eV];omega) o (fun v q p hY=>⟨p,by rw [D.eV,D.eV] at hY;exact hY⟩) _ 0 0 [] _ d (by omega) rfl (by omega) (by simp [D.val]) ?_ S
  ·exact dS.j0 (L:=[]) (rest:=List.replicate (D.aL a1).length 0) (by simpa using aN) (Nat.le_refl _) (by simp) (by simp) (by simp)
theorem HJ{Y:aD}{a:M}{c aA T m:Nat}{L:List Nat}{aV:U}(r:cL b7 aV a c L)(j:aA < 4294967296)(n:m=L.length+1)(o:m≤70368744177656)(post:∀ v aB,bC aV aB→gA aV aB v T→Y v aB):
  ∀ (S R b:Nat) (a3:List Nat) (bL:M) (Z:U),R+S=L.length→a3.length=R→b < 4294967296→D.val a3+(D.val (L.drop R)*aA+b)*2 ^ (32*R)=T→cZ b7 aV Z bL m a3→bC aV Z→
   j4.bJ.t Y (S+1) a L.length c (aA:Int) bL R m (b:Int) (R:Int) Z:=by
 intro S
 induction S with
 | zero=>
  intro R b a3 bL Z a5 d e O g cI
  unfold j4.bJ.t j4.b9.t
  refine cC (fun f=>absurd f (by omega)) fun _=>?_
  unfold j4.aZ.t
  refine j2 b rfl e ?_
  refine qG g cI d.symm rfl e (by omega) (by omega) fun i c8 aB h cV e=>?_
  refine qH h (by simp) ?_ cV post
  rw [List.drop_of_length_le (by omega)] at O
  rw [D.hI,d,← O]
  simp [D.val,Nat.mul_comm]
 | succ S bO=>
  intro R b a3 bL Z a5 d e O g cI
  have k:=r.kK R
  have q:=r2 k j
  unfold j4.bJ.t j4.b9.t
  refine cC (fun _=>?_) fun f=>absurd (by omega) f
  refine iH (r.aS cI) (aC:=R) rfl rfl (by omega) ?_
  refine c3 (L.getD R 0) rfl (by omega) ?_
  refine c3 aA rfl (by omega) ?_
  have l:((L.getD R 0:Nat):Int)*(aA:Int)=((L.getD R 0*aA:Nat):Int):=(Int.natCast_mul _ _).symm
  rw [l]
  have cS:D.val (L.drop R)*aA=L.getD R 0*aA+4294967296*(D.val (L.drop (R+1))*aA):=by
   rw [D.kW,Nat.add_mul,Nat.mul_assoc]
  rw [cS] at O
  generalize L.getD R 0*aA=p at *
  refine c3 p rfl (by omega) ?_
  refine c3 (b+p) (by omega) (by omega) ?_
  refine mM rfl (by omega) ?_
  refine j2 ((b+p) % 4294967296) rfl (by omega) ?_
  refine qG g cI d.symm rfl (by omega) (by omega) (by omega) fun i c8 aB h cV e=>?_
  obtain rfl:=e (by omega)
  refine qF rfl ?_
  refine cN ((R+1:Nat):Int) (by omega) (by omega) (by omega) ?_
  rw [d]
  refine bO (R+1) _ _ i aB (by omega) (by simp [d]) (by omega) ?_ h cV
  rw [← O]
  exact D.Dd (aI:=p) (t:=(b+p) % 4294967296) (c8:=(b+p) / 4294967296) d rfl (by omega)
theorem Dv{a:M}{c l aA bM:Nat}{L:List Nat}{Z:U}(r:cL b7 Z a c L)(b:l=L.length){N aQ:Int}(d:N=(aA:Int))(e:aQ=(bM:Int))(f:aA < 4294967296)(g:bM < 4294967296)(i:L.length≤1099511627777):
  a0 j4.id #[.slice a l c,.int .u32 N,.int .u32 aQ] Z fun v aB=>bC Z aB∧gA Z aB v (D.val L*aA+bM):=by
 subst b;subst d;subst e
 refine j4.ok ?_
 unfold j4.t j4.aM.t
 refine cN ((L.length+1:Nat):Int) (by omega) (by omega) (by omega) ?_
 refine oL b7 0 0 (L.length+1) rfl oJ 4 rfl (by decide) rfl rfl (by omega) (by omega) fun h aN S=>?_
 refine c3 bM rfl (by omega) ?_
 unfold j4.bF.t
 refine⟨L.length+1,?_⟩
 rw [Int.toNat_natCast]
 refine HJ (T:=D.val L*aA+bM) r f rfl (by omega) (fun v aB S aI=>⟨S,aI⟩) _ 0 bM [] _ h (by omega) rfl g ?_ ?_ S
 ·simp [D.val]
 ·exact dS.j0 (L:=[]) (rest:=List.replicate (L.length+1) 0) (by simpa using aN) (Nat.le_refl _) (by simp) (by simp) (by simp)
theorem Dw{a1 aA S:Nat}(a:(D.aL a1).length≤S)(b:aA < 4294967296):(D.aL (a1*aA)).length≤S+1:=by
 rw [D.gE] at a ⊢
 rw [D.jQ]
 rcases Nat.eq_zero_or_pos aA with Z | Z
 ·subst Z;simp [Nat.pow_pos]
 ·calc a1*aA < 2 ^ (32*S)*aA:=Nat.mul_lt_mul_of_pos_right a Z
   _≤2 ^ (32*S)*4294967296:=Nat.mul_le_mul_left _ (Nat.le_of_lt b)
   _=4294967296*2 ^ (32*S):=Nat.mul_comm _ _
theorem yF{a:M}{c l a1:Nat}{Z:U}(r:cL b7 Z a c (D.aL a1))(h:l=(D.aL a1).length){N:Int}{n:Nat}(i:N=(n:Int))(u:n≤35184372088832)(w:(D.aL a1).length≤1099511627776):
  a0 kB.id #[.slice a l c,.int .i64 N] Z fun v aB=>bC Z aB∧gA Z aB v (a1*2 ^ n):=by
 subst h;subst i
 have d:D.val (D.aL a1)=a1:=D.eV a1
 refine kB.ok ?_
 unfold kB.t kB.aM.t
 have same:∀ bH,a1=bH→a0 gV.id #[.slice a (D.aL a1).length c] Z fun v aB=>aU v fun a l c=>(fun v aB=>bC Z aB∧gA Z aB v bH) (.slice a l c) aB:=by
  intro bH O
  refine b5 (m3 r rfl) fun v aB ⟨j,aI⟩=>?_
  rw [d,O] at aI
  refine aI.elim fun bL bG e=>⟨j,bL,bG,rfl,e⟩
 refine cC (fun aV=>?_) fun aV=>?_
 ·have:n=0:=by omega
  subst this;exact same _ (by simp)
 ·refine fN (fun aY=>?_) fun aY=>?_
  ·refine same _ ?_
   have O:D.aL a1=[]:=List.length_eq_zero_iff.mp (by omega)
   have:a1=0:=by rw [← d,O];rfl
   subst this;simp
  ·unfold kB.aZ.t
   refine nL (by omega) rfl ?_
   refine nL (by omega) rfl ?_
   refine cN ((n / 32+(D.aL a1).length:Nat):Int) (by omega) (by omega) (by omega) ?_
   refine cN ((n / 32+(D.aL a1).length+1:Nat):Int) (by omega) (by omega) (by omega) ?_
   refine oL b7 0 (n / 32) (n / 32+(D.aL a1).length+1) rfl oJ 4 rfl (by decide) rfl rfl (by omega) (by omega) fun k aN S=>?_
   refine yE rfl ?_
   refine AL (S:=n % 32) (by omega) rfl ?_
   have f:2 ^ (n % 32) < 4294967296:=AK (show n % 32 < 32 by omega)
   refine b5 (Dv (bM:=0) (r.aS S) rfl rfl rfl f (by decide) (by omega)) fun v x ⟨b,aI⟩=>?_
   rw [d,Nat.add_zero] at aI
   refine aI.elim fun bL bG e=>?_
   have y:=Dw (Nat.le_refl (D.aL a1).length) f
   have g:cZ b7 Z k (some ⟨Z.size,0,none⟩) (n / 32+(D.aL a1).length+1) (List.replicate (n / 32) 0):=by
    refine dS.j0 (rest:=List.replicate ((D.aL a1).length+1) 0) ?_ (Nat.le_refl _) ?_ (by simp;omega) (by simp;omega)
    ·rw [List.replicate_append_replicate,show n / 32+((D.aL a1).length+1)=n / 32+(D.aL a1).length+1 by omega];exact aN
    ·simp;show n / 32≤70368744177656;omega
   rw [Int.toNat_natCast,Int.toNat_natCast]
   refine C5 (g.aS b) (Nat.le_trans S.le b.le) e.rd (by simp) rfl rfl 0 rfl oJ 4 rfl (by decide) ?_ ?_ fun dZ eE m o p _=>?_
   ·simp only [List.length_replicate];show n / 32+_≤70368744177656;omega
   ·intro q;simp only [List.length_replicate] at q;omega
   ·have s:bC Z m:=p.aS (S.trans b) (g.aS b).As
    refine qH (Y:=fun v aB=>bC Z aB∧gA Z aB v (a1*2 ^ n)) o (by simp) ?_ s fun v aB S aI=>⟨S,aI⟩
    rw [D.hI,D.rV,D.eV,List.length_replicate,Dq n,Nat.zero_add,Nat.mul_left_comm]
theorem HK{a1 S m:Nat}(a:S < 32):a1 / 2 ^ (32*m+S) % 2=(a1 / 2 ^ (32*m) % 4294967296) / 2 ^ S % 2:=by
 rw [Nat.pow_add,← Nat.div_div_eq_div_mul]
 generalize a1 / 2 ^ (32*m)=bH
 have O:(4294967296:Nat)=2 ^ S*(2*2 ^ (31 - S)):=by
  rw [← Nat.pow_succ',← Nat.pow_add,show S+(31 - S+1)=32 by omega]
 rw [O,Nat.mod_mul,Nat.add_comm,Nat.mul_add_div (Nat.pow_pos (by decide)),Nat.div_eq_of_lt (Nat.mod_lt _ (Nat.pow_pos (by decide))),Nat.add_zero,Nat.mod_mul_right_mod]
theorem D.HL{L:List Nat}(a:D.Words L)(m:Nat):L.getD m 0=D.val L / 2 ^ (32*m) % 4294967296:=by
 rw [← D.kJ a,D.kW,Nat.add_mul_mod_self_left]
 exact(Nat.mod_eq_of_lt (mI (by decide) a m)).symm
theorem HM{N aQ:Int}{n S:Nat}(a:N=(n:Int))(b:aQ=(S:Int))(d:S < 32){aF:Int→Prop}(g:aF ((n / 2 ^ S:Nat):Int)):0≤aQ∧a6 (gP .u32 N aQ) aF:=by
 subst a;subst b
 refine⟨by omega,⟨?_⟩⟩
 show aF (Int.fdiv (n:Int) (2 ^ (min (S:Int).toNat 32)))
 have O:min (S:Int).toNat 32=S:=by omega
 rw [O]
 have c:Int.fdiv (n:Int) (2 ^ S)=((n / 2 ^ S:Nat):Int):=by
  rw [Int.fdiv_eq_ediv_of_nonneg _ (Int.le_of_lt (Int.pow_pos (by decide)))]
  norm_cast
 rw [c];exact g
theorem HN{N:Int}{n:Nat}(a:N=(n:Int))(d:n < 4294967296){aF:Int→Prop}(g:aF ((n % 2:Nat):Int)):a6 (iV .u32 N 1) aF:=by
 subst a
 refine⟨?_⟩
 show aF (IntKind.u32.wrap (BitVec.ofInt 32 (n:Int) &&& BitVec.ofInt 32 1).toNat)
 have O:(BitVec.ofInt 32 (n:Int) &&& BitVec.ofInt 32 1).toNat=n % 2:=by
  have b:BitVec.ofInt 32 (1:Int)=BitVec.ofNat 32 1:=rfl
  rw [BitVec.ofInt_natCast,b,BitVec.toNat_and,BitVec.toNat_ofNat,BitVec.toNat_ofNat,Nat.mod_eq_of_lt (by omega)]
  exact Nat.and_two_pow_sub_one_eq_mod n 1
 have e:n % 2 < 2:=Nat.mod_lt _ (by decide)
 have c:IntKind.u32.wrap ((n % 2:Nat):Int)=((n % 2:Nat):Int):=by
  simp only [IntKind.wrap,IntKind.bits,IntKind.signed,Bool.false_and,Bool.false_eq_true,if_false];omega
 rw [O,c];exact g
def r3(a1:Nat)(R:Int):Int:=if R < 0 then 0 else((a1 / 2 ^ R.toNat % 2:Nat):Int)
theorem HO{a:M}{c l a1:Nat}{Z:U}(r:cL b7 Z a c (D.aL a1))(b:l=(D.aL a1).length){N:Int}(d:In .i64 N):
  a0 nM.id #[.slice a l c,.int .i64 N] Z fun v aB=>aB=Z∧v=.int .i64 (r3 a1 N):=by
 subst b
 rw [qD] at d
 refine nM.ok ?_
 unfold nM.t nM.aM.t
 refine cC (fun aV=>⟨rfl,by unfold r3;rw [if_pos aV]⟩) fun aV=>?_
 obtain⟨n,rfl⟩:∃ n:Nat,N=(n:Int):=⟨N.toNat,by omega⟩
 unfold r3
 rw [if_neg aV,Int.toNat_natCast]
 refine nL (by omega) rfl ?_
 have e:D.val (D.aL a1)=a1:=D.eV a1
 have bP:a1 / 2 ^ n % 2=(D.aL a1).getD (n / 32) 0 / 2 ^ (n % 32) % 2:=by
  have:=HK (a1:=a1) (m:=n / 32) (S:=n % 32) (Nat.mod_lt _ (by decide))
  rw [Nat.div_add_mod] at this
  rw [this,D.HL (D.oH a1),e]
 rw [bP]
 refine cC (fun f=>⟨rfl,?_⟩) fun f=>?_
 ·have:(D.aL a1).getD (n / 32) 0=0:=by simp [List.getD,show(D.aL a1).length≤n / 32 by omega]
  rw [this];simp
 ·unfold nM.aZ.t
  refine nL (by omega) rfl ?_
  refine iH r (aC:=n / 32) rfl rfl (by omega) ?_
  have g:=r.kK (n / 32)
  refine yE rfl ?_
  refine HM rfl rfl (by omega) ?_
  have h:(D.aL a1).getD (n / 32) 0 / 2 ^ (n % 32)≤(D.aL a1).getD (n / 32) 0:=Nat.div_le_self _ _
  refine HN rfl (by omega) ?_
  refine cN (((D.aL a1).getD (n / 32) 0 / 2 ^ (n % 32) % 2:Nat):Int) rfl (by omega) (by omega) ?_
  exact⟨rfl,rfl⟩
theorem yG{Z:U}{aE off l:Nat}{a bK bA:List Nat}(aN:dS b7 Z aE (a ++ (bK ++ bA)))(b:a.length=off)(d:l=bK.length)(e:bK.length≤70368744177656){R:Int}{aC:Nat}(a5:R=(aC:Int))(f:aC < bK.length){aF:Int→Prop}
  (g:aF (bK.getD aC 0:Nat)):c2 (some ⟨aE,off,none⟩) l R 1 fun aE=>fB Z aE fun v=>aW .u32 v aF:=by
 have r:=aN.Am (off:=off) (n:=bK.length) (c:=bK.length) e (by simp;omega) (Nat.le_refl _)
 have O:((a ++ (bK ++ bA)).drop off).take bK.length=bK:=by rw [← b,List.drop_left,List.take_left]
 rw [O] at r
 exact iH r a5 d f g
def nN(bP:U)(aE:Nat)(aY Z:U):Prop:=bC bP Z∧b2 aE aY Z
theorem yH{Z bP aY:U}{aE off l:Nat}{a bK bA:List Nat}(aN:dS b7 Z aE (a ++ (bK ++ bA)))(d:a.length=off)(j:l=bK.length)(cI:nN bP aE aY Z)(e:bP.size≤aE){R:Int}{aC:Nat}(a5:R=(aC:Int))(f:aC < bK.length){N:Int}{v:Nat}(h:N=(v:Int))(i:v < 4294967296){aF:U→Prop}
  (g:∀ aB,dS b7 aB aE (a ++ (bK.set aC v ++ bA))→nN bP aE aY aB→aF aB):c2 (some ⟨aE,off,none⟩) l R 1 fun aE=>b3 Z aE (.int .u32 N) aF:=by
 refine An aN a5 (by omega) (by simp;omega) (by rw [h];rfl) i fun b c=>?_
 refine g _ ?_ ⟨c.aS cI.1 e,cI.2.trans c⟩
 have O:(a ++ (bK ++ bA)).set (off+aC) v=a ++ (bK.set aC v ++ bA):=by
  rw [← d,List.set_append_right _ _ (by omega),Nat.add_sub_cancel_left,List.set_append_left _ _ f]
 rw [O] at b;exact b
theorem Dx{bK aP:List Nat}{aC aA dC c aN c8 fH t:Nat}(a:aC < bK.length)(aY:c+aA*aP.getD aC 0+aN+t=bK.getD aC 0+4294967296*(c8+fH))(O:D.val bK+aA*D.val (aP.take aC)=dC+(c+aN)*2 ^ (32*aC)):
  D.val (bK.set aC t)+aA*D.val (aP.take (aC+1))=dC+(c8+fH)*2 ^ (32*(aC+1)):=by
 have bI:=D.k7 (a3:=bK) (aC:=aC) (v:=t) a
 rw [tU,D.jQ]
 generalize 2 ^ (32*aC)=P at *
 generalize bK.getD aC 0=bM at *
 have b:(c+aA*aP.getD aC 0+aN+t)*P=(bM+4294967296*(c8+fH))*P:=by rw [aY]
 have d:(c+aA*aP.getD aC 0+aN+t)*P=(c+aN)*P+aA*(P*aP.getD aC 0)+t*P:=by
  have:aA*(P*aP.getD aC 0)=aA*aP.getD aC 0*P:=by rw [Nat.mul_comm P,Nat.mul_assoc]
  rw [this,← Nat.add_mul,← Nat.add_mul];congr 1;omega
 have e:(bM+4294967296*(c8+fH))*P=bM*P+(c8+fH)*(4294967296*P):=by
  rw [Nat.add_mul,Nat.mul_comm 4294967296,Nat.mul_assoc]
 rw [Nat.mul_add]
 omega
theorem HP{Y:aD}{K:M}{c aT n aE off aA dC:Nat}{aP i bA:List Nat}{bP aY:U}(aI:cL b7 bP K aT aP)(z:aP.length=n)(j:i.length=off)(s:bP.size≤aE)(A:aA < 4294967296)(NG:n < 1099511627776)
  (g:∀ Z aN bK,aN≤1→bK.length=n+1→dS b7 Z aE (i ++ (bK ++ bA))→nN bP aE aY Z→D.val bK+aA*D.val aP=dC+aN*2 ^ (32*(n+1))→(∃ m,g9.cJ.t Y m (some ⟨aE,off,none⟩) (n+1) c K n aT (n:Int) (aA:Int) (aN:Int) Z)) :
  ∀ (S aC a aN:Nat) (bK:List Nat) (Z:U),aC+S=n+1→bK.length=n+1→a < 4294967296→aN≤1→(aC=n+1→a=0)→dS b7 Z aE (i ++ (bK ++ bA))→nN bP aE aY Z→D.val bK+aA*D.val (aP.take aC)=dC+(a+aN)*2 ^ (32*aC)→
   g9.kC.t Y (S+1) (some ⟨aE,off,none⟩) (n+1) c K n aT (n:Int) (aA:Int) (a:Int) (aN:Int) (aC:Int) Z:=by
 intro S
 induction S with
 | zero=>
  intro aC a aN bK Z B e C u v f cI O
  unfold g9.kC.t g9.qJ.t
  refine cC (fun b=>absurd b (by omega)) fun _=>?_
  have E:=v (by omega)
  subst E
  rw [List.take_of_length_le (by omega),Nat.zero_add,show aC=n+1 by omega] at O
  exact g Z aN bK u e f cI O
 | succ S bO=>
  intro aC a aN bK Z B e C u v f cI O
  have NH:bK.getD aC 0 < 4294967296:=by
   refine mI (by decide) (fun N F=>f.ok N ?_) aC
   exact List.mem_append_right _ (List.mem_append_left _ F)
  have G:bK.length≤70368744177656:=by omega
  have step:∀ (p take d:Nat),p=aA*aP.getD aC 0→take < 4294967296→a+p=take+4294967296*d→d < 4294967296→(aC=n→d=0)→
    c2 (some ⟨aE,off,none⟩) (n+1) (aC:Int) 1 fun H=>fB Z H fun I=>aW .u32 I fun J=>a6 (IntKind.u64.wrap J) fun k=>
     cond (decide (k < ((take+aN:Nat):Int))) (a6 (IntKind.u64.wrap (k+4294967296)) fun P=>a6 (IntKind.u64.wrap (P - ((take+aN:Nat):Int))) fun Q=>a6 (IntKind.u32.wrap Q) fun T=>c2 (some ⟨aE,off,none⟩) (n+1) (aC:Int) 1 fun V=>b3 Z V (.int .u32 T) fun Nv=>a6 (IntKind.i64.wrap ((aC:Int)+1)) fun Nw=>g9.kC.t Y (S+1) (some ⟨aE,off,none⟩) (n+1) c K n aT (n:Int) (aA:Int) (d:Int) 1 Nw Nv)
      (a6 (IntKind.u64.wrap (k - ((take+aN:Nat):Int))) fun Nx=>a6 (IntKind.u32.wrap Nx) fun Ny=>c2 (some ⟨aE,off,none⟩) (n+1) (aC:Int) 1 fun Nz=>b3 Z Nz (.int .u32 Ny) fun NA=>a6 (IntKind.i64.wrap ((aC:Int)+1)) fun NB=>g9.kC.t Y (S+1) (some ⟨aE,off,none⟩) (n+1) c K n aT (n:Int) (aA:Int) (d:Int) 0 NB NA):=by
   intro p take d h NI NJ w x
   refine yG f j e.symm G rfl (by omega) ?_
   refine c3 (bK.getD aC 0) rfl (by omega) ?_
   refine cC (fun b=>?_) fun b=>?_
   ·refine c3 (bK.getD aC 0+4294967296) (by omega) (by omega) ?_
    refine c3 (bK.getD aC 0+4294967296 - (take+aN)) (by omega) (by omega) ?_
    refine j2 (bK.getD aC 0+4294967296 - (take+aN)) rfl (by omega) ?_
    refine yH f j e.symm cI s rfl (by omega) rfl (by omega) fun l o q=>?_
    refine cN ((aC+1:Nat):Int) (by omega) (by omega) (by omega) ?_
    exact bO (aC+1) d 1 _ l (by omega) (by simp [e]) w (by omega) (fun r=>x (by omega)) o q (Dx (by omega) (by rw [← h];omega) O)
   ·refine c3 (bK.getD aC 0 - (take+aN)) (by omega) (by omega) ?_
    refine j2 (bK.getD aC 0 - (take+aN)) rfl (by omega) ?_
    refine yH f j e.symm cI s rfl (by omega) rfl (by omega) fun l o q=>?_
    refine cN ((aC+1:Nat):Int) (by omega) (by omega) (by omega) ?_
    exact bO (aC+1) d 0 _ l (by omega) (by simp [e]) w (by omega) (fun r=>x (by omega)) o q (Dx (by omega) (by rw [← h];omega) O)
  unfold g9.kC.t g9.qJ.t
  refine cC (fun _=>?_) fun b=>absurd (by omega) b
  refine cC (fun b=>?_) fun b=>?_
  ·have NC:=aI.kK aC
   have h:=r2 A NC
   refine iH (aI.aS cI.1) (aC:=aC) rfl z.symm (by omega) ?_
   refine c3 (aP.getD aC 0) rfl (by omega) ?_
   have ND:(aA:Int)*((aP.getD aC 0:Nat):Int)=((aA*aP.getD aC 0:Nat):Int):=(Int.natCast_mul _ _).symm
   rw [ND]
   obtain⟨p,y⟩:∃ p,p=aA*aP.getD aC 0:=⟨_,rfl⟩
   rw [← y] at h ⊢
   refine c3 p rfl (by omega) ?_
   refine c3 (a+p) (by omega) (by omega) ?_
   refine mM rfl (by omega) ?_
   refine c3 ((a+p) % 4294967296+aN) (by omega) (by omega) ?_
   refine qF rfl ?_
   exact step p _ _ y (by omega) (by omega) (by omega) (fun r=>absurd b (by omega))
  ·have NF:aP.getD aC 0=0:=by simp [List.getD,show aP.length≤aC by omega]
   refine mM rfl (by omega) ?_
   refine c3 (a % 4294967296+aN) (by omega) (by omega) ?_
   refine qF rfl ?_
   exact step 0 _ _ (by rw [NF];rfl) (by omega) (by omega) (by omega) (fun r=>by omega)
theorem Dy{bK aP:List Nat}{aC T c c8 t:Nat}(a:aC < bK.length)(aY:c+bK.getD aC 0+aP.getD aC 0=t+4294967296*c8)(O:D.val bK+c*2 ^ (32*aC)=T+D.val (aP.take aC)):
  D.val (bK.set aC t)+c8*2 ^ (32*(aC+1))=T+D.val (aP.take (aC+1)):=by
 have bI:=D.k7 (a3:=bK) (aC:=aC) (v:=t) a
 rw [tU,D.jQ]
 generalize 2 ^ (32*aC)=P at *
 generalize bK.getD aC 0=bM at *
 have b:(c+bM+aP.getD aC 0)*P=(t+4294967296*c8)*P:=by rw [aY]
 have d:(c+bM+aP.getD aC 0)*P=c*P+bM*P+P*aP.getD aC 0:=by rw [Nat.add_mul,Nat.add_mul,Nat.mul_comm P]
 have e:(t+4294967296*c8)*P=t*P+c8*(4294967296*P):=by rw [Nat.add_mul,Nat.mul_comm 4294967296,Nat.mul_assoc]
 omega
theorem HQ{Y:aD}{l:M→Nat→Nat→M→Nat→Nat→Int→Int→Int→U→Prop}{K:M}{c aT n aE off T:Nat}{aA:Int}{aP f bA:List Nat}{bP aY:U}(aI:cL b7 bP K aT aP)(p:aP.length=n)(h:f.length=off)(m:bP.size≤aE)(v:n < 1099511627776)
  (g:∀ Z a bK,a≤1→bK.length=n+1→dS b7 Z aE (f ++ (bK ++ bA))→nN bP aE aY Z→D.val bK+a*2 ^ (32*(n+1))=T+D.val aP→l (some ⟨aE,off,none⟩) (n+1) c K n aT (n:Int) aA ((1 - a:Nat):Int) Z) :
  ∀ (S aC a:Nat) (bK:List Nat) (Z:U),aC+S=n+1→bK.length=n+1→a≤1→dS b7 Z aE (f ++ (bK ++ bA))→nN bP aE aY Z→D.val bK+a*2 ^ (32*aC)=T+D.val (aP.take aC)→
   g9.gZ.t Y l (S+1) (some ⟨aE,off,none⟩) (n+1) c K n aT (n:Int) aA (a:Int) 1 (aC:Int) Z:=by
 intro S
 induction S with
 | zero=>
  intro aC a bK Z q b o d cI O
  unfold g9.gZ.t g9.gM.t
  refine cC (fun e=>absurd e (by omega)) fun _=>?_
  unfold g9.dD.t
  refine c3 (1 - a) (by split <;> omega) (by omega) ?_
  rw [List.take_of_length_le (by omega),show aC=n+1 by omega] at O
  exact g Z a bK o b d cI O
 | succ S bO=>
  intro aC a bK Z q b o d cI O
  have w:bK.getD aC 0 < 4294967296:=by
   refine mI (by decide) (fun N r=>d.ok N ?_) aC
   exact List.mem_append_right _ (List.mem_append_left _ r)
  have s:bK.length≤70368744177656:=by omega
  unfold g9.gZ.t g9.gM.t
  refine cC (fun _=>?_) fun e=>absurd (by omega) e
  refine yG d h b.symm s rfl (by omega) ?_
  refine c3 (bK.getD aC 0) rfl (by omega) ?_
  refine c3 (a+bK.getD aC 0) (by omega) (by omega) ?_
  refine cC (fun e=>?_) fun e=>?_
  ·have x:=aI.kK aC
   refine iH (aI.aS cI.1) (aC:=aC) rfl p.symm (by omega) ?_
   refine c3 (aP.getD aC 0) rfl (by omega) ?_
   refine c3 (a+bK.getD aC 0+aP.getD aC 0) (by omega) (by omega) ?_
   refine mM rfl (by omega) ?_
   refine j2 ((a+bK.getD aC 0+aP.getD aC 0) % 4294967296) rfl (by omega) ?_
   refine yH d h b.symm cI m rfl (by omega) rfl (by omega) fun i j k=>?_
   refine qF rfl ?_
   refine cN ((aC+1:Nat):Int) (by omega) (by omega) (by omega) ?_
   exact bO (aC+1) _ _ i (by omega) (by simp [b]) (by omega) j k (Dy (by omega) (by omega) O)
  ·have u:aP.getD aC 0=0:=by simp [List.getD,show aP.length≤aC by omega]
   refine mM rfl (by omega) ?_
   refine j2 ((a+bK.getD aC 0) % 4294967296) rfl (by omega) ?_
   refine yH d h b.symm cI m rfl (by omega) rfl (by omega) fun i j k=>?_
   refine qF rfl ?_
   refine cN ((aC+1:Nat):Int) (by omega) (by omega) (by omega) ?_
   exact bO (aC+1) _ _ i (by omega) (by simp [b]) (by omega) j k (Dy (by omega) (by rw [u];omega) O)
theorem HR{Y:aD}{K:M}{c aT n aE off dC:Nat}{aP f bA:List Nat}{bP aY:U}(aI:cL b7 bP K aT aP)(m:aP.length=n)(o:f.length=off)(p:bP.size≤aE)(q:n < 1099511627776)(h:0 < D.val aP)
  (post:∀ Z bK,bK.length=n+1→dS b7 Z aE (f ++ (bK ++ bA))→nN bP aE aY Z→D.val bK=dC % D.val aP→Y (.int .u32 ((dC / D.val aP:Nat):Int)) Z) :
  ∀ (S aA aN:Nat) (bK:List Nat) (Z:U),aA≤dC / D.val aP+S→dC / D.val aP≤aA→aA < 4294967296→aN≤1→bK.length=n+1→dS b7 Z aE (f ++ (bK ++ bA))→nN bP aE aY Z→D.val bK+aA*D.val aP=dC+aN*2 ^ (32*(n+1))→
   g9.cJ.t Y (S+1) (some ⟨aE,off,none⟩) (n+1) c K n aT (n:Int) (aA:Int) (aN:Int) Z:=by
 have r:=Nat.div_add_mod dC (D.val aP)
 have s:=Nat.mod_lt dC h
 have fin:∀ (aA:Nat) (bK:List Nat) (Z:U),dC / D.val aP≤aA→aA < 4294967296→bK.length=n+1→dS b7 Z aE (f ++ (bK ++ bA))→nN bP aE aY Z→D.val bK+aA*D.val aP=dC→g9.aZ.t Y (aA:Int) Z:=by
  intro aA bK Z d e a b cI O
  have u:aA≤dC / D.val aP:=by rw [Nat.le_div_iff_mul_le h];omega
  have l:aA=dC / D.val aP:=Nat.le_antisymm u d
  unfold g9.aZ.t
  refine j2 aA rfl e ?_
  rw [l]
  refine post Z bK a b cI ?_
  rw [l,Nat.mul_comm] at O;omega
 have more:∀ (aA:Nat) (bK:List Nat),bK.length=n+1→(∀ N ∈ bK,N < 4294967296)→D.val bK+aA*D.val aP=dC+1*2 ^ (32*(n+1))→dC / D.val aP < aA:=by
  intro aA bK a v O
  have w:=D.hS (L:=bK) v
  rw [a] at w
  rw [Nat.div_lt_iff_lt_mul h];omega
 clear r s
 generalize dC / D.val aP=Q at *
 intro S
 induction S with
 | zero=>
  intro aA aN bK Z x d e y a b cI O
  unfold g9.cJ.t g9.cF.t
  have z:aN=0:=by
   rcases Nat.lt_or_ge aN 1 with i | i
   ·omega
   ·have:aN=1:=by omega
    subst this
    have:=more aA bK a (fun N j=>b.ok N (List.mem_append_right _ (List.mem_append_left _ j))) O
    omega
  subst z
  refine cC (fun k=>absurd k (by omega)) fun _=>?_
  exact fin aA bK Z d e a b cI (by omega)
 | succ S bO=>
  intro aA aN bK Z x d e y a b cI O
  unfold g9.cJ.t g9.cF.t
  refine cC (fun k=>?_) fun k=>?_
  ·have A:aN=1:=by omega
   subst A
   have H:=more aA bK a (fun N j=>b.ok N (List.mem_append_right _ (List.mem_append_left _ j))) O
   unfold g9.b9.t
   refine c3 (aA - 1) (by omega) (by omega) ?_
   unfold g9.eR.t
   refine⟨n+2,?_⟩
   refine HQ (T:=D.val bK) aI m o p q (fun B g C I E F G J=>?_) (n+1) 0 0 bK Z (by omega) a (by omega) b cI (by simp [D.val])
   refine bO (aA - 1) (1 - g) C B (by omega) (by omega) (by omega) (by omega) E F G ?_
   have P:(aA - 1)*D.val aP+D.val aP=aA*D.val aP:=by
    rw [← Nat.succ_mul,Nat.succ_eq_add_one,Nat.sub_add_cancel (by omega)]
   generalize 2 ^ (32*(n+1))=cH at *
   rcases Nat.lt_or_ge g 1 with i | i
   ·have:g=0:=by omega
    subst this;omega
   ·have:g=1:=by omega
    subst this;omega
  ·have:aN=0:=by omega
   subst this
   exact fin aA bK Z d e a b cI (by omega)
theorem Dz{L:List Nat}(a:D.Words L){m:Nat}(b:L.length=m+1):D.val L / 2 ^ (32*m)=L.getD m 0:=by
 rw [← D.kJ a,h6 (by omega),List.drop_of_length_le (by omega)];simp [D.val]
theorem HS{L:List Nat}(a:D.Words L){m:Nat}(b:L.length=m+2):D.val L / 2 ^ (32*m)=L.getD m 0+4294967296*L.getD (m+1) 0:=by
 rw [← D.kJ a,h6 (by omega),h6 (by omega),List.drop_of_length_le (by omega)];simp [D.val]
theorem HT{K:M}{c aT l n aE off m dC:Nat}{aP e bK bA:List Nat}{bP Z:U}(aI:cL b7 bP K aT aP)(f:aP.length=n)(w:n=l)(a:e.length=off)(k:bP.size≤aE)(o:n < 1099511627776)(Nv:0 < n)(Nw:aP.getD (n - 1) 0 ≠ 0)(p:D.val bK=dC)(q:dC < 4294967296*D.val aP)
  (g:bK.length=n+1) (x:m=n+1) (b:dS b7 Z aE (e ++ (bK ++ bA))) (y:bC bP Z) :
  a0 g9.id #[.slice (some ⟨aE,off,none⟩) m c,.slice K l aT] Z fun v aB=>v=.int .u32 ((dC / D.val aP:Nat):Int)∧nN bP aE Z aB∧∃ h,h.length=n+1∧dS b7 aB aE (e ++ (h ++ bA))∧D.val h=dC % D.val aP:=by
 subst x;subst w
 have cI:nN bP aE Z Z:=⟨y,b2.refl _ _⟩
 refine g9.ok ?_
 unfold g9.t g9.aM.t
 have r:bK.length≤70368744177656:=by omega
 have i:D.Words bK:=fun N z=>b.ok N (List.mem_append_right _ (List.mem_append_left _ z))
 have A:=mI (L:=bK) (bA:=4294967296) (by decide) i n
 have Nx:=mI (L:=bK) (bA:=4294967296) (by decide) i (n - 1)
 have Ny:=aI.kK (n - 1)
 refine yG b a g.symm r (aC:=n) rfl (by omega) ?_
 refine c3 (bK.getD n 0) rfl (by omega) ?_
 refine AG rfl A ?_
 refine cN ((n - 1:Nat):Int) (by omega) (by omega) (by omega) ?_
 refine yG b a g.symm r (aC:=n - 1) rfl (by omega) ?_
 refine c3 (bK.getD (n - 1) 0) rfl (by omega) ?_
 refine c3 (bK.getD (n - 1) 0+4294967296*bK.getD n 0) (by omega) (by omega) ?_
 refine cN ((n - 1:Nat):Int) (by omega) (by omega) (by omega) ?_
 refine iH (aI.aS cI.1) (aC:=n - 1) rfl f.symm (by omega) ?_
 refine c3 (aP.getD (n - 1) 0) rfl (by omega) ?_
 refine⟨by omega,?_⟩
 rw [m2]
 have Nz:=Nat.div_le_self (bK.getD (n - 1) 0+4294967296*bK.getD n 0) (aP.getD (n - 1) 0)
 refine c3 ((bK.getD (n - 1) 0+4294967296*bK.getD n 0) / aP.getD (n - 1) 0) rfl (by omega) ?_
 have s:0 < D.val aP:=by
  rcases Nat.eq_zero_or_pos (D.val aP) with O | O
  ·rw [O] at q;omega
  ·exact O
 have u:=Dz aI.ok (m:=n - 1) (by omega)
 have d:=HS i (m:=n - 1) (by omega)
 rw [show n - 1+1=n by omega,p] at d
 have NA:dC / D.val aP≤(bK.getD (n - 1) 0+4294967296*bK.getD n 0) / aP.getD (n - 1) 0:=by
  rw [← d,← u,Nat.div_div_eq_div_mul]
  refine Nat.div_le_div_left (Nat.mul_div_le _ _) ?_
  rw [u];exact Nat.mul_pos (Nat.pow_pos (by decide)) (by omega)
 have NB:dC / D.val aP < 4294967296:=by rw [Nat.div_lt_iff_lt_mul s];exact q
 generalize (bK.getD (n - 1) 0+4294967296*bK.getD n 0) / aP.getD (n - 1) 0=j at *
 obtain⟨aA,NC⟩:∃ aA:Nat,aA=min j 4294967295:=⟨_,rfl⟩
 have B:(if (4294967295:Int) < (j:Int) then(4294967295:Int) else(j:Int))=(aA:Int):=by split <;> omega
 rw [B]
 unfold g9.qK.t
 refine⟨n+2,?_⟩
 refine HP (dC:=dC) aI f a k (by omega) o (fun C aN E F G H I d=>?_) (n+1) 0 0 0 bK Z (by omega) g (by decide) (by omega) (by omega) b cI (by simp [D.val,p])
 refine⟨aA - dC / D.val aP+1,?_⟩
 exact HR aI f a k o s (fun ND J P Q T V=>⟨rfl,T,J,P,Q,V⟩) _ aA aN E C (by omega) (by omega) (by omega) F G H I d
def m5(a1 bH:Nat):Nat × Nat:=if bH=0 then(0,0) else(a1 / bH,a1 % bH)
theorem DA{a:List Nat}{S V:Nat}(d:V≤2 ^ (32*S))(Z:D.val a < V)(b:D.Words a):D.val (a.drop S)=0∧D.val (a.take S)=D.val a:=by
 have O:D.val a=D.val (a.take S)+2 ^ (32*S)*D.val (a.drop S):=by
  by_cases c:S≤a.length
  ·conv=>lhs;rw [← List.take_append_drop S a]
   rw [D.hI,List.length_take,Nat.min_eq_left c]
  ·rw [List.take_of_length_le (by omega),List.drop_of_length_le (by omega)];simp [D.val]
 have aV:D.val (a.drop S)=0:=by
  rw [D.kJ b];exact Nat.div_eq_of_lt (by omega)
 rw [aV] at O
 exact⟨aV,by omega⟩
theorem HU{Y:aD}{K:M}{aT n c e b hA hO:Nat}{gF:Int}{aP gQ rest:List Nat}{bP:U}(aI:cL b7 bP K aT aP)(z:aP.length=n)(hu:bP.size≤c)(Nw:bP.size≤e)(A:c ≠ e)(Nx:n < 1099511627776)(Ny:0 < n)(B:aP.getD (n - 1) 0 ≠ 0)(NZ:b < 1099511627776)(N0:b≤hA)(N1:n < b)
  (Nz:D.val gQ=hO) (N2:gQ.length=b) (C:D.Words gQ)
  (post:∀ Z a fE,a.length=b→fE.length=b - n→dS b7 Z c (a ++ rest)→dS b7 Z e fE→bC bP Z→D.val a=hO % D.val aP→D.val fE=hO / D.val aP→iR.bF.t Y gF (some ⟨c,0,none⟩) b hA (n:Int) (some ⟨e,0,none⟩) (b - n) (b - n) Z) :
  ∀ (aC:Nat) (a fE:List Nat) (Z:U),aC≤b - n→a.length=b→fE.length=b - n→dS b7 Z c (a ++ rest)→dS b7 Z e fE→bC bP Z→a.take aC=gQ.take aC→D.val (a.drop aC) < D.val aP→D.val (fE.drop aC)*D.val aP+D.val (a.drop aC)=hO / 2 ^ (32*aC)→
   iR.eC.t Y (aC+1) gF K n aT (some ⟨c,0,none⟩) b hA (n:Int) (some ⟨e,0,none⟩) (b - n) (b - n) ((aC:Int) - 1) Z:=by
 have E:=D.hS aI.ok
 rw [z] at E
 have l:0 < D.val aP:=by
  rcases Nat.eq_zero_or_pos (D.val aP) with O | O
  ·exfalso
   have:=Dz aI.ok (m:=n - 1) (by omega)
   rw [O,Nat.zero_div] at this;exact B this.symm
  ·exact O
 intro aC
 induction aC with
 | zero=>
  intro a fE Z NA F o f j cI _ k O
  unfold iR.eC.t iR.dD.t
  refine cC (fun p=>absurd p (by omega)) fun _=>?_
  rw [List.drop_zero] at k O
  rw [List.drop_zero,Nat.mul_zero,Nat.pow_zero,Nat.div_one] at O
  refine post Z a fE F o f j cI ?_ ?_
  ·rw [← O,Nat.mul_comm,Nat.mul_add_mod,Nat.mod_eq_of_lt k]
  ·rw [← O,Nat.mul_comm,Nat.mul_add_div l,Nat.div_eq_of_lt k,Nat.add_zero]
 | succ aC bO=>
  intro a fE Z NA F o f j cI G k O
  have H:D.Words a:=fun N q=>f.ok N (List.mem_append_left _ q)
  have N3:D.Words fE:=j.ok
  unfold iR.eC.t iR.dD.t
  refine cC (fun _=>?_) fun p=>absurd (by omega) p
  refine cN ((aC+n:Nat):Int) (by omega) (by omega) (by omega) ?_
  refine cN ((aC+n+1:Nat):Int) (by omega) (by omega) (by omega) ?_
  have NB:(((aC+1:Nat):Int) - 1)=(aC:Int):=by omega
  rw [NB]
  have NC:∀ {aF:M→Nat→Nat→Prop},aF (some ⟨c,aC,none⟩) (n+1) (hA - aC)→hX 1 (some ⟨c,0,none⟩) b hA (some (.int .i64 (aC:Int))) (some (.int .i64 ((aC+n+1:Nat):Int))) none aF:=by
   intro aF g
   refine⟨⟨by omega,by omega⟩,⟨by omega,by omega⟩,?_⟩
   show aF (iP (some ⟨c,0,none⟩) hA ((aC:Int)).toNat 1) ((((aC+n+1:Nat):Int)).toNat - ((aC:Int)).toNat) (hA - ((aC:Int)).toNat)
   have r:(((aC+n+1:Nat):Int)).toNat - ((aC:Int)).toNat=n+1:=by omega
   have h:hA - ((aC:Int)).toNat=hA - aC:=by omega
   have ND:iP (some ⟨c,0,none⟩) hA ((aC:Int)).toNat 1=some ⟨c,aC,none⟩:=by
    unfold iP
    rw [if_neg (by omega),Int.toNat_natCast,Nat.mul_one]
    show some ((⟨c,0,none⟩:Addr).add aC)=_
    rw [bZ]
   rw [r,h,ND];exact g
  refine NC ?_
  obtain⟨d,s⟩:∃ d,d=a.take aC:=⟨_,rfl⟩
  obtain⟨bK,u⟩:∃ bK,bK=(a.drop aC).take (n+1):=⟨_,rfl⟩
  obtain⟨bA,w⟩:∃ bA,bA=a.drop (aC+(n+1)):=⟨_,rfl⟩
  have NF:a=d ++ (bK ++ bA):=by
   rw [s,u,w,← List.drop_drop,List.take_append_drop,List.take_append_drop]
  have x:d.length=aC:=by rw [s,List.length_take];omega
  have NG:bK.length=n+1:=by rw [u,List.length_take,List.length_drop];omega
  have N4:bA.length=b - (aC+(n+1)):=by rw [w,List.length_drop];omega
  have N5:D.val (a.drop aC)=a.getD aC 0+4294967296*D.val (a.drop (aC+1)):=D.kW a aC
  have N6:a.getD aC 0 < 4294967296:=mI (by decide) H aC
  have y:D.val (a.drop aC) < 4294967296*D.val aP:=by omega
  have NH:D.val (a.drop aC) < 2 ^ (32*(n+1)):=by
   rw [D.jQ]
   calc D.val (a.drop aC) < 4294967296*D.val aP:=y
    _≤4294967296*2 ^ (32*n):=Nat.mul_le_mul_left _ (Nat.le_of_lt E)
  have NI:D.Words (a.drop aC):=fun N q=>H N (List.mem_of_mem_drop q)
  have I:=DA (Nat.le_refl _) NH NI
  have NJ:D.val bK=D.val (a.drop aC):=by rw [u];exact I.2
  have NK:D.val bA=0:=by
   have:=I.1
   rw [List.drop_drop] at this
   rw [w];exact this
  have NL:dS b7 Z c (d ++ (bK ++ (bA ++ rest))):=by
   rw [NF] at f;simpa [List.append_assoc] using f
  refine b5 (HT (dC:=D.val (a.drop aC)) aI z rfl x hu Nx Ny B NJ y NG rfl NL cI) fun v NM ⟨h,J,i,N7,NN,NO⟩=>?_
  subst h
  refine bR rfl ?_
  have NP:D.val (a.drop aC) / D.val aP < 4294967296:=by rw [Nat.div_lt_iff_lt_mul l];exact y
  have NQ:dS b7 NM e fE:=j.cG (fun O=>A O.symm) J.2
  refine x5 NQ (aC:=aC) rfl (by omega) (by omega) rfl NP fun NR Q=>?_
  have NS:=Q.aS J.1 Nw
  have NT:=NN.cG A Q
  refine cN ((aC:Int) - 1) (by omega) (by omega) (by omega) ?_
  have NU:=Nat.mod_lt (D.val (a.drop aC)) l
  have N8:=Nat.div_add_mod (D.val (a.drop aC)) (D.val aP)
  have T:(d ++ (i ++ bA)).drop aC=i ++ bA:=by rw [← x,List.drop_left]
  have V:D.val (i ++ bA)=D.val (a.drop aC) % D.val aP:=by
   rw [D.hI,NK,NO];simp
  have NV:a.take aC=gQ.take aC:=by
   have:=congrArg (List.take aC) G
   rwa [List.take_take,List.take_take,Nat.min_eq_left (by omega)] at this
  have NW:a.getD aC 0=gQ.getD aC 0:=by
   have r:(a.take (aC+1)).getD aC 0=a.getD aC 0:=by simp [List.getD]
   have h:(gQ.take (aC+1)).getD aC 0=gQ.getD aC 0:=by simp [List.getD]
   rw [← r,← h,G]
  refine bO (d ++ (i ++ bA)) (fE.set aC (D.val (a.drop aC) / D.val aP)) _ (by omega) (by simp;omega) (by simp [o]) (by simpa [List.append_assoc] using NT) NR NS ?_ ?_ ?_
  ·have Nv:(d ++ (i ++ bA)).take d.length=d:=List.take_left
   rw [x] at Nv;rw [Nv,s];exact NV
  ·rw [T,V];exact NU
  ·rw [T,V]
   have NX:(fE.set aC (D.val (a.drop aC) / D.val aP)).drop aC=D.val (a.drop aC) / D.val aP :: fE.drop (aC+1):=by
    rw [h6 (by simp;omega),List.drop_set_of_lt (by omega)]
    simp [List.getD,show aC < fE.length by omega]
   have NY:hO / 2 ^ (32*aC)=gQ.getD aC 0+4294967296*(hO / 2 ^ (32*(aC+1))):=by
    rw [← Nz,← D.kJ C,← D.kJ C,D.kW]
   rw [NX,NY,← O,← NW]
   simp only [D.val]
   rw [Nat.add_mul,Nat.mul_comm (D.val (a.drop aC) / D.val aP),Nat.mul_assoc]
   generalize D.val (fE.drop (aC+1))*D.val aP=P at *
   omega
theorem HV{a1 n:Nat}(Z:dV a1=32*n)(b:0 < n):(D.aL a1).length=n:=by
 refine Nat.le_antisymm ((D.x4 n).mp (by omega)) ?_
 rcases Nat.lt_or_ge (D.aL a1).length n with a | a
 ·have:=(D.x4 (v:=a1) (n - 1)).mpr (by omega)
  omega
 ·exact a
theorem HW{a K:M}{c aT l m a1 bH:Nat}{Z:U}(r:cL b7 Z a c (D.aL a1))(aI:cL b7 Z K aT (D.aL bH))(NW:l=(D.aL a1).length)(NX:m=(D.aL bH).length)(OJ:(D.aL a1).length≤1099511627770):
  a0 iR.id #[.slice a l c,.slice K m aT] Z fun v aB=>bC Z aB∧s2 gA gA Z aB v (m5 a1 bH):=by
 subst NW;subst NX
 have Nx:D.val (D.aL a1)=a1:=D.eV a1
 have F:D.val (D.aL bH)=bH:=D.eV bH
 refine iR.ok ?_
 unfold iR.t iR.aM.t
 refine fN (fun aV=>?_) fun aV=>?_
 ·have O:D.aL bH=[]:=List.length_eq_zero_iff.mp (by omega)
  have A:bH=0:=by rw [← F,O];rfl
  refine b5 (m4 (aA:=0) rfl (by decide) Z) fun v aY ⟨b4,G⟩=>?_
  refine G.elim fun aJ aG k=>?_
  refine b5 (m4 (aA:=0) rfl (by decide) aY) fun v Ny ⟨g,o⟩=>?_
  refine o.elim fun bL bG w=>?_
  unfold m5;rw [if_pos A]
  exact⟨b4.trans g,_,_,rfl,⟨_,_,rfl,k.aS g⟩,⟨_,_,rfl,w.from b4.le⟩⟩
 have A:bH ≠ 0:=by
  intro O;subst O;rw [D.eK] at aV;exact aV rfl
 unfold m5;rw [if_neg A]
 refine b5 (yC r aI rfl rfl) fun v aB ⟨h,H⟩=>?_
 subst h;subst H
 refine bR rfl ?_
 refine cC (fun e=>?_) fun e=>?_
 ·have Nz:a1 < bH:=by unfold fD at e;split at e <;> (try split at e) <;> omega
  refine b5 (m4 (aA:=0) rfl (by decide) aB) fun v aY ⟨b4,G⟩=>?_
  refine G.elim fun aJ aG k=>?_
  refine b5 (m3 (r.aS b4) rfl) fun v Ny ⟨g,o⟩=>?_
  rw [Nx] at o
  refine o.elim fun bL bG w=>?_
  rw [Nat.div_eq_of_lt Nz,Nat.mod_eq_of_lt Nz]
  exact⟨b4.trans g,_,_,rfl,⟨_,_,rfl,k.aS g⟩,⟨_,_,rfl,w.from b4.le⟩⟩
 have NY:bH≤a1:=by unfold fD at e;split at e <;> (try split at e) <;> omega
 have p:(D.aL bH).getD ((D.aL bH).length - 1) 0 ≠ 0:=by
  rcases tS.mp (D.o9 bH) with O | O
  ·rw [O] at aV;exact absurd rfl aV
  ·exact O
 have B:=aI.kK ((D.aL bH).length - 1)
 have OK:(D.aL bH).length≤(D.aL a1).length:=D.mY NY
 refine fN (fun aY=>?_) fun aY=>?_
 ·have NZ:(D.aL bH).length=1:=by omega
  rw [NZ] at p B
  have N0:(D.aL bH).getD 0 0=bH:=by
   have O:=D.kW (D.aL bH) 0
   rw [List.drop_zero,F,List.drop_of_length_le (by omega)] at O
   simpa [D.val] using O.symm
  have N1:(D.aL bH).getD 0 0 ≠ 0:=p
  have NA:(D.aL bH).getD 0 0 < 4294967296:=B
  refine iH aI (aC:=0) rfl rfl (by omega) ?_
  rw [N0] at N1 NA ⊢
  refine b5 (AJ r rfl rfl NA (by omega)) fun v aY ⟨b4,aJ,aG,O,k⟩=>?_
  subst O
  rw [Nx] at k ⊢
  have OL:=Nat.mod_lt a1 (show 0 < bH by omega)
  refine g7 rfl (cK (bD rfl (cK (bR rfl (dY ?_)))))
  refine c3 (a1 % bH) rfl (by omega) ?_
  refine b5 (m4 (aA:=a1 % bH) rfl (by omega) aY) fun v Ny ⟨g,o⟩=>?_
  refine o.elim fun bL bG w=>?_
  exact⟨b4.trans g,_,_,rfl,⟨_,_,rfl,k.aS g⟩,⟨_,_,rfl,w.from b4.le⟩⟩
 refine cN (((D.aL bH).length - 1:Nat):Int) (by omega) (by omega) (by omega) ?_
 refine Dr rfl (by omega) ?_
 obtain⟨lB,C⟩:∃ lB,lB=(D.aL bH).getD ((D.aL bH).length - 1) 0:=⟨_,rfl⟩
 have N2:(D.aL bH).drop ((D.aL bH).length - 1)=[lB]:=by
  rw [h6 (by omega),List.drop_of_length_le (by omega),C]
 have NB:=aI.drop (m:=aT) ((D.aL bH).length - 1) (by omega) aI.cap
 rw [N2] at NB
 rw [← C] at p B
 have N3:dI [lB]=[lB]:=by simp [dI,p]
 refine b5 (Dn NB (by simp;omega) N3) fun v x ⟨h,H⟩=>?_
 subst h;subst H
 refine bR rfl ?_
 have N4:D.val [lB]=lB:=by simp [D.val]
 rw [N4]
 have OM:dV lB≤32:=h7.mpr B
 have ON:=pA p
 obtain⟨d,OO⟩:∃ d,d=32 - dV lB:=⟨_,rfl⟩
 refine cN ((d:Nat):Int) (by omega) (by omega) (by omega) ?_
 have N5:=D.vL (D.oH bH) (n:=(D.aL bH).length - 1) (by omega) (by rw [← C];exact p)
 rw [F,← C] at N5
 obtain⟨n,OP⟩:∃ n,n=(D.aL bH).length:=⟨_,rfl⟩
 obtain⟨V,q⟩:∃ V,V=bH*2 ^ d:=⟨_,rfl⟩
 have N6:dV V=32*n:=by rw [q,yI d A];omega
 have s:(D.aL V).length=n:=HV N6 (by omega)
 refine b5 (yF aI rfl rfl (by omega) (by omega)) fun v NC ⟨ND,NF⟩=>?_
 rw [← q] at NF
 refine NF.elim fun N7 N8 N9=>?_
 refine b5 (yF (r.aS ND) rfl rfl (by omega) (by omega)) fun v Oa ⟨Ob,Oc⟩=>?_
 refine Oc.elim fun Od hA NG=>?_
 obtain⟨hO,y⟩:∃ hO,hO=a1*2 ^ d:=⟨_,rfl⟩
 rw [← y] at NG ⊢
 obtain⟨f,NH⟩:∃ f,f=(D.aL a1).length:=⟨_,rfl⟩
 have Oe:a1 < 2 ^ (32*f):=D.gE.mp (Nat.le_of_eq NH.symm)
 have Of:d < 32:=by omega
 have Og:2 ^ d < 4294967296:=AK Of
 have OQ:(D.aL hO).length≤f+1:=by rw [y];exact Dw (Nat.le_of_eq NH.symm) Og
 have Oh:=N9.rd
 have pad:∀ (S:Nat) (b:List Nat) (dR:M) (dA:Nat) (u:U),b.length+S=f+1→D.val b=hO→cZ b7 NC u dR dA b→bC NC u→
   iR.gR.t (fun v i=>bC x i∧s2 gA gA x i v (a1 / bH,a1 % bH)) (S+1) a (D.aL a1).length c ((d:Nat):Int) N7 (D.aL V).length N8 dR b.length dA u:=by
  intro S
  induction S with
  | zero=>
   intro b dR dA u Oi pE j E
   unfold iR.gR.t iR.iA.t
   refine cC (fun e=>absurd e (by omega)) fun _=>?_
   unfold iR.aZ.t
   have NI:b.length=f+1:=by omega
   refine cN ((b.length - n:Nat):Int) (by omega) (by omega) (by omega) ?_
   refine oL b7 0 (b.length - n) (b.length - n) rfl oJ 4 rfl (by decide) rfl rfl (Nat.le_refl _) (by omega) fun I Oj z=>?_
   unfold iR.cF.t
   refine cN ((b.length - n:Nat):Int) (by omega) (by omega) (by omega) ?_
   refine cN (((b.length - n:Nat):Int) - 1) (by omega) (by omega) (by omega) ?_
   refine⟨b.length - n+1,?_⟩
   rw [Int.toNat_natCast]
   have NJ:=j.aS z
   rcases j.here with ⟨h,_,_⟩ | ⟨Ok,rest,h,Ol,NK,OR⟩
   ·rw [h] at NI;simp at NI
   subst h
   have Om:Ok ≠ u.size:=Nat.ne_of_lt NK.lt
   have NL:(D.aL V).getD ((D.aL V).length - 1) 0 ≠ 0:=by
    rcases tS.mp (D.o9 V) with O | O
    ·rw [O] at s;simp at s;omega
    ·exact O
   have On:2 ^ (32*(n - 1))*2 ^ d≤V:=by
    rw [q]
    refine Nat.mul_le_mul_right _ ?_
    rcases Nat.lt_or_ge bH (2 ^ (32*(n - 1))) with J | J
    ·have:=(D.gE (n:=bH) (S:=n - 1)).mpr J
     omega
    ·exact J
   have Oo:hO < V*2 ^ (32*(b.length - n)):=by
    have Oq:2 ^ (32*f)*2 ^ d=2 ^ (32*(n - 1))*2 ^ d*2 ^ (32*(b.length - n)):=by
     rw [Nat.mul_assoc,Nat.mul_comm (2 ^ d),← Nat.mul_assoc]
     congr 1
     rw [← Nat.pow_add,show 32*(n - 1)+32*(b.length - n)=32*f by omega]
    calc hO < 2 ^ (32*f)*2 ^ d:=by rw [y];exact Nat.mul_lt_mul_of_pos_right Oe (Nat.pow_pos (by decide))
     _=2 ^ (32*(n - 1))*2 ^ d*2 ^ (32*(b.length - n)):=Oq
     _≤V*2 ^ (32*(b.length - n)):=Nat.mul_le_mul_right _ On
   have NM:D.Words b:=j.rd.ok
   have NN:D.val (b.drop (b.length - n))=hO / 2 ^ (32*(b.length - n)):=by rw [D.kJ NM,pE]
   have P:D.val (D.aL V)=V:=D.eV V
   have go:=HU (Y:=fun v i=>bC x i∧s2 gA gA x i v (a1 / bH,a1 % bH)) (hO:=hO) (gQ:=b) (gF:=((d:Nat):Int)) (hA:=dA) (rest:=rest) Oh s Ol (Nat.le_trans E.le (Nat.le_refl _)) Om (by omega) (by omega) (by rw [s] at NL;exact NL) (by omega) j.cap (by omega) pE rfl NM (fun i NO OS OT Ot NP Ou Ov Q Ow=>?_) (b.length - n) b (List.replicate (b.length - n) 0) I (Nat.le_refl _) rfl (by simp) (NK.aS z) Oj (E.trans z) rfl ?_ ?_
   ·rw [s];exact go
   ·unfold iR.bF.t
    have OU:=j.cap
    refine b5 (m3 (Ou.qC (c:=b.length - n) (by show _≤70368744177656;omega) (by omega)) Ot.symm) fun v fX ⟨T,NQ⟩=>?_
    rw [Ow,P] at NQ
    refine NQ.elim fun OV OW NR=>?_
    refine tQ rfl (by omega) ?_
    rw [P] at Q
    have Ox:0 < V:=by rw [q];exact Nat.mul_pos (by omega) (Nat.pow_pos (by decide))
    have Oy:D.val NO < V:=by rw [Q];exact Nat.mod_lt _ Ox
    have Oz:V≤2 ^ (32*n):=Nat.le_of_lt (D.gE.mp (Nat.le_of_eq s))
    have OA:D.Words NO:=fun N OB=>NP.ok N (List.mem_append_left _ OB)
    have OC:=DA Oz Oy OA
    have OD:=((NP.rd (c:=dA) (by show _≤70368744177656;omega) (by omega)).aS T).take n
    refine b5 (m3 OD (by rw [List.length_take];omega)) fun v OX ⟨Nv,NS⟩=>?_
    rw [OC.2,Q] at NS
    refine NS.elim fun OY OZ OE=>?_
    refine b5 (AM OE.rd rfl rfl (by omega)) fun v O0 ⟨NT,OF⟩=>?_
    refine OF.elim fun O1 O2 NU=>?_
    have NV:0 < 2 ^ d:=Nat.pow_pos (by decide)
    have OG:hO / V=a1 / bH:=by rw [y,q,Nat.mul_div_mul_right _ _ NV]
    have OH:hO % V / 2 ^ d=a1 % bH:=by rw [y,q,Nat.mul_mod_mul_right,Nat.mul_div_cancel _ NV]
    rw [OG] at NR ⊢
    rw [OH] at NU ⊢
    have Nw:bC x i:=ND.trans Ov
    exact⟨Nw.trans (T.trans (Nv.trans NT)),_,_,rfl,⟨_,_,rfl,(NR.aS (Nv.trans NT)).from Nw.le⟩,⟨_,_,rfl,NU.from ((Nw.trans T).trans Nv).le⟩⟩
   ·rw [P,NN]
    rw [Nat.div_lt_iff_lt_mul (Nat.pow_pos (by decide))];exact Oo
   ·rw [List.drop_of_length_le (by simp),NN];simp [D.val]
  | succ S bO=>
   intro b dR dA u Oi pE j E
   unfold iR.gR.t iR.iA.t
   refine cC (fun _=>?_) fun e=>absurd (by omega) e
   refine qG (n:=0) j E rfl rfl (by decide) (by omega) (by omega) fun OI c8 I NJ z _=>?_
   have:=bO (b ++ [0]) OI c8 I (by simp;omega) (by rw [D.hI,pE];simp [D.val]) NJ z
   simpa using this
 refine⟨f+1 - (D.aL hO).length+1,?_⟩
 exact pad _ (D.aL hO) Od hA Oa (by omega) (D.eV hO) (NG.from (Nat.le_refl _)) Ob
theorem HX{Y:aD}{a K:M}{c aT l m:Nat}{L aP:List Nat}{Z:U}(r:cD Z a c L)(aI:cD Z K aT aP)(h:l=L.length)(i:m=aP.length)(f:L.length=aP.length)(g:Y (.int .i64 (fD (val L) (val aP))) Z):
  ∀ n:Nat,n≤L.length→L.drop n=aP.drop n→iL.bJ.t Y (n+1) a l c K m aT ((n:Int) - 1) Z:=by
 subst h;subst i
 have aY:=r.len
 intro n
 induction n with
 | zero=>
  intro j b
  unfold iL.bJ.t iL.b9.t
  refine cC (fun e=>absurd e (by omega)) fun _=>?_
  have O:L=aP:=by simpa using b
  unfold iL.aZ.t
  rw [O] at g
  have d:fD (val aP) (val aP)=0:=by simp [fD]
  rw [d] at g;exact g
 | succ n bO=>
  intro j b
  unfold iL.bJ.t iL.b9.t
  refine cC (fun e=>?_) fun e=>absurd (by omega) e
  refine fP r (aC:=n) (by omega) rfl (by omega) ?_
  refine fP aI (aC:=n) (by omega) rfl (by omega) ?_
  refine jB (fun o=>?_) fun p=>?_
  ·refine fP r (aC:=n) (by omega) rfl (by omega) ?_
   refine fP aI (aC:=n) (by omega) rfl (by omega) ?_
   refine cC (fun k=>?_) fun k=>?_
   ·have:=rW r.words aI.words f (by omega) b (by omega)
    have d:fD (val L) (val aP)=-1:=by simp [fD,this]
    rw [d] at g;exact g
   ·have:=rW aI.words r.words f.symm (by omega) b.symm (aC:=n) (by omega)
    have d:fD (val L) (val aP)=1:=by unfold fD;rw [if_neg (by omega),if_neg (by omega)]
    rw [d] at g;exact g
  ·refine cN ((n:Int) - 1) (by omega) (by omega) (by omega) ?_
   refine bO (by omega) ?_
   rw [h6 (by omega),h6 (L:=aP) (by omega),b,show L.getD n 0=aP.getD n 0 by omega]
theorem AN{a K:M}{c aT l m:Nat}{L aP:List Nat}{Z:U}(r:cD Z a c L)(aI:cD Z K aT aP)(g:l=L.length)(h:m=aP.length):
  a0 iL.id #[.slice a l c,.slice K m aT] Z fun v aB=>aB=Z∧v=.int .i64 (fD (val L) (val aP)):=by
 refine iL.ok ?_
 unfold iL.t iL.aM.t
 refine b5 (vR r g) fun v aB ⟨b,d,e⟩=>?_
 subst b;subst d
 refine bD rfl ?_
 refine b5 (vR aI h) fun v aB ⟨b,d,f⟩=>?_
 subst b;subst d
 refine bD rfl ?_
 rw [← qA L,← qA aP]
 have j:=e.len
 refine jB (fun k=>?_) fun n=>?_
 ·refine cC (fun i=>⟨rfl,?_⟩) fun i=>⟨rfl,?_⟩
  ·have:=qB e.words (AE aP) (by omega)
   simp [fD,this]
  ·have:=qB f.words (AE L) (by omega)
   unfold fD;rw [if_neg (by omega),if_neg (by omega)]
 ·unfold iL.bF.t
  refine cN (((dI L).length:Int) - 1) (by omega) (by omega) (by omega) ?_
  refine⟨(dI L).length+1,?_⟩
  refine HX e f rfl rfl (by omega) ⟨rfl,rfl⟩ _ (Nat.le_refl _) ?_
  rw [List.drop_length,show(dI L).length=(dI aP).length by omega,List.drop_length]
theorem oO{N aQ bM:Int}{a K c:Nat}(b:N=(a:Int))(d:aQ=(K:Int))(e:bM=(c:Int))(f:c≤1){aF:Int→Int→Prop}
  (g:aF ((a+K+c) % 18446744073709551616:Nat) ((a+K+c) / 18446744073709551616:Nat)):mV N aQ bM aF:=by
 subst b;subst d;subst e
 exact⟨⟨by omega,by omega,by omega,by omega⟩,by simpa using g⟩
theorem tV{N aQ bM:Int}{a K c:Nat}(d:N=(a:Int))(e:aQ=(K:Int))(f:bM=(c:Int))(j:c≤1)(k:K < 18446744073709551616){aF:Int→Int→Prop}
  (g:aF ((a+18446744073709551616 - K - c) % 18446744073709551616:Nat) ((if a < K+c then 1 else 0:Nat):Int)):p6 N aQ bM aF:=by
 subst d;subst e;subst f
 refine⟨⟨by omega,by omega,by omega,by omega,by omega⟩,?_⟩
 have h:((a:Int) - (K:Int) - (c:Int)) % 18446744073709551616=(((a+18446744073709551616 - K - c) % 18446744073709551616:Nat):Int):=by omega
 have i:(if (a:Int) < (K:Int)+(c:Int) then(1:Int) else 0)=((if a < K+c then 1 else 0:Nat):Int):=by
  by_cases b:a < K+c
  ·rw [if_pos b,if_pos (by omega)];rfl
  ·rw [if_neg b,if_neg (by omega)];rfl
 rw [h,i];exact g
def tW(L aP:List Nat):List Nat × Int:=if iK L∧iK aP then fC (val L+val aP) else([],2)
theorem HY{Y:aD}{a:M}{c l bM aA:Nat}{a3:List Nat}{n:Nat}{Z:U}{aV:U}{aE:Nat}{b:Nat}(e:l=n)(f:Own Z aE a3)(h:bM=a3.length)(i:aA=a3.length)(p:a3.length=n+1)(j:b < 18446744073709551616)(q:n≤8192)(d:aV.size≤aE)(S:bC aV Z)
  (g:∀ v aB,bC aV aB→eT aV aB v (fC (val (a3.take n ++ [b])))→Y v aB):iS.cF.t Y a l c (some ⟨aE,0,none⟩) bM aA (b:Int) Z:=by
 subst e;subst h;subst i
 unfold iS.cF.t
 refine lX f (aC:=l) rfl rfl (by omega) rfl j fun aN=>?_
 have O:a3.set l b=a3.take l ++ [b]:=by
  have:=oP (aI:=a3) (aC:=l) (t:=b) (by omega)
  rw [← this,List.take_of_length_le (by rw [List.length_set];omega)]
 rw [O] at aN
 have k:bC aV (gB Z ⟨aE,l,none⟩ (hL b)):=S.set d
 have s:(a3.take l ++ [b]).length=l+1:=by simp;omega
 refine b5 (r0 (aN.lS (c:=a3.length) d (by omega)) (by omega)) fun v aB ⟨m,o⟩=>?_
 subst m
 refine o.hZ fun a c r R=>?_
 exact g _ _ k (eT.back r R)
theorem HZ{Y:aD}{a K:M}{c aT l m bM aA:Nat}{L aP:List Nat}{aV:U}{aE:Nat}(r:cD aV a c L)(aI:cD aV K aT aP)(j:l=L.length)(k:m=aP.length)(f:aV.size≤aE)(o:L.length≤8192)(u:bM=L.length+1)(w:aA=L.length+1)
  (e2:List Nat) (g:∀ v aB,bC aV aB→eT aV aB v (fC (val e2))→Y v aB) :
  ∀ (S n b:Nat) (a3:List Nat) (Z:U),n+S=L.length→b≤1→a3.length=L.length+1→Own Z aE a3→bC aV Z→a3.take n ++ pF (L.drop n) (aP.drop n) b=e2→
   iS.gG.t Y (S+1) a l c K m aT (some ⟨aE,0,none⟩) bM aA (b:Int) (l:Int) (n:Int) Z:=by
 subst j;subst k
 intro S
 induction S with
 | zero=>
  intro n b a3 Z p h i e cI O
  unfold iS.gG.t iS.eR.t
  refine cC (fun d=>absurd d (by omega)) fun _=>?_
  have q:n=L.length:=by omega
  subst q
  rw [List.drop_length] at O
  refine HY (n:=L.length) rfl e (by omega) (by omega) i (by omega) o f cI ?_
  rw [show a3.take L.length ++ [b]=e2 from O];exact g
 | succ S bO=>
  intro n b a3 Z p h i e cI O
  have x:L.getD n 0 < 18446744073709551616:=r.word n
  have y:aP.getD n 0 < 18446744073709551616:=aI.word n
  have step:a3.take n ++ pF (L.drop n) (aP.drop n) b=(a3.set n ((L.getD n 0+aP.getD n 0+b) % 18446744073709551616)).take (n+1) ++ pF (L.drop (n+1)) (aP.drop (n+1)) ((L.getD n 0+aP.getD n 0+b) / 18446744073709551616):=by
   rw [h6 (L:=L) (aC:=n) (by omega),oP (by omega)]
   simp only [pF,yJ,List.tail_drop,List.append_assoc,List.cons_append,List.nil_append]
  rw [step] at O
  unfold iS.gG.t iS.eR.t
  refine cC (fun d=>?_) fun d=>absurd (by omega) d
  refine cC (fun d=>?_) fun d=>?_
  ·refine fP (aI.aS cI) (aC:=n) rfl rfl (by omega) ?_
   refine fP (r.aS cI) (aC:=n) rfl rfl (by omega) ?_
   refine oO rfl rfl rfl h ?_
   refine lX e (aC:=n) rfl (by omega) (by omega) rfl (by omega) fun aN=>?_
   refine cN ((n+1:Nat):Int) (by omega) (by omega) (by omega) ?_
   exact bO (n+1) _ _ _ (by omega) (by omega) (by rw [List.length_set];omega) aN (cI.set f) O
  ·refine fP (r.aS cI) (aC:=n) rfl rfl (by omega) ?_
   have s:aP.getD n 0=0:=by simp [List.getD,show aP.length≤n by omega]
   rw [s] at O
   refine oO (K:=0) rfl rfl rfl h ?_
   refine lX e (aC:=n) rfl (by omega) (by omega) rfl (by omega) fun aN=>?_
   refine cN ((n+1:Nat):Int) (by omega) (by omega) (by omega) ?_
   exact bO (n+1) _ _ _ (by omega) (by omega) (by rw [List.length_set];omega) aN (cI.set f) O
theorem DB{Y:aD}{a K:M}{c aT l m:Nat}{L aP:List Nat}{Z:U}(r:cD Z a c L)(aI:cD Z K aT aP)(b:l=L.length)(d:m=aP.length)(e:L.length≤8192)(f:aP.length≤L.length)
  (g:∀ v aB,bC Z aB→eT Z aB v (fC (val L+val aP))→Y v aB):iS.bF.t Y a l c K m aT Z:=by
 subst b;subst d
 unfold iS.bF.t
 refine cN ((L.length+1:Nat):Int) (by omega) (by omega) (by omega) ?_
 refine m1 (L.length+1) rfl rfl rfl rfl (by omega) fun aY aN S=>?_
 refine⟨L.length+1,?_⟩
 refine HZ r aI rfl rfl (Nat.le_refl _) e rfl rfl (pF L aP 0) ?_ L.length 0 0 _ aY (by omega) (by omega) (by simp) aN S (by simp)
 rw [DC L aP 0 f];exact g
theorem H0{a K:M}{c aT l m:Nat}{L aP:List Nat}{Z:U}(r:cD Z a c L)(aI:cD Z K aT aP)(b:l=L.length)(d:m=aP.length):
  a0 iS.id #[.slice a l c,.slice K m aT] Z fun v aB=>bC Z aB∧eT Z aB v (tW L aP):=by
 refine iS.ok ?_
 unfold iS.t iS.aM.t
 refine b5 (mL r b) fun v aB ⟨e,f⟩=>?_
 subst e;subst f
 refine cY rfl ?_
 refine jP (fun g=>⟨bC.refl _,?_⟩) fun g=>?_
 ·unfold tW;rw [if_neg (fun h=>of_decide_eq_false g h.1)];exact eT.none
 refine b5 (mL aI d) fun v aB ⟨e,f⟩=>?_
 subst e;subst f
 refine cY rfl ?_
 refine jP (fun i=>⟨bC.refl _,?_⟩) fun i=>?_
 ·unfold tW;rw [if_neg (fun h=>of_decide_eq_false i h.2)];exact eT.none
 have f1:=of_decide_eq_true g
 have f2:=of_decide_eq_true i
 unfold tW;rw [if_pos ⟨f1,f2⟩]
 unfold iS.aZ.t
 refine cC (fun k=>?_) fun k=>?_
 ·refine DB aI r d b f2.1 (by omega) fun v aB S j=>⟨S,?_⟩
  rw [Nat.add_comm];exact j
 ·exact DB r aI b d f1.1 (by omega) fun v aB S j=>⟨S,j⟩
def tX(L aP:List Nat):List Nat × Int:=if iK L∧iK aP then(if val L < val aP then([],3) else fC (val L - val aP)) else([],2)
theorem H2{Y:aD}{a K:M}{c aT l m bM aA:Nat}{L aP:List Nat}{aV:U}{aE:Nat}(r:cD aV a c L)(aI:cD aV K aT aP)(k:l=L.length)(o:m=aP.length)(f:aV.size≤aE)(z:L.length≤8192)(A:bM=L.length)(B:aA=L.length)
  (e2:List Nat) (g:∀ v aB,bC aV aB→eT aV aB v (fC (val e2))→Y v aB) :
  ∀ (S n b:Nat) (a3:List Nat) (Z:U),n+S=L.length→b≤1→a3.length=L.length→Own Z aE a3→bC aV Z→a3.take n ++ nO (L.drop n) (aP.drop n) b=e2→
   jH.eC.t Y (S+1) a l c K m aT (some ⟨aE,0,none⟩) bM aA (b:Int) (l:Int) (n:Int) Z:=by
 subst k;subst o
 intro S
 induction S with
 | zero=>
  intro n b a3 Z p h j e cI O
  unfold jH.eC.t jH.dD.t
  refine cC (fun d=>absurd d (by omega)) fun _=>?_
  have q:n=L.length:=by omega
  subst q
  rw [List.drop_length] at O
  have s:a3=e2:=by rw [← O,← j,List.take_length];simp [nO]
  subst s
  unfold jH.bF.t
  refine b5 (r0 (e.lS (c:=aA) f (by omega)) (by omega)) fun v aB ⟨u,w⟩=>?_
  subst u
  refine w.hZ fun a c r R=>?_
  exact g _ _ cI (eT.back r R)
 | succ S bO=>
  intro n b a3 Z p h j e cI O
  have C:L.getD n 0 < 18446744073709551616:=r.word n
  have x:aP.getD n 0 < 18446744073709551616:=aI.word n
  have step:a3.take n ++ nO (L.drop n) (aP.drop n) b=(a3.set n ((L.getD n 0+18446744073709551616 - aP.getD n 0 - b) % 18446744073709551616)).take (n+1) ++ nO (L.drop (n+1)) (aP.drop (n+1)) (if L.getD n 0 < aP.getD n 0+b then 1 else 0):=by
   rw [h6 (L:=L) (aC:=n) (by omega),oP (by omega)]
   simp only [nO,yJ,List.tail_drop,List.append_assoc,List.cons_append,List.nil_append]
  rw [step] at O
  have i:(if L.getD n 0 < aP.getD n 0+b then 1 else 0)≤1:=by split <;> omega
  unfold jH.eC.t jH.dD.t
  refine cC (fun d=>?_) fun d=>absurd (by omega) d
  refine cC (fun d=>?_) fun d=>?_
  ·refine fP (aI.aS cI) (aC:=n) rfl rfl (by omega) ?_
   refine fP (r.aS cI) (aC:=n) rfl rfl (by omega) ?_
   refine tV rfl rfl rfl h x ?_
   refine lX e (aC:=n) rfl (by omega) (by omega) rfl (by omega) fun aN=>?_
   refine cN ((n+1:Nat):Int) (by omega) (by omega) (by omega) ?_
   exact bO (n+1) _ _ _ (by omega) i (by rw [List.length_set];omega) aN (cI.set f) O
  ·refine fP (r.aS cI) (aC:=n) rfl rfl (by omega) ?_
   have y:aP.getD n 0=0:=by simp [List.getD,show aP.length≤n by omega]
   rw [y] at O i
   refine tV (K:=0) rfl rfl rfl h (by omega) ?_
   refine lX e (aC:=n) rfl (by omega) (by omega) rfl (by omega) fun aN=>?_
   refine cN ((n+1:Nat):Int) (by omega) (by omega) (by omega) ?_
   exact bO (n+1) _ _ _ (by omega) i (by rw [List.length_set];omega) aN (cI.set f) O
theorem H3{a K:M}{c aT l m:Nat}{L aP:List Nat}{Z:U}(r:cD Z a c L)(aI:cD Z K aT aP)(g:l=L.length)(h:m=aP.length):
  a0 jH.id #[.slice a l c,.slice K m aT] Z fun v aB=>bC Z aB∧eT Z aB v (tX L aP):=by
 refine jH.ok ?_
 unfold jH.t jH.aM.t
 refine b5 (mL r g) fun v aB ⟨e,f⟩=>?_
 subst e;subst f
 refine cY rfl ?_
 refine jP (fun i=>⟨bC.refl _,?_⟩) fun i=>?_
 ·unfold tX;rw [if_neg (fun b=>of_decide_eq_false i b.1)];exact eT.none
 refine b5 (mL aI h) fun v aB ⟨e,f⟩=>?_
 subst e;subst f
 refine cY rfl ?_
 refine jP (fun j=>⟨bC.refl _,?_⟩) fun j=>?_
 ·unfold tX;rw [if_neg (fun b=>of_decide_eq_false j b.2)];exact eT.none
 have f1:=of_decide_eq_true i
 have f2:=of_decide_eq_true j
 unfold tX;rw [if_pos ⟨f1,f2⟩]
 unfold jH.aZ.t
 refine b5 (AN r aI g h) fun v aB ⟨e,f⟩=>?_
 subst e;subst f
 refine bR rfl ?_
 refine cC (fun d=>⟨bC.refl _,?_⟩) fun d=>?_
 ·have:val L < val aP:=by
   unfold fD at d;split at d
   ·assumption
   ·split at d <;> omega
  rw [if_pos this];exact eT.none
 ·have k:¬ val L < val aP:=fun b=>by unfold fD at d;rw [if_pos b] at d;omega
  rw [if_neg k]
  subst g;subst h
  have n:=f1.1
  have o:aP.length≤L.length:=Nat.le_of_not_lt fun b=>by
   have:=qB r.words f2.2 b;omega
  refine m1 L.length rfl rfl rfl rfl (by omega) fun aY aN S=>?_
  unfold jH.cF.t
  refine⟨L.length+1,?_⟩
  refine H2 r aI rfl rfl (Nat.le_refl _) n rfl rfl (nO L aP 0) ?_ L.length 0 0 _ aY (by omega) (by omega) (by simp) aN S (by simp)
  have:=AO L aP 0 r.words aI.words o (by omega) (by omega)
  rw [show val (nO L aP 0)=val L - val aP by omega]
  exact fun v aB S p=>⟨S,p⟩
def qL(p:Nat):List Nat→Nat→List Nat
 | [],c=>[c]
 | N :: L,c=>(N*p % 18446744073709551616+c) :: qL p L (N*p / 18446744073709551616)
theorem DD(p:Nat):∀ (L:List Nat) (c:Nat),val (qL p L c)=val L*p+c
 | [],c=>by simp [qL,val]
 | N :: L,c=>by
  simp only [qL,val,DD p L,Nat.add_mul,Nat.mul_assoc]
  generalize N*p=aQ;generalize val L*p=bM;omega
theorem H4{S N:Nat}(a:S < 64):N / 2 / 2 ^ (63 - S)=N*2 ^ S / 18446744073709551616:=by
 have Z:N / 2 / 2 ^ (63 - S)=N / 2 ^ (64 - S):=by
  rw [Nat.div_div_eq_div_mul,← Nat.pow_succ',show(63 - S).succ=64 - S by omega]
 rw [Z,← lR a,Nat.mul_comm N,Nat.mul_div_mul_left _ _ (Nat.pow_pos (by decide))]
theorem DE{S N c:Nat}(a:S < 64)(b:c < 2 ^ S):c ||| (N*2 ^ S % 18446744073709551616)=N*2 ^ S % 18446744073709551616+c:=by
 have O:N*2 ^ S % 18446744073709551616=2 ^ S*(N % 2 ^ (64 - S)):=by
  rw [← lR a,Nat.mul_comm N,Nat.mul_mod_mul_left]
 rw [O];exact Dj b
theorem DF{S N:Nat}(a:N < 18446744073709551616):N*2 ^ S / 18446744073709551616 < 2 ^ S:=by
 rw [Nat.div_lt_iff_lt_mul (by decide),Nat.mul_comm]
 exact Nat.mul_lt_mul_of_pos_left a (Nat.pow_pos (by decide))
theorem DG{S N c:Nat}(a:S < 64)(d:c < 2 ^ S):N*2 ^ S % 18446744073709551616+c < 18446744073709551616:=by
 have O:N*2 ^ S % 18446744073709551616=2 ^ S*(N % 2 ^ (64 - S)):=by
  rw [← lR a,Nat.mul_comm N,Nat.mul_mod_mul_left]
 have aY:N % 2 ^ (64 - S)+1≤2 ^ (64 - S):=Nat.mod_lt _ (Nat.pow_pos (by decide))
 have b:=Nat.mul_le_mul_left (2 ^ S) aY
 rw [lR a,Nat.mul_add,Nat.mul_one] at b
 omega
theorem H5{Y:aD}{a:M}{c l m S bM aA:Nat}{L:List Nat}{aV:U}{aE:Nat}(r:cD aV a c L)(k:l=L.length)(f:aV.size≤aE)(C:L.length≤8192)(D:m≤8192)(b:S < 64)(E:bM=m+L.length+1)(F:aA=m+L.length+1)
  (e2:List Nat) (g:∀ v aB,bC aV aB→eT aV aB v (fC (val e2))→Y v aB) :
  ∀ (aC n:Nat) (a3:List Nat) (Z:U),n+aC=L.length→a3.length=m+L.length+1→a3.getD (m+n) 0 < 2 ^ S→Own Z aE a3→bC aV Z→a3.take (m+n) ++ qL (2 ^ S) (L.drop n) (a3.getD (m+n) 0)=e2→
   j5.bJ.t Y (aC+1) a l c (m:Int) (S:Int) (some ⟨aE,0,none⟩) bM aA (l:Int) (n:Int) Z:=by
 subst k
 intro aC
 induction aC with
 | zero=>
  intro n a3 Z o p h d cI O
  unfold j5.bJ.t j5.b9.t
  refine cC (fun e=>absurd e (by omega)) fun _=>?_
  have q:n=L.length:=by omega
  subst q
  rw [List.drop_length] at O
  have s:a3=e2:=by
   rw [← O];show a3=_ ++ [_]
   rw [← k9 (by omega),List.take_of_length_le (by omega)]
  subst s
  unfold j5.aZ.t
  refine b5 (r0 (d.lS (c:=aA) f (by omega)) (by omega)) fun v aB ⟨u,w⟩=>?_
  subst u
  refine w.hZ fun a c r R=>?_
  exact g _ _ cI (eT.back r R)
 | succ aC bO=>
  intro n a3 Z o p h d cI O
  have x:L.getD n 0 < 18446744073709551616:=r.word n
  have y:=DG (N:=L.getD n 0) b h
  have z:=DF (S:=S) x
  have G:2 ^ S < 18446744073709551616:=AP b
  have A:=H4 (N:=L.getD n 0) b
  rw [h6 (L:=L) (aC:=n) (by omega)] at O
  simp only [qL] at O
  unfold j5.bJ.t j5.b9.t
  refine cC (fun e=>?_) fun e=>absurd (by omega) e
  refine cN ((m+n:Nat):Int) (by omega) (by omega) (by omega) ?_
  refine fP (d.rd (c:=aA) (by omega)) (aC:=m+n) rfl (by omega) (by omega) ?_
  refine fP (r.aS cI) (aC:=n) rfl rfl (by omega) ?_
  refine pD rfl S _ (by omega) rfl rfl ?_
  refine yB rfl rfl (by omega) (Nat.mod_lt _ (by decide)) ?_
  rw [DE b h]
  refine lX d (aC:=m+n) rfl (by omega) (by omega) rfl y fun aN=>?_
  have i:=cI.set (v:=hL (L.getD n 0*2 ^ S % 18446744073709551616+a3.getD (m+n) 0)) (R:=m+n) f
  refine cN ((m+n:Nat):Int) (by omega) (by omega) (by omega) ?_
  refine cN ((m+n+1:Nat):Int) (by omega) (by omega) (by omega) ?_
  refine fP (r.aS i) (aC:=n) rfl rfl (by omega) ?_
  refine lW rfl 1 2 (by omega) (by decide) (by omega) ?_
  refine cN ((63 - S:Nat):Int) (by omega) (by omega) (by omega) ?_
  refine lW rfl (63 - S) _ (by omega) rfl rfl ?_
  rw [A]
  refine lX aN (aC:=m+n+1) rfl (by rw [List.length_set];omega) (by rw [List.length_set];omega) rfl (by omega) fun B=>?_
  refine cN ((n+1:Nat):Int) (by omega) (by omega) (by omega) ?_
  have j:((a3.set (m+n) (L.getD n 0*2 ^ S % 18446744073709551616+a3.getD (m+n) 0)).set (m+n+1) (L.getD n 0*2 ^ S / 18446744073709551616)).getD (m+(n+1)) 0=L.getD n 0*2 ^ S / 18446744073709551616:=by
   rw [← Nat.add_assoc];simp [List.getD,show m+n+1 < a3.length by omega]
  refine bO (n+1) _ _ (by omega) (by simp;omega) (by rw [j];exact z) B (i.set f) ?_
  rw [j,← O,← Nat.add_assoc,List.take_set_of_le (Nat.le_refl _),oP (by omega)]
  simp
def vS(L:List Nat)(n:Int):List Nat × Int:=if n < 0 then([],1) else if iK L then fC (val L*2 ^ n.toNat) else([],2)
theorem H6{a:M}{c l:Nat}{L:List Nat}{Z:U}(r:cD Z a c L)(i:l=L.length){n:Int}(q:n < 9223372036854775808):
  a0 j5.id #[.slice a l c,.int .i64 n] Z fun v aB=>bC Z aB∧eT Z aB v (vS L n):=by
 refine j5.ok ?_
 unfold j5.t j5.aM.t
 refine cC (fun d=>⟨bC.refl _,?_⟩) fun d=>?_
 ·unfold vS;rw [if_pos d];exact eT.none
 unfold vS;rw [if_neg d]
 obtain⟨b,rfl⟩:∃ b:Nat,n=(b:Int):=⟨n.toNat,by omega⟩
 rw [Int.toNat_natCast]
 refine b5 (mL r i) fun v aB ⟨e,g⟩=>?_
 subst e;subst g;subst i
 refine cY rfl ?_
 refine jP (fun h=>⟨bC.refl _,?_⟩) fun h=>?_
 ·rw [if_neg (of_decide_eq_false h)];exact eT.none
 have f:=of_decide_eq_true h
 rw [if_pos f]
 have j:=f.1
 refine fN (fun aV=>⟨bC.refl _,?_⟩) fun aV=>?_
 ·have O:L=[]:=List.length_eq_zero_iff.mp (by omega)
  subst O
  have O:fC (val []*2 ^ b)=([],0):=by simp [val,fC,eK]
  rw [O];exact eT.none
 refine b5 (Dh r rfl) fun v aB ⟨e,g⟩=>?_
 subst e;subst g
 refine bR rfl ?_
 have bP:val L ≠ 0:=fun O=>by
  have:=oI.mpr O
  rw [f.2] at this;subst this;simp at aV
 have s:dV (val L)≤524288:=by
  rw [DH,f.aL r.words];exact j
 refine cN (524288 - (dV (val L):Int)) rfl (by omega) (by omega) ?_
 refine cC (fun u=>⟨bC.refl _,?_⟩) fun w=>?_
 ·rw [H7 (by rw [yI b bP];omega)];exact eT.none
 have x:=pA bP
 refine⟨by decide,cN ((b / 64:Nat):Int) (m2 b 64) (by omega) (by omega) ?_⟩
 refine⟨by decide,jS (r1 b 64) ?_⟩
 refine cN ((b / 64+L.length:Nat):Int) (by omega) (by omega) (by omega) ?_
 refine cN ((b / 64+L.length+1:Nat):Int) (by omega) (by omega) (by omega) ?_
 refine m1 (b / 64+L.length+1) rfl rfl rfl rfl (by omega) fun aY aN S=>?_
 unfold j5.bF.t
 refine⟨L.length+1,?_⟩
 have k:(List.replicate (b / 64+L.length+1) 0).getD (b / 64+0) 0=0:=by
  simp only [List.getD,List.getElem?_replicate];split <;> rfl
 refine H5 r rfl (Nat.le_refl _) j (by omega) (Nat.mod_lt _ (by decide)) rfl rfl (List.replicate (b / 64) 0 ++ qL (2 ^ (b % 64)) L 0) ?_ L.length 0 _ aY (by omega) (by simp) (by rw [k];exact Nat.pow_pos (by decide)) aN S ?_
 ·have O:val (List.replicate (b / 64) 0 ++ qL (2 ^ (b % 64)) L 0)=val L*2 ^ b:=by
   have o:∀ m,val (List.replicate m 0)=0:=by
    intro m;induction m with
    | zero=>rfl
    | succ m bO=>rw [List.replicate_succ];simp [val,bO]
   rw [hI,o,DD,List.length_replicate,Nat.zero_add,Nat.add_zero,Nat.mul_comm,Nat.mul_assoc,← Nat.pow_add,show b % 64+64*(b / 64)=b by omega]
  rw [O];exact fun v aB S p=>⟨S,p⟩
 ·rw [k];simp [List.take_replicate,show min (b / 64) (b / 64+L.length+1)=b / 64 by omega]
def qM(p aE:Nat):List Nat→List Nat
 | []=>[]
 | N :: L=>(N / p+L.headD 0*aE % 18446744073709551616) :: qM p aE L
theorem DI{p aE:Nat}(Z:p*aE=18446744073709551616)(a:0 < p)(b:0 < aE):∀ L:List Nat,val (qM p aE L)=val L / p
 | []=>by simp [qM,val]
 | N :: L=>by
  simp only [qM,val,DI Z a b L]
  have c:(N+18446744073709551616*val L) / p=N / p+aE*val L:=by
   rw [← Z,Nat.mul_assoc,Nat.add_mul_div_left _ _ a]
  rw [c]
  have cS:=x1 L
  generalize L.headD 0=cU at *
  generalize val L.tail=t at *
  have d:val L / p=cU / p+aE*t:=by
   rw [cS,← Z,Nat.mul_assoc,Nat.add_mul_div_left _ _ a]
  have e:cU*aE / 18446744073709551616=cU / p:=by rw [← Z,Nat.mul_div_mul_right _ _ b]
  have f:aE*(cU+18446744073709551616*t)=cU*aE+18446744073709551616*(aE*t):=by rw [Nat.mul_add,Nat.mul_left_comm aE,Nat.mul_comm aE cU]
  rw [d,cS,← e,f]
  generalize cU*aE=bM;generalize aE*t=aQ;omega
theorem H8{S N aQ:Nat}(a:S < 64)(b:N < 18446744073709551616):(N / 2 ^ S) ||| (aQ*2 % 18446744073709551616*2 ^ (63 - S) % 18446744073709551616)=N / 2 ^ S+aQ*2 ^ (64 - S) % 18446744073709551616:=by
 have c:aQ*2 % 18446744073709551616*2 ^ (63 - S) % 18446744073709551616=aQ*2 ^ (64 - S) % 18446744073709551616:=by
  rw [Nat.mod_mul_mod,Nat.mul_assoc,← Nat.pow_succ',show(63 - S).succ=64 - S by omega]
 have d:aQ*2 ^ (64 - S) % 18446744073709551616=2 ^ (64 - S)*(aQ % 2 ^ S):=by
  rw [← lR a,Nat.mul_comm aQ,Nat.mul_comm (2 ^ S),Nat.mul_mod_mul_left]
 have e:N / 2 ^ S < 2 ^ (64 - S):=by
  rw [Nat.div_lt_iff_lt_mul (Nat.pow_pos (by decide)),Nat.mul_comm,lR a];exact b
 rw [c,d,Dj e,Nat.add_comm]
theorem H9{S N aQ:Nat}(a:S < 64)(b:N < 18446744073709551616):N / 2 ^ S+aQ*2 ^ (64 - S) % 18446744073709551616 < 18446744073709551616:=by
 have d:aQ*2 ^ (64 - S) % 18446744073709551616=2 ^ (64 - S)*(aQ % 2 ^ S):=by
  rw [← lR a,Nat.mul_comm aQ,Nat.mul_comm (2 ^ S),Nat.mul_mod_mul_left]
 have e:N / 2 ^ S < 2 ^ (64 - S):=by
  rw [Nat.div_lt_iff_lt_mul (Nat.pow_pos (by decide)),Nat.mul_comm,lR a];exact b
 have aY:aQ % 2 ^ S+1≤2 ^ S:=Nat.mod_lt _ (Nat.pow_pos (by decide))
 have c:=Nat.mul_le_mul_left (2 ^ (64 - S)) aY
 rw [Nat.mul_comm (2 ^ (64 - S)) (2 ^ S),lR a,Nat.mul_add,Nat.mul_one] at c
 omega
theorem Ia{Y:aD}{a:M}{c l m S bM aA:Nat}{L:List Nat}{aV:U}{aE:Nat}(r:cD aV a c L)(j:l=L.length)(d:aV.size≤aE)(A:L.length≤8192)(h:S < 64)(B:m < L.length)(C:bM=L.length - m)(D:aA=L.length - m)
  (e2:List Nat) (g:∀ v aB,bC aV aB→eT aV aB v (fC (val e2))→Y v aB) :
  ∀ (aC n:Nat) (a3:List Nat) (Z:U),m+n+aC=L.length→a3.length=L.length - m→Own Z aE a3→bC aV Z→a3.take n ++ qM (2 ^ S) (2 ^ (64 - S)) (L.drop (m+n))=e2→
   kD.bJ.t Y (aC+1) a l c (m:Int) (S:Int) (some ⟨aE,0,none⟩) bM aA (bM:Int) (n:Int) Z:=by
 subst j
 intro aC
 induction aC with
 | zero=>
  intro n a3 Z k o e cI O
  unfold kD.bJ.t kD.b9.t
  refine cC (fun b=>absurd b (by omega)) fun _=>?_
  rw [List.drop_of_length_le (by omega)] at O
  have p:a3=e2:=by
   rw [← O];simp only [qM,List.append_nil]
   rw [List.take_of_length_le (by omega)]
  subst p
  unfold kD.aZ.t
  refine b5 (r0 (e.lS (c:=aA) d (by omega)) (by omega)) fun v aB ⟨q,s⟩=>?_
  subst q
  refine s.hZ fun a c r R=>?_
  exact g _ _ cI (eT.back r R)
 | succ aC bO=>
  intro n a3 Z k o e cI O
  have i:L.getD (m+n) 0 < 18446744073709551616:=r.word _
  have E:L.getD (m+n+1) 0 < 18446744073709551616:=r.word _
  have u:=H9 (S:=S) (aQ:=L.getD (m+n+1) 0) h i
  have F:L.getD (m+n) 0 / 2 ^ S≤L.getD (m+n) 0:=Nat.div_le_self _ _
  rw [h6 (L:=L) (aC:=m+n) (by omega)] at O
  simp only [qM,yJ] at O
  unfold kD.bJ.t kD.b9.t
  refine cC (fun b=>?_) fun b=>absurd (by omega) b
  refine cN ((m+n:Nat):Int) (by omega) (by omega) (by omega) ?_
  refine fP (r.aS cI) (aC:=m+n) rfl rfl (by omega) ?_
  refine lW rfl S _ (by omega) rfl rfl ?_
  refine lX e (aC:=n) rfl (by omega) (by omega) rfl (by omega) fun aN=>?_
  have f:=cI.set (v:=hL (L.getD (m+n) 0 / 2 ^ S)) (R:=n) d
  refine cN ((m+n:Nat):Int) (by omega) (by omega) (by omega) ?_
  refine cN ((m+n+1:Nat):Int) (by omega) (by omega) (by omega) ?_
  refine cC (fun w=>?_) fun w=>?_
  ·refine fP (aN.rd (c:=aA) (by rw [List.length_set];omega)) (aC:=n) rfl (by rw [List.length_set];omega) (by rw [List.length_set];omega) ?_
   have x:(a3.set n (L.getD (m+n) 0 / 2 ^ S)).getD n 0=L.getD (m+n) 0 / 2 ^ S:=by
    simp [List.getD,show n < a3.length by omega]
   rw [x]
   refine cN ((m+n:Nat):Int) (by omega) (by omega) (by omega) ?_
   refine cN ((m+n+1:Nat):Int) (by omega) (by omega) (by omega) ?_
   refine fP (r.aS f) (aC:=m+n+1) rfl rfl (by omega) ?_
   refine pD rfl 1 2 (by omega) (by decide) (by omega) ?_
   refine cN ((63 - S:Nat):Int) (by omega) (by omega) (by omega) ?_
   refine pD rfl (63 - S) _ (by omega) rfl rfl ?_
   refine yB rfl rfl (by omega) (Nat.mod_lt _ (by decide)) ?_
   rw [H8 h i]
   refine lX aN (aC:=n) rfl (by rw [List.length_set];omega) (by rw [List.length_set];omega) rfl u fun y=>?_
   refine cN ((n+1:Nat):Int) (by omega) (by omega) (by omega) ?_
   refine bO (n+1) _ _ (by omega) (by simp;omega) y (f.set d) ?_
   rw [← O,List.set_set,oP (by omega)]
   simp [Nat.add_assoc]
  ·refine cN ((n+1:Nat):Int) (by omega) (by omega) (by omega) ?_
   refine bO (n+1) _ _ (by omega) (by simp;omega) aN f ?_
   have z:L.getD (m+n+1) 0=0:=by simp [List.getD,show L.length≤m+n+1 by omega]
   rw [z] at O
   rw [← O,oP (by omega)]
   simp [Nat.add_assoc]
def r4(L:List Nat)(n:Int):List Nat × Int:=if n < 0 then([],1) else if iK L then fC (val L / 2 ^ n.toNat) else([],2)
theorem DJ{a:M}{c l:Nat}{L:List Nat}{Z:U}(r:cD Z a c L)(g:l=L.length){n:Int}(o:n < 9223372036854775808):
  a0 kD.id #[.slice a l c,.int .i64 n] Z fun v aB=>bC Z aB∧eT Z aB v (r4 L n):=by
 refine kD.ok ?_
 unfold kD.t kD.aM.t
 refine cC (fun d=>⟨bC.refl _,?_⟩) fun d=>?_
 ·unfold r4;rw [if_pos d];exact eT.none
 unfold r4;rw [if_neg d]
 obtain⟨b,rfl⟩:∃ b:Nat,n=(b:Int):=⟨n.toNat,by omega⟩
 rw [Int.toNat_natCast]
 refine b5 (mL r g) fun v aB ⟨h,i⟩=>?_
 subst h;subst i;subst g
 refine cY rfl ?_
 refine jP (fun e=>⟨bC.refl _,?_⟩) fun e=>?_
 ·rw [if_neg (of_decide_eq_false e)];exact eT.none
 have f:=of_decide_eq_true e
 rw [if_pos f]
 have j:=f.1
 have k:b=64*(b / 64)+b % 64:=by omega
 have cS:val L / 2 ^ b=val (L.drop (b / 64)) / 2 ^ (b % 64):=by
  rw [kJ r.words,Nat.div_div_eq_div_mul,← Nat.pow_add,← k]
 rw [cS]
 refine⟨by decide,cN ((b / 64:Nat):Int) (m2 b 64) (by omega) (by omega) ?_⟩
 refine⟨by decide,jS (r1 b 64) ?_⟩
 refine cC (fun p=>⟨bC.refl _,?_⟩) fun q=>?_
 ·rw [List.drop_of_length_le (by omega)]
  have O:fC (val [] / 2 ^ (b % 64))=([],0):=by simp [val,fC,eK]
  rw [O];exact eT.none
 ·refine cN ((L.length - b / 64:Nat):Int) (by omega) (by omega) (by omega) ?_
  refine m1 (L.length - b / 64) rfl rfl rfl rfl (by omega) fun aY aN S=>?_
  unfold kD.bF.t
  refine⟨L.length - b / 64+1,?_⟩
  refine Ia r rfl (Nat.le_refl _) j (Nat.mod_lt _ (by decide)) (by omega) rfl rfl (qM (2 ^ (b % 64)) (2 ^ (64 - b % 64)) (L.drop (b / 64))) ?_ (L.length - b / 64) 0 _ aY (by omega) (by simp) aN S (by simp)
  rw [DI (lR (Nat.mod_lt _ (by decide))) (Nat.pow_pos (by decide)) (Nat.pow_pos (by decide))]
  exact fun v aB S m=>⟨S,m⟩
def vT(L:List Nat)(n:Int):List Nat × Int:=if n < 0 then([],1) else if iK L then fC (val L % 2 ^ n.toNat) else([],2)
theorem Ib{a:M}{c l:Nat}{L:List Nat}{Z:U}(r:cD Z a c L)(j:l=L.length){n:Int}(E:n < 9223372036854775808):
  a0 nP.id #[.slice a l c,.int .i64 n] Z fun v aB=>bC Z aB∧eT Z aB v (vT L n):=by
 refine nP.ok ?_
 unfold nP.t nP.aM.t
 refine cC (fun g=>⟨bC.refl _,?_⟩) fun g=>?_
 ·unfold vT;rw [if_pos g];exact eT.none
 unfold vT;rw [if_neg g]
 obtain⟨b,rfl⟩:∃ b:Nat,n=(b:Int):=⟨n.toNat,by omega⟩
 rw [Int.toNat_natCast]
 refine b5 (mL r j) fun v aB ⟨h,u⟩=>?_
 subst h;subst u;subst j
 refine cY rfl ?_
 refine jP (fun i=>⟨bC.refl _,?_⟩) fun i=>?_
 ·rw [if_neg (of_decide_eq_false i)];exact eT.none
 have f:=of_decide_eq_true i
 rw [if_pos f]
 have F:=f.1
 have w:b=64*(b / 64)+b % 64:=by omega
 have k:b % 64 < 64:=Nat.mod_lt _ (by decide)
 refine⟨by decide,cN ((b / 64:Nat):Int) (m2 b 64) (by omega) (by omega) ?_⟩
 refine⟨by decide,jS (r1 b 64) ?_⟩
 refine m1 L.length rfl rfl rfl rfl (by omega) fun aY aN S=>?_
 refine x8 aN (r.aS S) (by simp) rfl (Nat.le_refl _) S fun x d m=>?_
 have y:List.take (List.replicate L.length 0).length L ++ List.drop L.length (List.replicate L.length 0)=L:=by simp
 rw [y] at d
 have o:∀ {a3:List Nat} {c bM:Nat} {e:U},cZ dT aB e (some ⟨aB.size,0,none⟩) c a3→bM=a3.length→bC aB e→val a3=val L % 2 ^ b→nP.aZ.t (fun v p=>bC aB p∧eT aB p v (fC (val L % 2 ^ b))) (some ⟨aB.size,0,none⟩) bM c e:=by
  intro a3 c bM e z A B O
  unfold nP.aZ.t
  refine b5 (r0 z A) fun v G ⟨h,q⟩=>?_
  subst h
  rw [O] at q
  refine q.hZ fun a c r R=>?_
  exact⟨B,eT.back r R⟩
 refine cC (fun H=>?_) fun I=>?_
 ·refine fP (d.rd (c:=L.length) (by omega)) (aC:=b / 64) rfl (by omega) (by omega) ?_
  have C:2 ^ (b % 64) < 18446744073709551616:=AP k
  have J:0 < 2 ^ (b % 64):=Nat.pow_pos (by decide)
  refine pD (n:=1) rfl (b % 64) _ (by omega) rfl rfl ?_
  rw [Nat.one_mul,Nat.mod_eq_of_lt C]
  refine c3 (2 ^ (b % 64) - 1) (by omega) (by omega) ?_
  refine Di rfl rfl (r.word _) (by omega) ?_
  rw [Nat.and_two_pow_sub_one_eq_mod]
  have P:L.getD (b / 64) 0 % 2 ^ (b % 64)≤L.getD (b / 64) 0:=Nat.mod_le _ _
  have Q:=r.word (b / 64)
  refine lX d (aC:=b / 64) rfl (by omega) (by omega) rfl (by omega) fun D=>?_
  refine cN ((b / 64+1:Nat):Int) (by omega) (by omega) (by omega) ?_
  refine tQ rfl (by omega) ?_
  have s:=(D.lS (aV:=aB) (c:=L.length) (Nat.le_refl _) (by simp)).take (b / 64+1)
  rw [oP (by omega)] at s
  refine o s (by simp;omega) (m.set (Nat.le_refl _)) ?_
  rw [Al r.words (by omega) k,← w]
 ·refine o (d.lS (c:=L.length) (Nat.le_refl _) rfl) (by omega) m ?_
  have aY:=hS r.words
  have x:2 ^ (64*L.length)≤2 ^ b:=Nat.pow_le_pow_right (by decide) (by omega)
  rw [Nat.mod_eq_of_lt (by omega)]
def yK(v:Value)(a K:Nat):Prop:=v=.tuple #[.int .u64 (a:Int),.int .u64 (K:Int)]
theorem yK.elim{v:Value}{a K:Nat}{aF:Int→Int→Prop}(O:yK v a K)(g:aF (a:Int) (K:Int)):
  c1 v fun aQ=>cW aQ fun b eO=>aW .u64 b fun N=>cW eO fun c d=>aW .u64 c fun bM=>b6 d (aF N bM):=by
 subst O;exact g
theorem Ic{N aQ aX aK iM eO a K c aT:Nat}(b:N=aX+4294967296*aK)(d:aQ=iM+4294967296*eO)(e:a=aX*iM)(f:K=aK*iM)(g:c=aX*eO)(h:aT=aK*eO):N*aQ=a+4294967296*(K+c)+18446744073709551616*aT:=by
 subst b;subst d;subst e;subst f;subst g;subst h
 rw [Nat.add_mul,Nat.mul_add,Nat.mul_add]
 have i:aX*(4294967296*eO)=4294967296*(aX*eO):=Nat.mul_left_comm _ _ _
 have j:4294967296*aK*iM=4294967296*(aK*iM):=Nat.mul_assoc _ _ _
 have k:4294967296*aK*(4294967296*eO)=18446744073709551616*(aK*eO):=by
  rw [Nat.mul_assoc,Nat.mul_left_comm aK,← Nat.mul_assoc]
 rw [i,j,k];omega
theorem AQ{N aQ:Nat}(b:N < 18446744073709551616)(d:aQ < 18446744073709551616)(Z:U):
  a0 pG.id #[.int .u64 (N:Int),.int .u64 (aQ:Int)] Z fun v aB=>aB=Z∧yK v (N*aQ / 18446744073709551616) (N*aQ % 18446744073709551616):=by
 refine pG.ok ?_
 unfold pG.t pG.aM.t
 have g:=r2 (a:=N % 4294967296) (K:=aQ % 4294967296) (by omega) (by omega)
 have h:=r2 (a:=N / 4294967296) (K:=aQ % 4294967296) (by omega) (by omega)
 have i:=r2 (a:=N % 4294967296) (K:=aQ / 4294967296) (by omega) (by omega)
 have j:=r2 (a:=N / 4294967296) (K:=aQ / 4294967296) (by omega) (by omega)
 have O:=Ic (N:=N) (aQ:=aQ) (aX:=N % 4294967296) (aK:=N / 4294967296) (iM:=aQ % 4294967296) (eO:=aQ / 4294967296) (by omega) (by omega) rfl rfl rfl rfl
 refine mM rfl b ?_
 refine lW rfl 32 4294967296 (by omega) (by decide) (by omega) ?_
 refine mM rfl d ?_
 refine lW rfl 32 4294967296 (by omega) (by decide) (by omega) ?_
 refine c3 (N % 4294967296*(aQ % 4294967296)) (by norm_cast) (by omega) ?_
 refine c3 (N / 4294967296*(aQ % 4294967296)) (by norm_cast) (by omega) ?_
 have aY:((N % 4294967296:Nat):Int)*((aQ / 4294967296:Nat):Int)=((N % 4294967296*(aQ / 4294967296):Nat):Int):=by norm_cast
 have e:((N / 4294967296:Nat):Int)*((aQ / 4294967296:Nat):Int)=((N / 4294967296*(aQ / 4294967296):Nat):Int):=by norm_cast
 have f:(N:Int)*(aQ:Int)=((N*aQ:Nat):Int):=by norm_cast
 rw [aY,e,f]
 generalize N % 4294967296*(aQ % 4294967296)=a at *
 generalize N / 4294967296*(aQ % 4294967296)=K at *
 generalize N % 4294967296*(aQ / 4294967296)=c at *
 generalize N / 4294967296*(aQ / 4294967296)=aT at *
 generalize N*aQ=p at *
 refine lW rfl 32 4294967296 (by omega) (by decide) (by omega) ?_
 refine c3 (K+a / 4294967296) (by omega) (by omega) ?_
 refine mM rfl (by omega) ?_
 refine lW rfl 32 4294967296 (by omega) (by decide) (by omega) ?_
 refine c3 c rfl (by omega) ?_
 refine c3 ((K+a / 4294967296) % 4294967296+c) (by omega) (by omega) ?_
 refine c3 aT rfl (by omega) ?_
 refine c3 (aT+(K+a / 4294967296) / 4294967296) (by omega) (by omega) ?_
 refine lW rfl 32 4294967296 (by omega) (by decide) (by omega) ?_
 refine c3 (p / 18446744073709551616) (by omega) (by omega) ?_
 refine jS (aQ:=((p % 18446744073709551616:Nat):Int)) (by rw [wrap_u64];omega) ?_
 exact⟨rfl,rfl⟩
def mulL(aA:Nat):List Nat→Nat→List Nat
 | [],c=>[c]
 | N :: L,c=>(N*aA+c) % 18446744073709551616 :: mulL aA L ((N*aA+c) / 18446744073709551616)
theorem DK(aA:Nat):∀ (L:List Nat) (c:Nat),val (mulL aA L c)=val L*aA+c
 | [],c=>by simp [mulL,val]
 | N :: L,c=>by
  simp only [mulL,val,DK aA L,Nat.add_mul,Nat.mul_assoc]
  generalize N*aA=aQ;generalize val L*aA=bM;omega
theorem Ie{Y:aD}{a:M}{c l aA bM aQ:Nat}{L:List Nat}{aV:U}{aE:Nat}(r:cD aV a c L)(o:l=L.length)(e:aV.size≤aE)(z:L.length≤8192)(q:aA < 18446744073709551616)(A:bM=L.length+1)(B:aQ=L.length+1)
  (e2:List Nat) (g:∀ v aB,bC aV aB→eT aV aB v (fC (val e2))→Y v aB) :
  ∀ (aC n b:Nat) (a3:List Nat) (Z:U),n+aC=L.length→a3.length=L.length+1→b < 18446744073709551616→Own Z aE a3→bC aV Z→a3.take n ++ mulL aA (L.drop n) b=e2→
   jI.bJ.t Y (aC+1) a l c (aA:Int) (some ⟨aE,0,none⟩) bM aQ (b:Int) (l:Int) (n:Int) Z:=by
 subst o
 intro aC
 induction aC with
 | zero=>
  intro n b a3 Z s j k f cI O
  unfold jI.bJ.t jI.b9.t
  refine cC (fun d=>absurd d (by omega)) fun _=>?_
  have u:n=L.length:=by omega
  subst u
  rw [List.drop_length] at O
  unfold jI.aZ.t
  refine lX f (aC:=L.length) rfl (by omega) (by omega) rfl k fun aN=>?_
  have m:a3.set L.length b=e2:=by
   rw [← O];show _=_ ++ [b]
   rw [← oP (by omega),List.take_of_length_le (by rw [List.length_set];omega)]
  rw [m] at aN
  have C:e2.length=L.length+1:=by rw [← m,List.length_set];exact j
  have w:=cI.set (v:=hL b) (R:=L.length) e
  refine b5 (r0 (aN.lS (c:=aQ) e (by omega)) (by omega)) fun v aB ⟨h,i⟩=>?_
  subst h
  refine i.hZ fun a c r R=>?_
  exact g _ _ w (eT.back r R)
 | succ aC bO=>
  intro n b a3 Z s j k f cI O
  have x:L.getD n 0 < 18446744073709551616:=r.word n
  rw [h6 (L:=L) (aC:=n) (by omega)] at O
  simp only [mulL] at O
  have D:L.getD n 0*aA≤340282366920938463426481119284349108225:=Nat.mul_le_mul (show L.getD n 0≤18446744073709551615 by omega) (show aA≤18446744073709551615 by omega)
  unfold jI.bJ.t jI.b9.t
  refine cC (fun d=>?_) fun d=>absurd (by omega) d
  refine fP (r.aS cI) (aC:=n) rfl rfl (by omega) ?_
  refine b5 (AQ x q _) fun v aB ⟨h,i⟩=>?_
  subst h
  refine i.elim ?_
  generalize L.getD n 0*aA=p at *
  refine oO (c:=0) rfl rfl rfl (by omega) ?_
  have y:(p % 18446744073709551616+b+0) % 18446744073709551616=(p+b) % 18446744073709551616:=by omega
  rw [y]
  refine lX f (aC:=n) rfl (by omega) (by omega) rfl (by omega) fun aN=>?_
  refine c3 ((p+b) / 18446744073709551616) (by omega) (by omega) ?_
  refine cN ((n+1:Nat):Int) (by omega) (by omega) (by omega) ?_
  refine bO (n+1) _ _ _ (by omega) (by simp;omega) (by omega) aN (cI.set e) ?_
  rw [← O,oP (by omega)];simp
def yL(L:List Nat)(aA:Nat):List Nat × Int:=if iK L then fC (val L*aA) else([],2)
theorem Ig{a:M}{c l aA:Nat}{L:List Nat}{Z:U}(r:cD Z a c L)(d:l=L.length)(e:aA < 18446744073709551616):
  a0 jI.id #[.slice a l c,.int .u64 (aA:Int)] Z fun v aB=>bC Z aB∧eT Z aB v (yL L aA):=by
 refine jI.ok ?_
 unfold jI.t jI.aM.t
 refine b5 (mL r d) fun v aB ⟨g,h⟩=>?_
 subst g;subst h;subst d
 refine cY rfl ?_
 unfold yL
 refine jP (fun b=>⟨bC.refl _,?_⟩) fun b=>?_
 ·rw [if_neg (of_decide_eq_false b)];exact eT.none
 have f:=of_decide_eq_true b
 rw [if_pos f]
 have i:=f.1
 refine cN ((L.length+1:Nat):Int) (by omega) (by omega) (by omega) ?_
 refine m1 (L.length+1) rfl rfl rfl rfl (by omega) fun aY aN S=>?_
 unfold jI.bF.t
 refine⟨L.length+1,?_⟩
 refine Ie r rfl (Nat.le_refl _) i e rfl rfl (mulL aA L 0) ?_ L.length 0 0 _ aY (by omega) (by simp) (by omega) aN S (by simp)
 rw [DK,Nat.add_zero];exact fun v aB S j=>⟨S,j⟩
theorem DL{aA:Nat}(a:aA < 18446744073709551616)(Z:U):a0 jT.id #[.int .u64 (aA:Int)] Z fun v aB=>bC Z aB∧tN Z aB v (aL aA):=by
 refine jT.ok ?_
 unfold jT.t jT.aM.t
 refine fN (fun aV=>⟨bC.refl _,?_⟩) fun aV=>?_
 ·have:aA=0:=by omega
  subst this;rw [eK];exact⟨none,0,rfl,cZ.nil _ _⟩
 ·refine vU [aA] (by rfl) (by simp) (by simpa using a) fun aY aN S=>⟨S,?_⟩
  have O:aL aA=[aA]:=by
   rw [j8 (by omega),show aA / 18446744073709551616=0 by omega,eK,Nat.mod_eq_of_lt a]
  rw [O];exact⟨_,_,rfl,aN.lS (Nat.le_refl _) (by simp)⟩
theorem DM{N:Nat}(a:N < 18446744073709551616)(Z:U):a0 qN.id #[.int .u64 (N:Int)] Z fun v aB=>aB=Z∧v=.int .i64 ((64 - dV N:Nat):Int):=by
 refine qN.ok ?_
 unfold qN.t qN.aM.t
 refine b5 (Dg rfl a _) fun v aB ⟨b,c⟩=>?_
 subst b;subst c
 refine bR rfl ?_
 have:dV N≤64:=h7.mpr a
 exact cN ((64 - dV N:Nat):Int) (by omega) (by omega) (by omega) ⟨rfl,rfl⟩
structure nQ(u32 eB eP e4 aE r:Nat):Prop where
 rest:aE*eP+r=u32
 up:u32*4294967296+eB < (aE+1)*(eP*4294967296+e4)
theorem nQ.yM{u32 eB eP e4 aE r:Nat}(g:nQ u32 eB eP e4 aE r)(d:u32 < eP*4294967296+e4)(hu:eB < 4294967296)(b:4294967296≤aE∨aE*e4 > 4294967296*r+eB):1≤aE∧nQ u32 eB eP e4 (aE - 1) (r+eP):=by
 have c:1≤aE:=by
  rcases b with Z | Z
  ·omega
  ·exact Nat.pos_of_ne_zero fun O=>by subst O;simp at Z
 obtain⟨p,rfl⟩:∃ p,aE=p+1:=⟨aE - 1,by omega⟩
 refine⟨c,?_,?_⟩
 ·have:=g.rest
  rw [Nat.add_mul,Nat.one_mul] at this
  rw [Nat.add_sub_cancel];omega
 ·rw [Nat.add_sub_cancel]
  rcases b with Z | Z
  ·have aY:4294967296*(eP*4294967296+e4)≤(p+1)*(eP*4294967296+e4):=Nat.mul_le_mul_right _ Z
   generalize (p+1)*(eP*4294967296+e4)=bM at *;omega
  ·have aY:=g.rest
   rw [Nat.mul_add,← Nat.mul_assoc]
   generalize (p+1)*eP=a at *
   generalize (p+1)*e4=K at *
   omega
theorem nQ.fits{u32 eB eP e4 aE r:Nat}(g:nQ u32 eB eP e4 aE r)(d:aE*e4≤4294967296*r+eB):aE=(u32*4294967296+eB) / (eP*4294967296+e4):=by
 have aY:=g.rest
 have c:aE*(eP*4294967296+e4)≤u32*4294967296+eB:=by
  rw [Nat.mul_add,← Nat.mul_assoc]
  generalize aE*eP=a at *;generalize aE*e4=K at *;omega
 have b:=g.up
 have e:0 < eP*4294967296+e4:=Nat.pos_of_ne_zero fun O=>by rw [O] at b;simp at b
 refine(Nat.div_eq_of_lt_le ?_ ?_).symm
 ·exact c
 ·exact b
theorem Ih{Y:aD}{bH aI eP e4 eB Q u32:Nat}{Z:U}(e:u32 < eP*4294967296+e4)(hu:eB < 4294967296)(k:eP < 4294967296)(l:e4 < 4294967296)
  (b:gJ.b9.t Y (bH:Int) (aI:Int) (eB:Int) (Q:Int) (u32:Int) (((u32*4294967296+eB) / (eP*4294967296+e4):Nat):Int) Z) :
  ∀ (S aE r:Nat),nQ u32 eB eP e4 aE r→aE≤4294967297→r < 4294967296→4294967296≤r+(S+1)*eP→
   gJ.gG.t Y (S+1) (bH:Int) (aI:Int) (eP:Int) (e4:Int) (eB:Int) (Q:Int) (r:Int) (u32:Int) (aE:Int) Z:=by
 intro S
 induction S with
 | zero=>
  intro aE r g i j f
  have step:(4294967296≤aE∨aE*e4 > 4294967296*r+eB)→gJ.e3.t Y (gJ.gG.t Y 0) (bH:Int) (aI:Int) (eP:Int) (e4:Int) (eB:Int) (Q:Int) (r:Int) (u32:Int) (aE:Int) Z:=by
   intro a
   obtain⟨aY,c⟩:=g.yM e hu a
   unfold gJ.e3.t
   refine c3 (aE - 1) (by omega) (by omega) ?_
   refine c3 (r+eP) (by omega) (by omega) ?_
   refine cC (fun _=>?_) fun h=>absurd (by omega) h
   have d:(aE - 1)*e4≤4294967296*4294967295:=Nat.mul_le_mul (by omega) (by omega)
   rw [← c.fits (by omega)] at b;exact b
  unfold gJ.gG.t gJ.eR.t
  refine cC (fun a=>step (Or.inl (by omega))) fun a=>?_
  have d:aE*e4≤4294967295*4294967295:=Nat.mul_le_mul (by omega) (by omega)
  refine c3 (aE*e4) (by norm_cast) (by omega) ?_
  refine c3 (4294967296*r) (by omega) (by omega) ?_
  refine c3 (4294967296*r+eB) (by omega) (by omega) ?_
  refine cC (fun a=>step (Or.inr (by omega))) fun a=>?_
  rw [← g.fits (by omega)] at b;exact b
 | succ S bO=>
  intro aE r g i j f
  have step:(4294967296≤aE∨aE*e4 > 4294967296*r+eB)→gJ.e3.t Y (gJ.gG.t Y (S+1)) (bH:Int) (aI:Int) (eP:Int) (e4:Int) (eB:Int) (Q:Int) (r:Int) (u32:Int) (aE:Int) Z:=by
   intro a
   obtain⟨aY,c⟩:=g.yM e hu a
   unfold gJ.e3.t
   refine c3 (aE - 1) (by omega) (by omega) ?_
   refine c3 (r+eP) (by omega) (by omega) ?_
   refine cC (fun _=>?_) fun h=>?_
   ·have d:(aE - 1)*e4≤4294967296*4294967295:=Nat.mul_le_mul (by omega) (by omega)
    rw [← c.fits (by omega)] at b;exact b
   ·refine bO _ _ c (by omega) (by omega) ?_
    rw [Nat.add_mul,Nat.one_mul] at f
    omega
  unfold gJ.gG.t gJ.eR.t
  refine cC (fun a=>step (Or.inl (by omega))) fun a=>?_
  have d:aE*e4≤4294967295*4294967295:=Nat.mul_le_mul (by omega) (by omega)
  refine c3 (aE*e4) (by norm_cast) (by omega) ?_
  refine c3 (4294967296*r) (by omega) (by omega) ?_
  refine c3 (4294967296*r+eB) (by omega) (by omega) ?_
  refine cC (fun a=>step (Or.inr (by omega))) fun a=>?_
  rw [← g.fits (by omega)] at b;exact b
theorem Ii{Y:aD}{bH aI eP e4 eB c u32:Nat}{Z:U}(f:u32 < eP*4294967296+e4)(hu:eB < 4294967296)(l:eP < 4294967296)(m:e4 < 4294967296)
  (b:gJ.cF.t Y (bH:Int) (aI:Int) (eP:Int) (e4:Int) (u32:Int) (eB:Int) (c:Int) (((u32*4294967296+eB) / (eP*4294967296+e4):Nat):Int) Z) :
  ∀ (S aE r:Nat),nQ u32 eB eP e4 aE r→aE≤4294967297→r < 4294967296→4294967296≤r+(S+1)*eP→
   gJ.jJ.t Y (S+1) (bH:Int) (aI:Int) (eP:Int) (e4:Int) (u32:Int) (eB:Int) (c:Int) (aE:Int) (r:Int) Z:=by
 intro S
 induction S with
 | zero=>
  intro aE r g j k h
  have step:(4294967296≤aE∨aE*e4 > 4294967296*r+eB)→gJ.nR.t Y (gJ.jJ.t Y 0) (bH:Int) (aI:Int) (eP:Int) (e4:Int) (u32:Int) (eB:Int) (c:Int) (aE:Int) (r:Int) Z:=by
   intro a
   obtain⟨aY,d⟩:=g.yM f hu a
   unfold gJ.nR.t
   refine c3 (aE - 1) (by omega) (by omega) ?_
   refine c3 (r+eP) (by omega) (by omega) ?_
   refine cC (fun _=>?_) fun i=>absurd (by omega) i
   have e:(aE - 1)*e4≤4294967296*4294967295:=Nat.mul_le_mul (by omega) (by omega)
   rw [← d.fits (by omega)] at b;exact b
  unfold gJ.jJ.t gJ.qO.t
  refine cC (fun a=>step (Or.inl (by omega))) fun a=>?_
  have e:aE*e4≤4294967295*4294967295:=Nat.mul_le_mul (by omega) (by omega)
  refine c3 (aE*e4) (by norm_cast) (by omega) ?_
  refine c3 (4294967296*r) (by omega) (by omega) ?_
  refine c3 (4294967296*r+eB) (by omega) (by omega) ?_
  refine cC (fun a=>step (Or.inr (by omega))) fun a=>?_
  rw [← g.fits (by omega)] at b;exact b
 | succ S bO=>
  intro aE r g j k h
  have step:(4294967296≤aE∨aE*e4 > 4294967296*r+eB)→gJ.nR.t Y (gJ.jJ.t Y (S+1)) (bH:Int) (aI:Int) (eP:Int) (e4:Int) (u32:Int) (eB:Int) (c:Int) (aE:Int) (r:Int) Z:=by
   intro a
   obtain⟨aY,d⟩:=g.yM f hu a
   unfold gJ.nR.t
   refine c3 (aE - 1) (by omega) (by omega) ?_
   refine c3 (r+eP) (by omega) (by omega) ?_
   refine cC (fun _=>?_) fun i=>?_
   ·have e:(aE - 1)*e4≤4294967296*4294967295:=Nat.mul_le_mul (by omega) (by omega)
    rw [← d.fits (by omega)] at b;exact b
   ·refine bO _ _ d (by omega) (by omega) ?_
    rw [Nat.add_mul,Nat.one_mul] at h
    omega
  unfold gJ.jJ.t gJ.qO.t
  refine cC (fun a=>step (Or.inl (by omega))) fun a=>?_
  have e:aE*e4≤4294967295*4294967295:=Nat.mul_le_mul (by omega) (by omega)
  refine c3 (aE*e4) (by norm_cast) (by omega) ?_
  refine c3 (4294967296*r) (by omega) (by omega) ?_
  refine c3 (4294967296*r+eB) (by omega) (by omega) ?_
  refine cC (fun a=>step (Or.inr (by omega))) fun a=>?_
  rw [← g.fits (by omega)] at b;exact b
theorem nQ.first{u32 eB eP e4:Nat}(aY:0 < eP)(hu:eB < 4294967296):nQ u32 eB eP e4 (u32 / eP) (u32 % eP):=by
 refine⟨by rw [Nat.mul_comm];exact Nat.div_add_mod _ _,?_⟩
 have b:u32 < (u32 / eP+1)*eP:=by
  rw [Nat.add_mul,Nat.one_mul,Nat.mul_comm]
  have:=Nat.div_add_mod u32 eP
  have:=Nat.mod_lt u32 aY
  omega
 rw [Nat.mul_add,← Nat.mul_assoc]
 generalize (u32 / eP+1)*eP=a at *
 omega
theorem DN{u32 eP e4:Nat}(aY:2147483648≤eP)(a:u32 < eP*4294967296+e4)(b:e4 < 4294967296):u32 / eP≤4294967297:=by
 have:u32 / eP < 4294967298:=by
  rw [Nat.div_lt_iff_lt_mul (by omega)];omega
 omega
theorem AR{n aQ aE r:Nat}(O:aE*aQ+r=n)(l:r < aQ):n / aQ=aE∧n % aQ=r:=by
 have a:0 < aQ:=Nat.lt_of_le_of_lt (Nat.zero_le _) l
 subst O
 rw [Nat.add_comm,Nat.mul_comm]
 exact⟨by rw [Nat.add_mul_div_left _ _ a,Nat.div_eq_of_lt l,Nat.zero_add],by rw [Nat.add_mul_mod_self_left,Nat.mod_eq_of_lt l]⟩
theorem Ij{u32 eB c bH b1 d b e:Nat}(f:b1*bH+d=u32*4294967296+eB)(g:b*bH+e=d*4294967296+c):(b1*4294967296+b)*bH+e=u32*18446744073709551616+eB*4294967296+c:=by
 rw [Nat.add_mul,Nat.mul_right_comm]
 generalize b1*bH=a at *;generalize b*bH=K at *;omega
theorem Ik{Y:aD}{bH aI eP e4 eB c u32 b1 a b d:Nat}{Z:U}(h:bH=eP*4294967296+e4)(e:c < 4294967296)(i:eP < 4294967296)(j:2147483648≤eP)(f:e4 < 4294967296)(bI:aI < 64)
  (o:b1*bH+a=u32*4294967296+eB) (p:a < bH) (q:b1 < 4294967296) (k:b*bH+d=a*4294967296+c) (l:d < bH) (r:b < 4294967296)
  (g:Y (.tuple #[.int .u64 ((b1*4294967296+b:Nat):Int),.int .u64 ((d / 2 ^ aI:Nat):Int)]) Z) :
  gJ.cF.t Y (bH:Int) (aI:Int) (eP:Int) (e4:Int) (u32:Int) (eB:Int) (c:Int) (b1:Int) Z:=by
 have s:bH < 18446744073709551616:=by omega
 have m:=(AR k l).1
 unfold gJ.cF.t
 refine jS (aQ:=((u32*4294967296 % 18446744073709551616:Nat):Int)) (by rw [wrap_u64];omega) ?_
 refine jS (aQ:=(((u32*4294967296+eB) % 18446744073709551616:Nat):Int)) (by rw [wrap_u64];omega) ?_
 refine jS (aQ:=((b1*bH % 18446744073709551616:Nat):Int)) (by rw [wrap_u64,← Int.natCast_mul];omega) ?_
 refine jS (aQ:=(a:Int)) (by rw [wrap_u64];generalize b1*bH=bM at *;omega) ?_
 have n:a / eP≤4294967297:=DN j (by omega) f
 refine⟨by omega,c3 (a / eP) (m2 _ _) (by omega) ?_⟩
 have u:a / eP*eP≤a:=Nat.div_mul_le_self _ _
 have v:a % eP=a - a / eP*eP:=by
  have:=Nat.div_add_mod a eP
  rw [Nat.mul_comm] at this;omega
 have w:=Nat.mod_lt a (show 0 < eP by omega)
 refine c3 (a / eP*eP) (by rw [Int.natCast_mul]) (by omega) ?_
 refine c3 (a % eP) (by omega) (by omega) ?_
 refine⟨1+1,?_⟩
 refine Ih (by omega) e i f ?_ 1 _ _ (nQ.first (by omega) e) n (by omega) (by omega)
 rw [← h,m]
 unfold gJ.b9.t
 refine c3 (b1*4294967296) (by omega) (by omega) ?_
 refine c3 (b1*4294967296+b) (by omega) (by omega) ?_
 refine jS (aQ:=((a*4294967296 % 18446744073709551616:Nat):Int)) (by rw [wrap_u64];omega) ?_
 refine jS (aQ:=(((a*4294967296+c) % 18446744073709551616:Nat):Int)) (by rw [wrap_u64];omega) ?_
 refine jS (aQ:=((b*bH % 18446744073709551616:Nat):Int)) (by rw [wrap_u64,← Int.natCast_mul];omega) ?_
 refine jS (aQ:=(d:Int)) (by rw [wrap_u64];generalize b*bH=bM at *;omega) ?_
 exact lW rfl aI _ (by omega) rfl rfl g
theorem Il(dC a:Nat):dC*18446744073709551616+a / 4294967296*4294967296+a % 4294967296=dC*18446744073709551616+a:=by omega
theorem DO{a5 bQ aQ:Nat}(y:a5 < aQ)(h:bQ < 18446744073709551616)(i:aQ < 18446744073709551616)(Z:U):
  a0 gJ.id #[.int .u64 (a5:Int),.int .u64 (bQ:Int),.int .u64 (aQ:Int)] Z fun v aB=>aB=Z∧yK v ((a5*18446744073709551616+bQ) / aQ) ((a5*18446744073709551616+bQ) % aQ):=by
 refine gJ.ok ?_
 unfold gJ.t gJ.aM.t
 refine fN (fun d=>absurd d (by omega)) fun d=>?_
 unfold gJ.aZ.t
 refine cC (fun d=>absurd d (by omega)) fun d=>?_
 unfold gJ.bF.t
 refine fN (fun aV=>?_) fun aV=>?_
 ·have O:a5=0:=by omega
  subst O
  have P:=Nat.div_le_self bQ aQ
  refine⟨by omega,c3 (bQ / aQ) (m2 _ _) (by omega) ?_⟩
  refine⟨by omega,jS (r1 _ _) ?_⟩
  rw [Nat.zero_mul,Nat.zero_add];exact⟨rfl,rfl⟩
 ·refine b5 (DM i _) fun v aB ⟨z,A⟩=>?_
  subst z;subst A
  refine bR rfl ?_
  have Q:dV aQ≤64:=h7.mpr i
  have T:=pA (show aQ ≠ 0 by omega)
  obtain⟨aI,bI⟩:∃ aI,aI=64 - dV aQ:=⟨_,rfl⟩
  rw [← bI]
  have V:aI≤63:=by omega
  refine c3 aI rfl (by omega) ?_
  have f:0 < 2 ^ aI:=Nat.pow_pos (by decide)
  have j:aQ*2 ^ aI < 18446744073709551616:=by
   have:=h7 (n:=aQ*2 ^ aI) (S:=64)
   rw [yI aI (by omega)] at this
   exact this.mp (by omega)
  have Nv:9223372036854775808≤aQ*2 ^ aI:=Nat.le_of_not_lt fun k=>by
   have:=(h7 (n:=aQ*2 ^ aI) (S:=63)).mpr k
   rw [yI aI (by omega)] at this;omega
  have l:2 ^ aI*2 ^ (64 - aI)=18446744073709551616:=lR (by omega)
  have Im:a5*2 ^ aI+2 ^ aI≤aQ*2 ^ aI:=by
   have:=Nat.mul_le_mul_right (2 ^ aI) y
   rw [Nat.succ_mul] at this;exact this
  have B:bQ / 2 ^ (64 - aI) < 2 ^ aI:=by
   rw [Nat.div_lt_iff_lt_mul (Nat.pow_pos (by decide)),l];exact h
  have Nw:bQ*2 ^ aI=bQ / 2 ^ (64 - aI)*18446744073709551616+bQ*2 ^ aI % 18446744073709551616:=by
   have O:bQ*2 ^ aI / 18446744073709551616=bQ / 2 ^ (64 - aI):=by
    rw [← l,Nat.mul_comm bQ,Nat.mul_div_mul_left _ _ f]
   have:=Nat.div_add_mod (bQ*2 ^ aI) 18446744073709551616
   rw [O] at this;omega
  have m:(a5*18446744073709551616+bQ)*2 ^ aI=(a5*2 ^ aI+bQ / 2 ^ (64 - aI))*18446744073709551616+bQ*2 ^ aI % 18446744073709551616:=by
   rw [Nat.add_mul,Nat.mul_right_comm]
   generalize a5*2 ^ aI=a at *
   generalize bQ*2 ^ aI=K at *
   omega
  have C:a5*2 ^ aI ||| bQ / 2 ^ (64 - aI)=a5*2 ^ aI+bQ / 2 ^ (64 - aI):=by
   rw [Nat.mul_comm,← Nat.two_pow_add_eq_or_of_lt B]
  refine pD rfl aI _ (by omega) rfl rfl ?_
  rw [Nat.mod_eq_of_lt j]
  refine lW rfl 32 4294967296 (by omega) (by decide) (by omega) ?_
  refine mM rfl j ?_
  refine pD rfl aI _ (by omega) rfl rfl ?_
  rw [Nat.mod_eq_of_lt (show a5*2 ^ aI < 18446744073709551616 by omega)]
  refine c3 (64 - aI) (by omega) (by omega) ?_
  refine lW rfl (64 - aI) _ (by omega) rfl rfl ?_
  have D:bQ / 2 ^ (64 - aI) < 18446744073709551616:=Nat.lt_of_le_of_lt (Nat.div_le_self _ _) h
  refine yB rfl rfl (by omega) D ?_
  rw [C]
  refine pD rfl aI _ (by omega) rfl rfl ?_
  have E:bQ*2 ^ aI % 18446744073709551616 < 18446744073709551616:=Nat.mod_lt _ (by decide)
  refine lW rfl 32 4294967296 (by omega) (by decide) (by omega) ?_
  refine mM rfl E ?_
  have F:(a5*18446744073709551616+bQ) / aQ=((a5*2 ^ aI+bQ / 2 ^ (64 - aI))*18446744073709551616+bQ*2 ^ aI % 18446744073709551616) / (aQ*2 ^ aI):=by
   rw [← m,Nat.mul_div_mul_right _ _ f]
  have G:(a5*18446744073709551616+bQ) % aQ=((a5*2 ^ aI+bQ / 2 ^ (64 - aI))*18446744073709551616+bQ*2 ^ aI % 18446744073709551616) % (aQ*2 ^ aI) / 2 ^ aI:=by
   rw [← m,Nat.mul_mod_mul_right,Nat.mul_div_cancel _ f]
  have H:a5*2 ^ aI+bQ / 2 ^ (64 - aI) < aQ*2 ^ aI:=by omega
  rw [F,G]
  generalize a5*2 ^ aI+bQ / 2 ^ (64 - aI)=dC at *
  generalize bQ*2 ^ aI % 18446744073709551616=b at *
  generalize aQ*2 ^ aI=bH at *
  have o:2147483648≤bH / 4294967296:=by omega
  have I:dC / (bH / 4294967296)≤4294967297:=DN (e4:=bH % 4294967296) o (by omega) (by omega)
  refine⟨by omega,c3 (dC / (bH / 4294967296)) (m2 _ _) (by omega) ?_⟩
  have Nx:dC / (bH / 4294967296)*(bH / 4294967296)≤dC:=Nat.div_mul_le_self _ _
  have Ny:dC % (bH / 4294967296)=dC - dC / (bH / 4294967296)*(bH / 4294967296):=by
   have:=Nat.div_add_mod dC (bH / 4294967296)
   rw [Nat.mul_comm] at this;omega
  have k:=Nat.mod_lt dC (show 0 < bH / 4294967296 by omega)
  refine c3 (dC / (bH / 4294967296)*(bH / 4294967296)) (by rw [Int.natCast_mul]) (by omega) ?_
  refine c3 (dC % (bH / 4294967296)) (by omega) (by omega) ?_
  refine⟨1+1,?_⟩
  refine Ii (by omega) (by omega) (by omega) (by omega) ?_ 1 _ _ (nQ.first (by omega) (by omega)) I (by omega) (by omega)
  have p:bH / 4294967296*4294967296+bH % 4294967296=bH:=by omega
  rw [p]
  have e:0 < bH:=Nat.lt_of_le_of_lt (Nat.zero_le _) H
  have g:(dC*4294967296+b / 4294967296) / bH*bH+(dC*4294967296+b / 4294967296) % bH=dC*4294967296+b / 4294967296:=by rw [Nat.mul_comm];exact Nat.div_add_mod _ _
  have q:=Nat.mod_lt (dC*4294967296+b / 4294967296) e
  have r:(dC*4294967296+b / 4294967296) / bH < 4294967296:=by
   rw [Nat.div_lt_iff_lt_mul e];omega
  obtain⟨b1,s⟩:∃ b1,b1=(dC*4294967296+b / 4294967296) / bH:=⟨_,rfl⟩
  obtain⟨c,u⟩:∃ c,c=(dC*4294967296+b / 4294967296) % bH:=⟨_,rfl⟩
  rw [← s,← u] at g
  rw [← u] at q
  rw [← s] at r ⊢
  have w:(c*4294967296+b % 4294967296) / bH*bH+(c*4294967296+b % 4294967296) % bH=c*4294967296+b % 4294967296:=by rw [Nat.mul_comm];exact Nat.div_add_mod _ _
  have x:=Nat.mod_lt (c*4294967296+b % 4294967296) e
  have J:(c*4294967296+b % 4294967296) / bH < 4294967296:=by
   rw [Nat.div_lt_iff_lt_mul e];omega
  refine Ik p.symm (by omega) (by omega) o (by omega) (by omega) g q r w x J ?_
  have el:=AR (Ij g w) x
  rw [Il] at el
  rw [el.1,el.2];exact⟨rfl,rfl⟩
def r5(L:List Nat)(aA:Nat):List Nat × Int × Int:=if iK L then(if aA=0 then([],0,4) else(aL (val L / aA),((val L % aA:Nat):Int),0)) else([],0,2)
abbrev vV:iI (List Nat × Int × Int):=hY rY (mZ .u64) (mZ .i64)
theorem vV.elim{aV Z:U}{v:Value}{p:List Nat × Int × Int}{aF:M→Nat→Nat→Int→Int→Prop}(a:vV aV Z v p)(g:∀ a c,cZ dT aV Z a c p.1→aF a p.1.length c p.2.1 p.2.2):
  c1 v fun aQ=>cW aQ fun b eO=>aU b fun a l c=>cW eO fun d e=>aW .u64 d fun N=>cW e fun f h=>aW .i64 f fun bM=>b6 h (aF a l c N bM):=by
 obtain⟨N,aQ,bM,O,⟨a,c,i,r⟩,⟨j,_⟩,k,_⟩:=a
 subst O;subst i;subst j;subst k;exact g a c r
theorem Io{Y:aD}{a:M}{c l aA bM aQ:Nat}{L:List Nat}{aV:U}{aE:Nat}(r:cD aV a c L)(m:l=L.length)(i:aV.size≤aE)(z:L.length≤8192)(o:aA < 18446744073709551616)(A:bM=L.length)(B:aQ=L.length)
  (g:∀ v aB,bC aV aB→vV aV aB v (aL (val L / aA),((val L % aA:Nat):Int),0)→Y v aB) :
  ∀ (n le:Nat) (a3:List Nat) (Z:U),n≤L.length→a3.length=L.length→le < aA→Own Z aE a3→bC aV Z→val (a3.drop n)*aA+le=val (L.drop n)→
   jU.bJ.t Y (n+1) a l c (aA:Int) (some ⟨aE,0,none⟩) bM aQ (le:Int) ((n:Int) - 1) Z:=by
 subst m
 intro n
 induction n with
 | zero=>
  intro le a3 Z p q b d cI O
  unfold jU.bJ.t jU.b9.t
  refine cC (fun e=>absurd e (by omega)) fun _=>?_
  rw [List.drop_zero,List.drop_zero] at O
  have j:=AR O b
  unfold jU.aZ.t
  refine b5 (r0 (d.lS (c:=aQ) i (by omega)) (by omega)) fun v aB ⟨h,f⟩=>?_
  subst h
  have s:(aL (val a3)).length≤8192:=by
   rw [k8 d.words]
   have:=tT a3;omega
  have el:fC (val a3)=(aL (val a3),0):=by unfold fC;rw [if_pos s]
  rw [el] at f
  refine f.hZ fun a c r _=>?_
  refine g _ _ cI ?_
  rw [j.1,j.2];exact⟨_,_,_,rfl,⟨_,_,rfl,r⟩,⟨rfl,by rw [Aw];show 0≤(le:Int)∧(le:Int) < 18446744073709551616;omega⟩,rfl,(by decide:In .i64 0)⟩
 | succ n bO=>
  intro le a3 Z p q b d cI O
  have u:L.getD n 0 < 18446744073709551616:=r.word n
  unfold jU.bJ.t jU.b9.t
  refine cC (fun e=>?_) fun e=>absurd (by omega) e
  refine fP (r.aS cI) (aC:=n) (by omega) rfl (by omega) ?_
  refine b5 (DO b u o _) fun v aB ⟨h,f⟩=>?_
  subst h
  refine f.elim ?_
  have k:0 < aA:=Nat.lt_of_le_of_lt (Nat.zero_le _) b
  have w:(le*18446744073709551616+L.getD n 0) / aA < 18446744073709551616:=by
   rw [Nat.div_lt_iff_lt_mul k];omega
  have C:=Nat.div_add_mod (le*18446744073709551616+L.getD n 0) aA
  have x:=Nat.mod_lt (le*18446744073709551616+L.getD n 0) k
  refine lX d (aC:=n) (by omega) (by omega) (by omega) rfl w fun aN=>?_
  refine cN ((n:Int) - 1) (by omega) (by omega) (by omega) ?_
  refine bO _ _ _ (by omega) (by simp;omega) x aN (cI.set i) ?_
  have y:(a3.set n ((le*18446744073709551616+L.getD n 0) / aA)).drop n=(le*18446744073709551616+L.getD n 0) / aA :: a3.drop (n+1):=by
   rw [h6 (by simp;omega),List.drop_set_of_lt (by omega)]
   simp [List.getD,show n < a3.length by omega]
  rw [y,h6 (L:=L) (by omega)]
  simp only [val]
  rw [Nat.add_mul,Nat.mul_assoc,Nat.mul_comm _ aA]
  generalize aA*((le*18446744073709551616+L.getD n 0) / aA)=D at *
  generalize (le*18446744073709551616+L.getD n 0) % aA=bA at *
  generalize val (a3.drop (n+1))*aA=aO at *
  omega
theorem DP{a:M}{c l aA:Nat}{L:List Nat}{Z:U}(r:cD Z a c L)(d:l=L.length)(f:aA < 18446744073709551616):
  a0 jU.id #[.slice a l c,.int .u64 (aA:Int)] Z fun v aB=>bC Z aB∧vV Z aB v (r5 L aA):=by
 refine jU.ok ?_
 unfold jU.t jU.aM.t
 refine b5 (mL r d) fun v aB ⟨g,h⟩=>?_
 subst g;subst h;subst d
 refine cY rfl ?_
 have nil:∀ N:Int,In .i64 N→vV aB aB (.tuple #[.slice none 0 0,.int .u64 0,.int .i64 N]) ([],0,N):=fun N R=>⟨_,_,_,rfl,⟨none,0,rfl,cZ.nil _ _⟩,⟨rfl,(by decide:In .u64 0)⟩,rfl,R⟩
 refine jP (fun b=>⟨bC.refl _,?_⟩) fun b=>?_
 ·unfold r5;rw [if_neg (of_decide_eq_false b)];exact nil 2 (by decide)
 have e:=of_decide_eq_true b
 have i:=e.1
 unfold r5;rw [if_pos e]
 refine fN (fun aV=>⟨bC.refl _,?_⟩) fun aV=>?_
 ·rw [if_pos (by omega)];exact nil 4 (by decide)
 have j:¬ aA=0:=by omega
 simp only [if_neg j]
 refine m1 L.length rfl rfl rfl rfl (by omega) fun aY aN S=>?_
 unfold jU.bF.t
 refine cN ((L.length:Int) - 1) rfl (by omega) (by omega) ?_
 refine⟨L.length+1,?_⟩
 refine Io r rfl (Nat.le_refl _) i f rfl rfl (fun v aB S k=>⟨S,k⟩) L.length 0 _ aY (Nat.le_refl _) (by simp) (by omega) aN S ?_
 rw [List.drop_length,List.drop_of_length_le (by simp)];simp [val]
section
variable {a K:M} {c aT l m:Nat} {L aP:List Nat} {Z:U}
end
theorem DQ{f:FuncId}{args:Array Value}{Z:U}{dW:Value→Prop}(a:a0 f args Z fun v aB=>aB=Z∧dW v){T:Value→U→Prop}(g:∀ v,dW v→T v Z):a0 f args Z fun v aB=>bC Z aB∧T v aB:=
 b5 a fun v aB ⟨O,aI⟩=>by subst O;exact⟨bC.refl _,g v aI⟩
theorem DR{N:Int}(R:In .u64 N):N=((N.toNat:Nat):Int)∧N.toNat < 18446744073709551616:=by
 rw [Aw] at R;omega
section
variable {a K:M} {c aT l m:Nat} {L aP:List Nat} {Z:U} {N:Int}
theorem Ip(a1 bH:Nat):In .i64 (fD a1 bH):=by unfold fD;split <;> (try split) <;> decide
end
theorem yN{Z:U}{aE off l:Nat}{a bK bA:List Nat}(aN:dS dT Z aE (a ++ (bK ++ bA)))(b:a.length=off)(d:l=bK.length)(e:bK.length≤35184372088828){R:Int}{aC:Nat}(a5:R=(aC:Int))(f:aC < bK.length){aF:Int→Prop}
  (g:aF (bK.getD aC 0:Nat)):c2 (some ⟨aE,off,none⟩) l R 1 fun aE=>fB Z aE fun v=>aW .u64 v aF:=by
 have r:=aN.Am (off:=off) (n:=bK.length) (c:=bK.length) e (by simp;omega) (Nat.le_refl _)
 have O:((a ++ (bK ++ bA)).drop off).take bK.length=bK:=by rw [← b,List.drop_left,List.take_left]
 rw [O] at r
 exact Hg r a5 d f g
def qP(bP:U)(aE:Nat)(aY Z:U):Prop:=b2 aE bP Z∧b2 aE aY Z
theorem DS{aE p:Nat}{bP Z aB:U}(S:b2 aE bP Z)(a:b2 p Z aB)(g:bP.size≤p)(d:p ≠ aE):b2 aE bP aB:=
 ⟨Nat.le_trans S.le a.le,fun K b e=>(a.pre K (Nat.lt_of_lt_of_le b S.le) (by omega)).trans (S.pre K b e),fun m O=>by
  have c:=S.len m O
  have f:=a.pre aE (CU c) (fun O=>d O.symm)
  unfold rU at *;rw [f];exact c⟩
theorem yO{Z bP aY:U}{aE off l:Nat}{a bK bA:List Nat}(aN:dS dT Z aE (a ++ (bK ++ bA)))(d:a.length=off)(i:l=bK.length)(cI:qP bP aE aY Z){R:Int}{aC:Nat}(a5:R=(aC:Int))(e:aC < bK.length){N:Int}{v:Nat}(f:N=(v:Int))(h:v < 18446744073709551616){aF:U→Prop}
  (g:∀ aB,dS dT aB aE (a ++ (bK.set aC v ++ bA))→qP bP aE aY aB→aF aB):c2 (some ⟨aE,off,none⟩) l R 1 fun aE=>b3 Z aE (.int .u64 N) aF:=by
 refine An aN a5 (by omega) (by simp;omega) (by rw [f];rfl) h fun b c=>?_
 refine g _ ?_ ⟨cI.1.trans c,cI.2.trans c⟩
 have O:(a ++ (bK ++ bA)).set (off+aC) v=a ++ (bK.set aC v ++ bA):=by
  rw [← d,List.set_append_right _ _ (by omega),Nat.add_sub_cancel_left,List.set_append_left _ _ e]
 rw [O] at b;exact b
theorem AS{L:List Nat}{R:Nat}:val (L.take (R+1))=val (L.take R)+2 ^ (64*R)*L.getD R 0:=by
 by_cases a5:R < L.length
 ·rw [k9 a5,hI,List.length_take,Nat.min_eq_left (by omega)];simp [val]
 ·rw [List.take_of_length_le (by omega),List.take_of_length_le (by omega)]
  simp [List.getD,show L.length≤R by omega]
theorem Iq{a K:Nat}(b:a < 18446744073709551616)(b:K < 18446744073709551616):a*K≤340282366920938463426481119284349108225:=Nat.mul_le_mul (show a≤18446744073709551615 by omega) (show K≤18446744073709551615 by omega)
theorem DT{bK aP:List Nat}{aC aA dC c aN c8 fH t:Nat}(a:aC < bK.length)(aY:c+aA*aP.getD aC 0+aN+t=bK.getD aC 0+18446744073709551616*(c8+fH))(O:val bK+aA*val (aP.take aC)=dC+(c+aN)*2 ^ (64*aC)):
  val (bK.set aC t)+aA*val (aP.take (aC+1))=dC+(c8+fH)*2 ^ (64*(aC+1)):=by
 have bI:=k7 (a3:=bK) (aC:=aC) (v:=t) a
 rw [AS,jQ]
 generalize 2 ^ (64*aC)=P at *
 generalize bK.getD aC 0=bM at *
 have b:(c+aA*aP.getD aC 0+aN+t)*P=(bM+18446744073709551616*(c8+fH))*P:=by rw [aY]
 have d:(c+aA*aP.getD aC 0+aN+t)*P=(c+aN)*P+aA*(P*aP.getD aC 0)+t*P:=by
  have:aA*(P*aP.getD aC 0)=aA*aP.getD aC 0*P:=by rw [Nat.mul_comm P,Nat.mul_assoc]
  rw [this,← Nat.add_mul,← Nat.add_mul];congr 1;omega
 have e:(bM+18446744073709551616*(c8+fH))*P=bM*P+(c8+fH)*(18446744073709551616*P):=by
  rw [Nat.add_mul,Nat.mul_comm 18446744073709551616,Nat.mul_assoc]
 rw [Nat.mul_add]
 omega
theorem DU{L:List Nat}{n:Nat}(Z:L.length=n):L.getD n 0=0:=by simp [List.getD,show L.length≤n by omega]
theorem Ir{Y:aD}{K:M}{c aT n aE off aA dC:Nat}{aP h bA:List Nat}{bP aY:U}(aI:cD bP K aT aP)(q:aP.length=n)(f:h.length=off)(y:fO aE K)(r:aA < 18446744073709551616)(F:n < 35184372088820)
  (g:∀ Z aN bK,aN≤1→bK.length=n+1→dS dT Z aE (h ++ (bK ++ bA))→qP bP aE aY Z→val bK+aA*val aP=dC+aN*2 ^ (64*(n+1))→Y (.int .u64 (aN:Int)) Z) :
  ∀ (S aC b aN:Nat) (bK:List Nat) (Z:U),aC+S=n→bK.length=n+1→b < 18446744073709551616→aN≤1→dS dT Z aE (h ++ (bK ++ bA))→qP bP aE aY Z→val bK+aA*val (aP.take aC)=dC+(b+aN)*2 ^ (64*aC)→
   lY.bJ.t Y (S+1) (some ⟨aE,off,none⟩) (n+1) c K n aT (aA:Int) (b:Int) (aN:Int) (n:Int) (aC:Int) Z:=by
 intro S
 induction S with
 | zero=>
  intro aC b aN bK Z z d s i e cI O
  have A:aC=n:=by omega
  subst A
  have B:bK.getD aC 0 < 18446744073709551616:=mI (by decide) (fun N j=>e.ok N (List.mem_append_right _ (List.mem_append_left _ j))) aC
  unfold lY.bJ.t lY.b9.t
  refine cC (fun k=>absurd k (by omega)) fun _=>?_
  unfold lY.aZ.t
  refine yN e f d.symm (by omega) rfl (by omega) ?_
  refine tV rfl rfl rfl i s ?_
  refine yO e f d.symm cI rfl (by omega) rfl (Nat.mod_lt _ (by decide)) fun l m o=>?_
  refine g l _ _ (by split <;> omega) (by simp [d]) m o ?_
  have u:=DT (aP:=aP) (aA:=aA) (dC:=dC) (c:=b) (aN:=aN) (c8:=0) (fH:=if bK.getD aC 0 < b+aN then 1 else 0) (t:=(bK.getD aC 0+18446744073709551616 - b - aN) % 18446744073709551616) (show aC < bK.length by omega) (by rw [DU q,Nat.mul_zero];split <;> omega) O
  rw [List.take_of_length_le (by omega),Nat.zero_add] at u
  exact u
 | succ S bO=>
  intro aC b aN bK Z z d s i e cI O
  have B:bK.getD aC 0 < 18446744073709551616:=mI (by decide) (fun N j=>e.ok N (List.mem_append_right _ (List.mem_append_left _ j))) aC
  have w:=aI.word aC
  have C:=Iq r w
  unfold lY.bJ.t lY.b9.t
  refine cC (fun _=>?_) fun k=>absurd (by omega) k
  refine fP (aI.cG y cI.1) (aC:=aC) rfl q.symm (by omega) ?_
  refine b5 (AQ w r Z) fun v aB ⟨D,E⟩=>?_
  subst D
  refine E.elim ?_
  rw [Nat.mul_comm (aP.getD aC 0) aA]
  obtain⟨p,x⟩:∃ p,p=aA*aP.getD aC 0:=⟨_,rfl⟩
  rw [← x] at C ⊢
  refine oO (a:=p % 18446744073709551616) (K:=b) (c:=0) rfl rfl rfl (by decide) ?_
  refine c3 (p / 18446744073709551616+(p % 18446744073709551616+b+0) / 18446744073709551616) (by omega) (by omega) ?_
  refine yN e f d.symm (by omega) rfl (by omega) ?_
  refine tV rfl rfl rfl i (Nat.mod_lt _ (by decide)) ?_
  refine yO e f d.symm cI rfl (by omega) rfl (Nat.mod_lt _ (by decide)) fun l m o=>?_
  refine cN ((aC+1:Nat):Int) (by omega) (by omega) (by omega) ?_
  refine bO (aC+1) _ _ _ l (by omega) (by simp [d]) (by omega) (by split <;> omega) m o (DT (by omega) ?_ O)
  rw [← x]
  split <;> omega
theorem Is{K:M}{c aT l m n aE off aA:Nat}{aP a bK bA:List Nat}{bP Z:U}(aI:cD bP K aT aP)(d:aP.length=n)(e:l=n+1)(f:m=n)(g:a.length=off)(h:fO aE K)(i:aA < 18446744073709551616)(j:n < 35184372088820)(k:bK.length=n+1)(o:dS dT Z aE (a ++ (bK ++ bA)))(cI:b2 aE bP Z):
  a0 lY.id #[.slice (some ⟨aE,off,none⟩) l c,.slice K m aT,.int .u64 (aA:Int)] Z fun v aB=>∃ (aN:Nat) (b:List Nat),aN≤1∧v=.int .u64 (aN:Int)∧b.length=n+1∧dS dT aB aE (a ++ (b ++ bA))∧qP bP aE Z aB∧val b+aA*val aP=val bK+aN*2 ^ (64*(n+1)):=by
 subst e;subst f
 refine lY.ok ?_
 unfold lY.t lY.aM.t lY.bF.t
 refine⟨m+1,Ir (aY:=Z) (dC:=val bK) aI d g h i j (fun w aN p q r s u O=>⟨aN,p,q,rfl,r,s,u,O⟩) m 0 0 0 bK Z (by omega) k (by decide) (by decide) o ⟨cI,b2.refl _ _⟩ (by simp [val])⟩
theorem DV{bK aP:List Nat}{aC T c c8 t:Nat}(a:aC < bK.length)(aY:c+bK.getD aC 0+aP.getD aC 0=t+18446744073709551616*c8)(O:val bK+c*2 ^ (64*aC)=T+val (aP.take aC)):
  val (bK.set aC t)+c8*2 ^ (64*(aC+1))=T+val (aP.take (aC+1)):=by
 have bI:=k7 (a3:=bK) (aC:=aC) (v:=t) a
 rw [AS,jQ]
 generalize 2 ^ (64*aC)=P at *
 generalize bK.getD aC 0=bM at *
 have b:(c+bM+aP.getD aC 0)*P=(t+18446744073709551616*c8)*P:=by rw [aY]
 have d:(c+bM+aP.getD aC 0)*P=c*P+bM*P+P*aP.getD aC 0:=by rw [Nat.add_mul,Nat.add_mul,Nat.mul_comm P]
 have e:(t+18446744073709551616*c8)*P=t*P+c8*(18446744073709551616*P):=by rw [Nat.add_mul,Nat.mul_comm 18446744073709551616,Nat.mul_assoc]
 omega
theorem It{Y:aD}{K:M}{c aT n aE off T:Nat}{aP f bA:List Nat}{bP aY:U}(aI:cD bP K aT aP)(o:aP.length=n)(e:f.length=off)(q:fO aE K)(v:n < 35184372088820)
  (g:∀ Z a bK,a≤1→bK.length=n+1→dS dT Z aE (f ++ (bK ++ bA))→qP bP aE aY Z→val bK+a*2 ^ (64*(n+1))=T+val aP→Y (.int .u64 (a:Int)) Z) :
  ∀ (S aC a:Nat) (bK:List Nat) (Z:U),aC+S=n→bK.length=n+1→a≤1→dS dT Z aE (f ++ (bK ++ bA))→qP bP aE aY Z→val bK+a*2 ^ (64*aC)=T+val (aP.take aC)→
   lZ.bJ.t Y (S+1) (some ⟨aE,off,none⟩) (n+1) c K n aT (a:Int) (n:Int) (aC:Int) Z:=by
 intro S
 induction S with
 | zero=>
  intro aC a bK Z r b h d cI O
  have s:aC=n:=by omega
  subst s
  have u:bK.getD aC 0 < 18446744073709551616:=mI (by decide) (fun N i=>d.ok N (List.mem_append_right _ (List.mem_append_left _ i))) aC
  unfold lZ.bJ.t lZ.b9.t
  refine cC (fun j=>absurd j (by omega)) fun _=>?_
  unfold lZ.aZ.t
  refine yN d e b.symm (by omega) rfl (by omega) ?_
  refine oO (K:=0) rfl rfl rfl h ?_
  refine yO d e b.symm cI rfl (by omega) rfl (Nat.mod_lt _ (by decide)) fun k l m=>?_
  refine g k _ _ (by omega) (by simp [b]) l m ?_
  have p:=DV (aP:=aP) (T:=T) (c:=a) (c8:=(bK.getD aC 0+0+a) / 18446744073709551616) (t:=(bK.getD aC 0+0+a) % 18446744073709551616) (show aC < bK.length by omega) (by rw [DU o];omega) O
  rw [List.take_of_length_le (by omega)] at p
  exact p
 | succ S bO=>
  intro aC a bK Z r b h d cI O
  have u:bK.getD aC 0 < 18446744073709551616:=mI (by decide) (fun N i=>d.ok N (List.mem_append_right _ (List.mem_append_left _ i))) aC
  have w:=aI.word aC
  unfold lZ.bJ.t lZ.b9.t
  refine cC (fun _=>?_) fun j=>absurd (by omega) j
  refine yN d e b.symm (by omega) rfl (by omega) ?_
  refine fP (aI.cG q cI.1) (aC:=aC) rfl o.symm (by omega) ?_
  refine oO rfl rfl rfl h ?_
  refine yO d e b.symm cI rfl (by omega) rfl (Nat.mod_lt _ (by decide)) fun k l m=>?_
  refine cN ((aC+1:Nat):Int) (by omega) (by omega) (by omega) ?_
  exact bO (aC+1) _ _ k (by omega) (by simp [b]) (by omega) l m (DV (by omega) (by omega) O)
theorem DW{K:M}{c aT l m n aE off:Nat}{aP a bK bA:List Nat}{bP Z:U}(aI:cD bP K aT aP)(e:aP.length=n)(f:l=n+1)(g:m=n)(h:a.length=off)(i:fO aE K)(j:n < 35184372088820)(k:bK.length=n+1)(o:dS dT Z aE (a ++ (bK ++ bA)))(cI:b2 aE bP Z):
  a0 lZ.id #[.slice (some ⟨aE,off,none⟩) l c,.slice K m aT] Z fun v aB=>∃ (b:Nat) (d:List Nat),b≤1∧v=.int .u64 (b:Int)∧d.length=n+1∧dS dT aB aE (a ++ (d ++ bA))∧qP bP aE Z aB∧val d+b*2 ^ (64*(n+1))=val bK+val aP:=by
 subst f;subst g
 refine lZ.ok ?_
 unfold lZ.t lZ.aM.t lZ.bF.t
 refine⟨m+1,It (aY:=Z) (T:=val bK) aI e h i j (fun w aN p q r s u O=>⟨aN,p,q,rfl,r,s,u,O⟩) m 0 0 bK Z (by omega) k (by decide) o ⟨cI,b2.refl _ _⟩ (by simp [val])⟩
def qQ(a5 bQ aT:Nat):Nat:=if aT≤a5 then 18446744073709551615 else(a5*18446744073709551616+bQ) / aT
theorem Iu{a5 bQ aT:Nat}(a:bQ < 18446744073709551616):qQ a5 bQ aT < 18446744073709551616:=by
 unfold qQ
 split
 ·decide
 ·rw [Nat.div_lt_iff_lt_mul (by omega)]
  have:(a5+1)*18446744073709551616≤aT*18446744073709551616:=Nat.mul_le_mul_right _ (by omega)
  omega
theorem Iv{a5 bQ aT:Nat}(a:bQ < 18446744073709551616)(b:aT < 18446744073709551616)(Z:U):
  a0 r6.id #[.int .u64 (a5:Int),.int .u64 (bQ:Int),.int .u64 (aT:Int)] Z fun v aB=>aB=Z∧v=.int .u64 ((qQ a5 bQ aT:Nat):Int):=by
 refine r6.ok ?_
 unfold r6.t r6.aM.t
 refine cC (fun c=>?_) fun c=>?_
 ·unfold qQ;rw [if_pos (by omega)];exact⟨rfl,rfl⟩
 ·refine b5 (DO (by omega) a b Z) fun v aB ⟨O,d⟩=>?_
  subst O
  refine d.elim ?_
  unfold qQ;rw [if_neg (by omega)];exact⟨rfl,rfl⟩
theorem Iw{Y:aD}{u:M→Nat→Nat→M→Nat→Nat→Int→M→Nat→Nat→Int→U→Prop}{K:M}{c hA aT w n a d l x aC dC Q yP:Nat}{aP m bA fE:List Nat}{bP aY:U}(aI:cD bP K aT aP)(y:aP.length=n)(z:m.length=aC)(A:fO a K)(E:bP.size≤d)(h:d ≠ a)(B:n < 35184372088820)(Nz:0 < val aP)
  (NA:val aP*Q+yP=dC) (NB:yP < val aP) (NC:dC < 2 ^ (64*(n+1))) (ND:aC < fE.length) (NF:l=fE.length) (F:Q < 18446744073709551616)
  (g:∀ b bK,bK.length=n+1→dS dT b a (m ++ (bK ++ bA))→b2 a bP b→val bK=yP→dS dT b d (fE.set aC Q)→iN.eR.t Y u (some ⟨a,0,none⟩) w hA K n aT (n:Int) (some ⟨d,0,none⟩) l x (aC:Int) b) :
  ∀ (S aA:Nat) (bK:List Nat) (Z:U),Q+(S+1)=aA→aA < 18446744073709551616→bK.length=n+1→dS dT Z a (m ++ (bK ++ bA))→dS dT Z d fE→b2 a bP Z→val bK+aA*val aP=dC+2 ^ (64*(n+1))→
   iN.gR.t Y u (S+1) (some ⟨a,0,none⟩) w hA K n aT (n:Int) (some ⟨d,0,none⟩) l x (aC:Int) (aA:Int) (some ⟨a,aC,none⟩) (n+1) c Z:=by
 intro S
 induction S with
 | zero=>
  intro aA bK Z C G o p q cI O
  unfold iN.gR.t iN.iA.t
  refine c3 (aA - 1) (by omega) (by omega) ?_
  refine b5 (DW aI y rfl rfl z A B o p cI) fun v b ⟨e,i,H,cS,j,k,f,I⟩=>?_
  subst cS
  refine bR rfl ?_
  have J:Words i:=fun N P=>k.ok N (List.mem_append_right _ (List.mem_append_left _ P))
  have T:=hS J
  rw [j] at T
  have V:aA*val aP=val aP*Q+val aP:=by rw [← C,Nat.add_mul,Nat.mul_comm Q];omega
  have r:e=1:=by
   rcases Nat.lt_or_ge e 1 with aV | aV
   ·have:e=0:=by omega
    subst this
    omega
   ·omega
  subst r
  refine fN (fun _=>?_) fun s=>absurd rfl s
  have Nv:dS dT b d fE:=q.cG h f.2
  have Nw:aA - 1=Q:=by omega
  rw [Nw]
  refine x5 Nv (aC:=aC) (v:=Q) rfl (by omega) (by omega) rfl F fun Nx D=>?_
  exact g _ i j (k.cG (fun O=>h O.symm) D) (DS f.1 D E h) (by omega) Nx
 | succ S bO=>
  intro aA bK Z C G o p q cI O
  unfold iN.gR.t iN.iA.t
  refine c3 (aA - 1) (by omega) (by omega) ?_
  refine b5 (DW aI y rfl rfl z A B o p cI) fun v b ⟨e,i,H,cS,j,k,f,I⟩=>?_
  subst cS
  refine bR rfl ?_
  have V:aA*val aP=(aA - 1)*val aP+val aP:=by
   have:aA=aA - 1+1:=by omega
   conv=>lhs;rw [this,Nat.add_mul,Nat.one_mul]
  have NG:dC < (aA - 1)*val aP:=by
   have Ny:(Q+1)*val aP≤(aA - 1)*val aP:=Nat.mul_le_mul_right _ (by omega)
   rw [Nat.add_mul,Nat.one_mul,Nat.mul_comm] at Ny
   omega
  have r:e=0:=by
   rcases Nat.lt_or_ge e 1 with aV | aV
   ·omega
   ·have:e=1:=by omega
    subst this
    omega
  subst r
  refine fN (fun s=>absurd s (by decide)) fun _=>?_
  exact bO (aA - 1) i b (by omega) (by omega) j k (q.cG h f.2) f.1 (by omega)
theorem DX{a:List Nat}{S V:Nat}(d:V≤2 ^ (64*S))(Z:val a < V)(b:Words a):val (a.drop S)=0∧val (a.take S)=val a:=by
 have O:val a=val (a.take S)+2 ^ (64*S)*val (a.drop S):=by
  by_cases c:S≤a.length
  ·conv=>lhs;rw [← List.take_append_drop S a]
   rw [hI,List.length_take,Nat.min_eq_left c]
  ·rw [List.take_of_length_le (by omega),List.drop_of_length_le (by omega)];simp [val]
 have aV:val (a.drop S)=0:=by
  rw [kJ b];exact Nat.div_eq_of_lt (by omega)
 rw [aV] at O
 exact⟨aV,by omega⟩
theorem yQ{L:List Nat}(a:Words L){m:Nat}(b:L.length=m+1):val L / 2 ^ (64*m)=L.getD m 0:=by
 rw [← kJ a,h6 (by omega),List.drop_of_length_le (by omega)];simp [val]
theorem Ix{L:List Nat}(a:Words L){m:Nat}(b:L.length=m+2):val L / 2 ^ (64*m)=L.getD m 0+18446744073709551616*L.getD (m+1) 0:=by
 rw [← kJ a,h6 (by omega),h6 (by omega),List.drop_of_length_le (by omega)];simp [val]
theorem Iy{bK aP:List Nat}{n dC:Nat}(c:Words bK)(d:Words aP)(h:bK.length=n+1)(i:aP.length=n)(j:0 < n)(k:aP.getD (n - 1) 0 ≠ 0)(e:val bK=dC)(a:dC < 18446744073709551616*val aP):
  dC / val aP≤qQ (bK.getD n 0) (bK.getD (n - 1) 0) (aP.getD (n - 1) 0):=by
 have f:0 < val aP:=by
  rcases Nat.eq_zero_or_pos (val aP) with O | O
  ·rw [O] at a;omega
  ·exact O
 unfold qQ
 split
 ·have:dC / val aP < 18446744073709551616:=by rw [Nat.div_lt_iff_lt_mul f];exact a
  omega
 ·have b:=yQ d (m:=n - 1) (by omega)
  have g:=Ix c (m:=n - 1) (by omega)
  rw [show n - 1+1=n by omega,e] at g
  rw [show bK.getD n 0*18446744073709551616+bK.getD (n - 1) 0=dC / 2 ^ (64*(n - 1)) by omega,← b,Nat.div_div_eq_div_mul]
  refine Nat.div_le_div_left (Nat.mul_div_le _ _) ?_
  rw [b];exact Nat.mul_pos (Nat.pow_pos (by decide)) (by omega)
theorem Iz{Y:aD}{K:M}{aT n d f b hA hO:Nat}{aP gQ:List Nat}{bP:U}(aI:cD bP K aT aP)(l:aP.length=n)(A:fO d K)(Nx:bP.size≤f)(u:f ≠ d)(Ny:n < 35184372088820)(NZ:0 < n)(Nz:aP.getD (n - 1) 0 ≠ 0)(Oi:b < 35184372088820)(Oj:b≤hA)(Ok:n < b)
  (N0:val gQ=hO) (Ol:gQ.length=b) (NA:Words gQ)
  (post:∀ Z a fE,a.length=b→fE.length=b - n→dS dT Z d a→dS dT Z f fE→b2 d bP Z→val a=hO % val aP→val fE=hO / val aP→Y (.slice (some ⟨f,0,none⟩) (b - n) (b - n)) Z) :
  ∀ (aC:Nat) (a fE:List Nat) (Z:U),aC≤b - n→a.length=b→fE.length=b - n→dS dT Z d a→dS dT Z f fE→b2 d bP Z→a.take aC=gQ.take aC→val (a.drop aC) < val aP→val (fE.drop aC)*val aP+val (a.drop aC)=hO / 2 ^ (64*aC)→
   iN.eC.t Y (aC+1) (some ⟨d,0,none⟩) b hA K n aT (n:Int) (some ⟨f,0,none⟩) (b - n) (b - n) ((aC:Int) - 1) Z:=by
 have NB:=hS aI.words
 rw [l] at NB
 have o:0 < val aP:=by
  rcases Nat.eq_zero_or_pos (val aP) with O | O
  ·exfalso
   have:=yQ aI.words (m:=n - 1) (by omega)
   rw [O,Nat.zero_div] at this;exact Nz this.symm
  ·exact O
 intro aC
 induction aC with
 | zero=>
  intro a fE Z N1 w x p B cI _ y O
  unfold iN.eC.t iN.dD.t
  refine cC (fun C=>absurd C (by omega)) fun _=>?_
  rw [List.drop_zero] at y O
  rw [List.drop_zero,Nat.mul_zero,Nat.pow_zero,Nat.div_one] at O
  unfold iN.bF.t
  refine post Z a fE w x p B cI ?_ ?_
  ·rw [← O,Nat.mul_comm,Nat.mul_add_mod,Nat.mod_eq_of_lt y]
  ·rw [← O,Nat.mul_comm,Nat.mul_add_div o,Nat.div_eq_of_lt y,Nat.add_zero]
 | succ aC bO=>
  intro a fE Z N1 w x p B cI NC y O
  have ND:Words a:=p.ok
  unfold iN.eC.t iN.dD.t
  refine cC (fun _=>?_) fun C=>absurd (by omega) C
  unfold iN.e3.t
  have N2:(((aC+1:Nat):Int) - 1)=(aC:Int):=by omega
  rw [N2]
  obtain⟨e,D⟩:∃ e,e=a.take aC:=⟨_,rfl⟩
  obtain⟨bK,z⟩:∃ bK,bK=(a.drop aC).take (n+1):=⟨_,rfl⟩
  obtain⟨bA,E⟩:∃ bA,bA=a.drop (aC+(n+1)):=⟨_,rfl⟩
  have NF:a=e ++ (bK ++ bA):=by
   rw [D,z,E,← List.drop_drop,List.take_append_drop,List.take_append_drop]
  have q:e.length=aC:=by rw [D,List.length_take];omega
  have NG:bK.length=n+1:=by rw [z,List.length_take,List.length_drop];omega
  have Om:bA.length=b - (aC+(n+1)):=by rw [E,List.length_drop];omega
  have On:val (a.drop aC)=a.getD aC 0+18446744073709551616*val (a.drop (aC+1)):=kW a aC
  have Oo:a.getD aC 0 < 18446744073709551616:=mI (by decide) ND aC
  have F:val (a.drop aC) < 18446744073709551616*val aP:=by omega
  have NH:val (a.drop aC) < 2 ^ (64*(n+1)):=by
   rw [jQ]
   calc val (a.drop aC) < 18446744073709551616*val aP:=F
    _≤18446744073709551616*2 ^ (64*n):=Nat.mul_le_mul_left _ (Nat.le_of_lt NB)
  have NI:Words (a.drop aC):=fun N i=>ND N (List.mem_of_mem_drop i)
  have NJ:=DX (Nat.le_refl _) NH NI
  have NK:val bK=val (a.drop aC):=by rw [z];exact NJ.2
  have NL:Words bK:=fun N i=>NI N (by rw [z] at i;exact List.mem_of_mem_take i)
  have N3:val bA=0:=by
   have:=NJ.1
   rw [List.drop_drop] at this
   rw [E];exact this
  have NM:cD Z (some ⟨d,0,none⟩) b a:=(p.qC (c:=b) (by show _≤35184372088828;omega) (by omega)).vM
  have NN:∀ R,R < n+1→a.getD (aC+R) 0=bK.getD R 0:=by
   intro R a5
   rw [NF]
   simp only [List.getD]
   rw [List.getElem?_append_right (by omega),q,Nat.add_sub_cancel_left,List.getElem?_append_left (by omega)]
  refine cN ((aC+n:Nat):Int) (by omega) (by omega) (by omega) ?_
  refine fP NM (aC:=aC+n) rfl w.symm (by omega) ?_
  refine cN ((aC+n:Nat):Int) (by omega) (by omega) (by omega) ?_
  refine cN ((aC+(n - 1):Nat):Int) (by omega) (by omega) (by omega) ?_
  refine fP NM (aC:=aC+(n - 1)) rfl w.symm (by omega) ?_
  refine cN ((n - 1:Nat):Int) (by omega) (by omega) (by omega) ?_
  refine fP (aI.cG A cI) (aC:=n - 1) rfl l.symm (by omega) ?_
  rw [NN n (by omega),NN (n - 1) (by omega)]
  have NO:=xZ NL (n - 1)
  refine b5 (Iv NO (aI.word _) Z) fun v N4 ⟨r,s⟩=>?_
  subst r;subst s
  refine bR rfl ?_
  have NP:=Iy NL aI.words NG l NZ Nz NK F
  have G:=Iu (a5:=bK.getD n 0) (aT:=aP.getD (n - 1) 0) NO
  generalize qQ (bK.getD n 0) (bK.getD (n - 1) 0) (aP.getD (n - 1) 0)=aA at NP G ⊢
  refine cN ((aC+n:Nat):Int) (by omega) (by omega) (by omega) ?_
  refine cN ((aC+n+1:Nat):Int) (by omega) (by omega) (by omega) ?_
  have N5:∀ {aF:M→Nat→Nat→Prop},aF (some ⟨d,aC,none⟩) (n+1) (hA - aC)→hX 1 (some ⟨d,0,none⟩) b hA (some (.int .i64 (aC:Int))) (some (.int .i64 ((aC+n+1:Nat):Int))) none aF:=by
   intro aF g
   refine⟨⟨by omega,by omega⟩,⟨by omega,by omega⟩,?_⟩
   show aF (iP (some ⟨d,0,none⟩) hA ((aC:Int)).toNat 1) ((((aC+n+1:Nat):Int)).toNat - ((aC:Int)).toNat) (hA - ((aC:Int)).toNat)
   have r:(((aC+n+1:Nat):Int)).toNat - ((aC:Int)).toNat=n+1:=by omega
   have s:hA - ((aC:Int)).toNat=hA - aC:=by omega
   have j:iP (some ⟨d,0,none⟩) hA ((aC:Int)).toNat 1=some ⟨d,aC,none⟩:=by
    unfold iP
    rw [if_neg (by omega),Int.toNat_natCast,Nat.mul_one]
    show some ((⟨d,0,none⟩:Addr).add aC)=_
    rw [bZ]
   rw [r,s,j];exact g
  refine N5 ?_
  have N6:dS dT N4 d (e ++ (bK ++ bA)):=by rw [← NF];exact p
  have NQ:val (a.drop aC) / val aP < 18446744073709551616:=by rw [Nat.div_lt_iff_lt_mul o];exact F
  have NR:=Nat.mod_lt (val (a.drop aC)) o
  have N7:=Nat.div_add_mod (val (a.drop aC)) (val aP)
  have N8:a.take aC=gQ.take aC:=by
   have:=congrArg (List.take aC) NC
   rwa [List.take_take,List.take_take,Nat.min_eq_left (by omega)] at this
  have N9:a.getD aC 0=gQ.getD aC 0:=by
   have r:(a.take (aC+1)).getD aC 0=a.getD aC 0:=by simp [List.getD]
   have s:(gQ.take (aC+1)).getD aC 0=gQ.getD aC 0:=by simp [List.getD]
   rw [← r,← s,NC]
  have next:∀ k h,h.length=n+1→dS dT k d (e ++ (h ++ bA))→b2 d bP k→val h=val (a.drop aC) % val aP→dS dT k f (fE.set aC (val (a.drop aC) / val aP))→
    iN.eR.t Y (iN.eC.t Y (aC+1)) (some ⟨d,0,none⟩) b hA K n aT (n:Int) (some ⟨f,0,none⟩) (b - n) (b - n) (aC:Int) k:=by
   intro k h Oq Oa Ob Oc H
   unfold iN.eR.t
   refine cN ((aC:Int) - 1) (by omega) (by omega) (by omega) ?_
   have NS:(e ++ (h ++ bA)).drop aC=h ++ bA:=by rw [← q,List.drop_left]
   have NT:val (h ++ bA)=val (a.drop aC) % val aP:=by rw [hI,N3,Oc];simp
   refine bO (e ++ (h ++ bA)) (fE.set aC (val (a.drop aC) / val aP)) k (by omega) (by simp;omega) (by simp [x]) Oa H Ob ?_ ?_ ?_
   ·have NU:(e ++ (h ++ bA)).take e.length=e:=List.take_left
    rw [q] at NU;rw [NU,D];exact N8
   ·rw [NS,NT];exact NR
   ·rw [NS,NT]
    have Od:(fE.set aC (val (a.drop aC) / val aP)).drop aC=val (a.drop aC) / val aP :: fE.drop (aC+1):=by
     rw [h6 (by simp;omega),List.drop_set_of_lt (by omega)]
     simp [List.getD,show aC < fE.length by omega]
    have Oe:hO / 2 ^ (64*aC)=gQ.getD aC 0+18446744073709551616*(hO / 2 ^ (64*(aC+1))):=by
     rw [← N0,← kJ NA,← kJ NA,kW]
    rw [Od,Oe,← O,← N9]
    simp only [val]
    rw [Nat.add_mul,Nat.mul_comm (val (a.drop aC) / val aP),Nat.mul_assoc]
    generalize val (fE.drop (aC+1))*val aP=P at *
    omega
  refine b5 (Is (c:=hA - aC) aI l rfl rfl q A G Ny NG N6 cI) fun v I ⟨aN,J,Ot,cS,T,V,Nv,j⟩=>?_
  subst cS
  refine bR rfl ?_
  rw [NK] at j
  have NV:dS dT I f fE:=B.cG u Nv.2
  have Of:Words J:=fun N i=>V.ok N (List.mem_append_right _ (List.mem_append_left _ i))
  have Og:=hS Of
  rw [T] at Og
  refine fN (fun NW=>?_) fun NX=>?_
  ·have NW:aN=0:=by omega
   subst NW
   have Nw:aA=val (a.drop aC) / val aP:=by
    refine Nat.le_antisymm ?_ NP
    rw [Nat.le_div_iff_mul_le o];omega
   refine x5 NV (aC:=aC) (v:=val (a.drop aC) / val aP) rfl (by omega) (by omega) (by rw [Nw];rfl) NQ fun H NY=>?_
   refine next _ J T (V.cG (fun O=>u O.symm) NY) (DS Nv.1 NY Nx u) ?_ H
   rw [Nw,Nat.mul_comm] at j
   omega
  ·have NX:aN=1:=by omega
   subst NX
   rw [Nat.one_mul] at j
   have Nw:val (a.drop aC) / val aP < aA:=by
    refine Nat.lt_of_not_le fun Oh=>?_
    have:aA*val aP≤val (a.drop aC) / val aP*val aP:=Nat.mul_le_mul_right _ Oh
    rw [Nat.mul_comm (val (a.drop aC) / val aP)] at this
    omega
   refine⟨aA - val (a.drop aC) / val aP - 1+1,?_⟩
   exact Iw (aY:=I) (dC:=val (a.drop aC)) (Q:=val (a.drop aC) / val aP) (yP:=val (a.drop aC) % val aP) aI l q A Nx u Ny o N7 NR NH (by omega) x.symm NQ next _ aA J I (by omega) G T V NV Nv.1 j
theorem IA{K:M}{aT l n c a hA:Nat}{aP b:List Nat}{Z:U}(aI:cD Z K aT aP)(i:aP.length=n)(j:l=n)(k:fO c K)(m:0 < n)(o:aP.getD (n - 1) 0 ≠ 0)(p:a < 35184372088820)(q:a≤hA)(r:n < a)(g:b.length=a)(d:dS dT Z c b)(s:val (b.drop (a - n)) < val aP):
  a0 iN.id #[.slice (some ⟨c,0,none⟩) a hA,.slice K l aT] Z fun v aB=>∃ e f fE,v=.slice (some ⟨e,0,none⟩) (a - n) (a - n)∧f.length=a∧fE.length=a - n∧dS dT aB c f∧dS dT aB e fE∧b2 c Z aB∧Z.size≤e∧val f=val b % val aP∧val fE=val b / val aP:=by
 subst j
 have E:=d.lt
 refine iN.ok ?_
 unfold iN.t iN.aM.t iN.aZ.t
 refine cN ((a - l:Nat):Int) (by omega) (by omega) (by omega) ?_
 refine m1 (a - l) rfl rfl rfl rfl (by omega) fun aY u b4=>?_
 unfold iN.cF.t
 refine cN ((a - l:Nat):Int) (by omega) (by omega) (by omega) ?_
 refine cN (((a - l:Nat):Int) - 1) rfl (by omega) (by omega) ?_
 refine⟨a - l+1,?_⟩
 rw [Int.toNat_natCast]
 have h:Words b:=d.ok
 refine Iz (hO:=val b) (gQ:=b) aI i k (Nat.le_refl _) (by omega) (by omega) m o p q r rfl g h (fun F w fE x y z A B C D=>⟨Z.size,w,fE,rfl,x,y,z,A,B,Nat.le_refl _,C,D⟩) (a - l) b (List.replicate (a - l) 0) aY (Nat.le_refl _) g (by simp) (d.aS b4) u.Ax b4.Ai rfl s ?_
 rw [List.drop_of_length_le (by simp)]
 simp only [val,Nat.zero_mul,Nat.zero_add]
 exact kJ h _
end Go.Proofs.YtjijdlkpmngolaaGreat.G
