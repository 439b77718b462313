import Derived.Test.YtllhckjfhefcdaaGreatDoorKF
import Derived.Test.YtllhckjfhefcdaaGreatDoorKB
namespace Go.Proofs.YtllhckjfhefcdaaGreatDoor.G
open Go.Gv
theorem FI{Y:K}{a:U}{L l:Nat}{T:List Nat}{Z:V}(s:bJ Z a L T)(f:l=T.length)(g:Y (.slice a (dH T).length L) Z):
  ∀ n:Nat,n≤T.length→dH (T.take n)=dH T→mG.cZ.t Y (n+1) a l L (n:Int) Z:=by
 have a0:=s.len
 intro n
 have d:∀ n:Nat,n≤T.length→dH T=T.take n→mG.aC.t Y a l L (n:Int) Z:=by
  intro n b J
  refine u3 rfl (Nat.le_trans b s.cap) ?_
  have h:(dH T).length=n:=by rw [J,List.length_take];omega
  rw [← h];exact g
 induction n with
 | zero=>
  intro b c
  unfold mG.cZ.t mG.cA.t
  refine cD (fun Z=>absurd Z (by omega)) fun _=>d 0 b ?_
  rw [← c];rfl
 | succ n i=>
  intro b c
  refine cD (fun _=>?_) fun Z=>absurd (by omega) Z
  refine cP (n:Int) (by omega) (by omega) (by omega) ?_
  refine fG s (C:=n) rfl f (by omega) ?_
  have e:=lX (T:=T) (n:=n) (by omega)
  refine hU (fun j=>?_) fun j=>?_
  ·refine cP (n:Int) (by omega) (by omega) (by omega) ?_
   refine i (by omega) ?_
   rw [← c,e,show T.getD n 0=0 by omega,vA]
  ·refine d (n+1) b ?_
   rw [← c,e,wA _ (by omega)]
theorem wK{a:U}{L l:Nat}{T:List Nat}{Z:V}(s:bJ Z a L T)(c:l=T.length):
  aF mG.id #[.slice a l L] Z fun v A=>A=Z∧v=.slice a (dH T).length L∧bJ Z a L (dH T):=by
 have d:bJ Z a L (dH T):=by
  have:∀ n:Nat,n≤T.length→dH (T.take n)=dH T→∃ m,dH T=T.take m:=by
   intro n
   induction n with
   | zero=>intro _ J;exact⟨0,by rw [← J];rfl⟩
   | succ n e=>
    intro f J
    have b:=lX (T:=T) (n:=n) (by omega)
    by_cases aB:T.getD n 0=0
    ·refine e (by omega) ?_;rw [← J,b,aB,vA]
    ·refine⟨n+1,?_⟩;rw [← J,b,wA _ aB]
  obtain⟨m,J⟩:=this T.length (Nat.le_refl _) (by rw [List.take_length])
  rw [J];exact s.take m
 refine mG.ok ?_
 unfold mG.t mG.F.t
 refine⟨T.length+1,?_⟩
 subst c
 exact FI s rfl ⟨rfl,rfl,d⟩ T.length (Nat.le_refl _) (by rw [List.take_length])
theorem wL{a:U}{L l:Nat}{T:List Nat}{aB Z:V}(g:cN dQ aB Z a L T)(b:l=T.length):
  aF pC.id #[.slice a l L] Z fun v A=>A=Z∧fD aB Z v (eS (val T)):=by
 have s:=g.jD
 refine pC.ok ?_
 unfold pC.t pC.F.t
 refine bF (wK s b) fun v A ⟨c,d,e⟩=>?_
 subst c;subst d
 have J:=mC s.words
 refine cD (fun aP=>?_) fun aP=>?_
 ·refine⟨rfl,?_⟩
  unfold eS;rw [J,if_neg (by omega)];exact fD.none
 ·refine⟨rfl,?_⟩
  unfold eS;rw [J,if_pos (by omega)];exact fD.mk rfl rfl g.trim (show In .i64 0 by decide)
theorem oB{a:U}{L l:Nat}{T:List Nat}{Z:V}(s:bJ Z a L T)(d:l=T.length):
  aF j0.id #[.slice a l L] Z fun v A=>A=Z∧v=.bool (decide (gI T)):=by
 subst d
 have a0:=s.len
 refine j0.ok ?_
 unfold j0.t j0.F.t
 refine cD (fun aP=>?_) fun aP=>?_
 ·refine hU (fun aB=>?_) fun aB=>?_
  ·refine⟨rfl,?_⟩
   have J:T=[]:=List.length_eq_zero_iff.mp (by omega)
   subst J;rfl
  ·refine cP ((T.length - 1:Nat):Int) (by omega) (by omega) (by omega) ?_
   refine fG s (C:=T.length - 1) rfl rfl (by omega) ⟨rfl,?_⟩
   have c:=@tI T
   by_cases b:T.getD (T.length - 1) 0=0
   ·rw [b]
    have:¬ gI T:=fun a9=>by
     rcases c.mp a9.2 with J | J
     ·subst J;simp at aB
     ·exact J b
    simp [this]
   ·have:gI T:=⟨by omega,c.mpr (Or.inr b)⟩
    simp only [this,decide_true]
    congr 1
    exact bne_iff_ne.mpr (by omega)
 ·refine⟨rfl,?_⟩
  have:¬ gI T:=fun a9=>by have:=a9.1;omega
  simp [this]
theorem x6{a:U}{L l:Nat}{T:List Nat}{Z:V}(s:bJ Z a L T)(d:l=T.length):
  aF nV.id #[.slice a l L] Z fun v A=>a4 Z A∧fD Z A v (eS (val T)):=by
 refine nV.ok ?_
 unfold nV.t nV.F.t
 refine bF (wK s d) fun v A ⟨e,f,b⟩=>?_
 subst e;subst f
 have J:=mC s.words
 refine cD (fun aP=>?_) fun aP=>?_
 ·refine⟨a4.refl _,?_⟩
  unfold eS;rw [J,if_neg (by omega)];exact fD.none
 ·have a0:=b.len
  refine nQ (dH T).length rfl rfl rfl rfl a0 fun a0 q M=>?_
  refine v8 q (b.B M) (by simp) rfl (Nat.le_refl _) M fun i c g=>?_
  refine⟨g,?_⟩
  unfold eS;rw [J,if_pos (by omega)]
  have h:List.take (List.replicate (dH T).length 0).length (dH T) ++ List.drop (dH T).length (List.replicate (dH T).length 0)=dH T:=by simp
  rw [h] at c
  exact fD.mk (by simp) rfl (c.oA (Nat.le_refl _) (by simp)) (show In .i64 0 by decide)
theorem FJ{a:U}{L l:Nat}{T:List Nat}{Z:V}(s:bJ Z a L T)(c:l=T.length):
  aF qE.id #[.slice a l L] Z fun v A=>a4 Z A∧wJ Z A v T:=by
 refine qE.ok ?_
 unfold qE.t qE.F.t
 subst c
 have a0:=s.len
 refine nQ T.length rfl rfl rfl rfl a0 fun a0 q M=>?_
 refine v8 q (s.B M) (by simp) rfl (Nat.le_refl _) M fun f b d=>?_
 refine⟨d,?_⟩
 have e:List.take (List.replicate T.length 0).length T ++ List.drop T.length (List.replicate T.length 0)=T:=by simp
 rw [e] at b
 exact⟨_,_,rfl,b.oA (Nat.le_refl _) (by simp)⟩
theorem FK{Y:K}{a N:U}{L bH l m:Nat}{T u:List Nat}{Z:V}(s:bJ Z a L T)(O:bJ Z N bH u)(c:l=T.length)(d:m=u.length)(e:T.length=u.length)(g:Y (.bool (decide (T=u))) Z):
  ∀ M n:Nat,n+M=T.length→T.take n=u.take n→pD.bG.t Y (M+1) a l L N m bH (n:Int) Z:=by
 subst c;subst d
 have a0:=s.len
 intro M
 induction M with
 | zero=>
  intro n f b
  refine cD (fun aP=>absurd aP (by omega)) fun _=>?_
  have J:T=u:=by
   rw [← List.take_length (l:=T),← List.take_length (l:=u),← e,show T.length=n by omega];exact b
  show Y (.bool true) Z
  simpa [J] using g
 | succ M h=>
  intro n f b
  refine cD (fun aP=>?_) fun aP=>absurd (by omega) aP
  refine fG s (C:=n) rfl rfl (by omega) ?_
  refine fG O (C:=n) rfl rfl (by omega) ?_
  refine mZ (fun i=>?_) fun j=>?_
  ·have J:T ≠ u:=fun J=>i (by rw [J])
   simpa [J] using g
  ·refine cP ((n+1:Nat):Int) (by omega) (by omega) (by omega) ?_
   refine h (n+1) (by omega) ?_
   rw [lX (by omega),lX (by omega),b,show T.getD n 0=u.getD n 0 by omega]
theorem FL{a N:U}{L bH l m:Nat}{T u:List Nat}{Z:V}(s:bJ Z a L T)(O:bJ Z N bH u)(b:l=T.length)(c:m=u.length):
  j8 pD.id #[.slice a l L,.slice N m bH] Z fun v=>v=.bool (decide (T=u)):=by
 refine⟨.bool (decide (T=u)),?_,rfl⟩
 refine pD.ok ?_
 unfold pD.t pD.F.t
 refine mZ (fun d=>?_) fun e=>?_
 ·have J:T ≠ u:=fun J=>d (by rw [b,c,J])
  simp [J]
 ·refine⟨l+1,?_⟩
  refine FK s O b c (by omega) ⟨rfl,rfl⟩ l 0 (by omega) ?_
  simp
theorem x7{I:Int}{aN:Int}{n:Nat}(a:I=(n:Int))(O z:Nat)(aY:O≤64)(b:z=2 ^ O)(c:aN=(O:Int)){p:Int→Prop}(g:p ((n / z:Nat):Int)):a2 (gL .u64 I aN) p:=by
 subst a;subst c;subst b
 refine⟨?_⟩
 show p (Int.fdiv (n:Int) (2 ^ (min (O:Int).toNat 64)))
 have J:min (O:Int).toNat 64=O:=by omega
 rw [J]
 have d:Int.fdiv (n:Int) (2 ^ O)=((n / 2 ^ O:Nat):Int):=by
  rw [Int.fdiv_eq_ediv_of_nonneg _ (Int.le_of_lt (Int.pow_pos (by decide)))]
  norm_cast
 rw [d];exact g
theorem jO{I aN:Int}(J:I=aN){p:Int→Prop}(g:p aN):a2 I p:=by subst J;exact⟨g⟩
theorem FM{O:ByteArray}{I:Int}{n:Nat}{N:UInt8}(a:I=(n:Int))(J:O[n]?=some N){p:Int→Prop}(g:p (N.toNat:Int)):vS O I p:=by
 subst a
 refine⟨by omega,?_⟩
 rw [Int.toNat_natCast,J];exact g
theorem FN:(List.range 256).all (fun I=>decide ((⟨#[0,1,2,2,3,3,3,3,4,4,4,4,4,4,4,4,5,5,5,5,5,5,5,5,5,5,5,5,5,5,5,5,6,6,6,6,6,6,6,6,6,6,6,6,6,6,6,6,6,6,6,6,6,6,6,6,6,6,6,6,6,6,6,6,7,7,7,7,7,7,7,7,7,7,7,7,7,7,7,7,7,7,7,7,7,7,7,7,7,7,7,7,7,7,7,7,7,7,7,7,7,7,7,7,7,7,7,7,7,7,7,7,7,7,7,7,7,7,7,7,7,7,7,7,7,7,7,7,8,8,8,8,8,8,8,8,8,8,8,8,8,8,8,8,8,8,8,8,8,8,8,8,8,8,8,8,8,8,8,8,8,8,8,8,8,8,8,8,8,8,8,8,8,8,8,8,8,8,8,8,8,8,8,8,8,8,8,8,8,8,8,8,8,8,8,8,8,8,8,8,8,8,8,8,8,8,8,8,8,8,8,8,8,8,8,8,8,8,8,8,8,8,8,8,8,8,8,8,8,8,8,8,8,8,8,8,8,8,8,8,8,8,8,8,8,8,8,8,8,8,8,8,8,8,8,8]⟩:ByteArray)[I]?=some (UInt8.ofNat (eU I))))=true:=by decide +kernel
theorem CT{Y:K}{n O:Nat}{I aN:Int}(b:I=(n:Int))(c:aN=(O:Int))(d:n < 256)(aY:O≤64){Z:V}(g:Y (.int .i64 ((O+eU n:Nat):Int)) Z):m2.cA.t Y I aN Z:=by
 subst b;subst c
 unfold m2.cA.t
 have aP:eU n≤8:=j6.mpr (by omega)
 have a:=List.all_eq_true.mp FN n (by simpa using d)
 have a:=of_decide_eq_true a
 have e:IntKind.u8.wrap (n:Int)=(n:Int):=by
  simp only [IntKind.wrap,IntKind.bits,IntKind.signed,Bool.false_and,Bool.false_eq_true,if_false];omega
 refine jO e ?_
 refine FM rfl a ?_
 have f:((UInt8.ofNat (eU n)).toNat:Int)=(eU n:Int):=by
  rw [UInt8.toNat_ofNat'];omega
 refine cP (eU n:Int) f (by omega) (by omega) ?_
 refine cP ((O+eU n:Nat):Int) (by omega) (by omega) (by omega) ?_
 exact g
theorem CU{I:Int}{n:Nat}(a:I=(n:Int))(h:n < 18446744073709551616)(Z:V):
  aF m2.id #[.int .u64 I] Z fun v A=>A=Z∧v=.int .i64 (eU n:Int):=by
 subst a
 refine m2.ok ?_
 unfold m2.t m2.F.t
 have d:∀ (m O:Nat) (I aN:Int),I=(m:Int)→aN=(O:Int)→m < 65536→O≤48→O+eU m=eU n→m2.a7.t (fun v A=>A=Z∧v=.int .i64 (eU n:Int)) I aN Z:=by
  intro m O I aN a c g aY J
  subst a;subst c
  unfold m2.a7.t
  refine cD (fun aP=>⟨by omega,?_⟩) fun aP=>?_
  ·refine x7 rfl 8 256 (by omega) (by omega) rfl ?_
   refine cP ((O+8:Nat):Int) (by omega) (by omega) (by omega) ?_
   have:=tL m 8
   have e:8 < eU m:=Nat.lt_of_not_le fun b=>by have:=j6.mp b;omega
   refine CT rfl rfl (by omega) (by omega) ⟨rfl,?_⟩
   rw [← J,show(256:Nat)=2 ^ 8 by decide,this]
   congr 2;omega
  ·refine CT rfl rfl (by omega) (by omega) ⟨rfl,by rw [J]⟩
 have f:∀ (m O:Nat) (I aN:Int),I=(m:Int)→aN=(O:Int)→m < 4294967296→O≤32→O+eU m=eU n→m2.aC.t (fun v A=>A=Z∧v=.int .i64 (eU n:Int)) I aN Z:=by
  intro m O I aN a c g aY J
  subst a;subst c
  unfold m2.aC.t
  refine cD (fun aP=>⟨by omega,?_⟩) fun aP=>?_
  ·refine x7 rfl 16 65536 (by omega) (by omega) rfl ?_
   refine cP ((O+16:Nat):Int) (by omega) (by omega) (by omega) ?_
   have:=tL m 16
   have e:16 < eU m:=Nat.lt_of_not_le fun b=>by have:=j6.mp b;omega
   refine d _ _ _ _ rfl rfl (by omega) (by omega) ?_
   rw [← J,show(65536:Nat)=2 ^ 16 by decide,this];omega
  ·exact d _ _ _ _ rfl rfl (by omega) (by omega) J
 refine cD (fun aP=>⟨by omega,?_⟩) fun aP=>?_
 ·refine x7 rfl 32 4294967296 (by omega) (by omega) rfl ?_
  have:=tL n 32
  have e:32 < eU n:=Nat.lt_of_not_le fun b=>by have:=j6.mp b;omega
  refine f _ 32 _ _ rfl rfl (by omega) (by omega) ?_
  rw [show(4294967296:Nat)=2 ^ 32 by decide,this];omega
 ·exact f _ 0 _ _ rfl rfl (by omega) (by omega) (by omega)
theorem CV{a:U}{L l:Nat}{T:List Nat}{Z:V}(s:bJ Z a L T)(f:l=T.length):
  aF pE.id #[.slice a l L] Z fun v A=>A=Z∧v=.int .i64 (eU (val T):Int):=by
 refine pE.ok ?_
 unfold pE.t pE.F.t
 refine bF (wK s f) fun v A ⟨d,e,c⟩=>?_
 subst d;subst e
 refine k rfl ?_
 rw [← rY T]
 have a0:=c.len
 refine hU (fun aB=>⟨rfl,?_⟩) fun aB=>?_
 ·have J:dH T=[]:=List.length_eq_zero_iff.mp (by omega)
  rw [J];rfl
 ·obtain⟨n,b⟩:∃ n,(dH T).length=n+1:=⟨(dH T).length - 1,by omega⟩
  rw [b]
  refine cP (n:Int) (by omega) (by omega) (by omega) ?_
  refine cP ((64*n:Nat):Int) (by omega) (by omega) (by omega) ?_
  refine cP (n:Int) (by omega) (by omega) (by omega) ?_
  refine fG c (C:=n) rfl b.symm (by omega) ?_
  have g:(dH T).getD n 0 ≠ 0:=by
   rcases tI.mp (Ai T) with J | J
   ·rw [J] at b;simp at b
   ·rwa [b] at J
  have aP:=wB c.words b g
  have h:eU ((dH T).getD n 0)≤64:=j6.mpr (c.word n)
  refine bF (CU rfl (c.word n) _) fun v A ⟨d,e⟩=>?_
  subst d;subst e
  refine bI rfl ?_
  refine cP (eU (val (dH T)):Int) (by omega) (by omega) (by omega) ⟨rfl,rfl⟩
theorem rZ{I aN:Int}{n:Nat}(a:I=(n:Int))(O z:Nat)(aY:O≤64)(b:z=2 ^ O)(c:aN=(O:Int)){p:Int→Prop}(g:p ((n*z % 18446744073709551616:Nat):Int)):0≤aN∧a2 (jM .u64 I aN) p:=by
 subst a;subst c;subst b
 refine⟨by omega,⟨?_⟩⟩
 show p (IntKind.u64.wrap ((n:Int)*2 ^ (min (O:Int).toNat 64)))
 have J:min (O:Int).toNat 64=O:=by omega
 rw [J,wrap_u64]
 have d:((n:Int)*2 ^ O) % 18446744073709551616=((n*2 ^ O % 18446744073709551616:Nat):Int):=by
  have e:(2:Int) ^ O=((2 ^ O:Nat):Int):=by rw [Int.natCast_pow];rfl
  rw [e,← Int.natCast_mul];omega
 rw [d];exact g
theorem lZ{I aN:Int}{n:Nat}(a:I=(n:Int))(O z:Nat)(aY:O≤64)(b:z=2 ^ O)(c:aN=(O:Int)){p:Int→Prop}(g:p ((n / z:Nat):Int)):0≤aN∧a2 (gL .u64 I aN) p:=
 ⟨by omega,x7 a O z aY b c g⟩
theorem x8(a:Nat):BitVec.ofInt 64 (a:Int)=BitVec.ofNat 64 a:=BitVec.ofInt_natCast 64 a
theorem x9{I aN:Int}{a N:Nat}(b:I=(a:Int))(c:aN=(N:Int))(d:a < 18446744073709551616)(aP:N < 18446744073709551616){p:Int→Prop}(g:p ((a ||| N:Nat):Int)):a2 (uL .u64 I aN) p:=by
 subst b;subst c
 refine⟨?_⟩
 show p (IntKind.u64.wrap (BitVec.ofInt 64 (a:Int) ||| BitVec.ofInt 64 (N:Int)).toNat)
 have J:(BitVec.ofInt 64 (a:Int) ||| BitVec.ofInt 64 (N:Int)).toNat=a ||| N:=by
  rw [x8,x8,BitVec.toNat_or,BitVec.toNat_ofNat,BitVec.toNat_ofNat,Nat.mod_eq_of_lt (by omega),Nat.mod_eq_of_lt (by omega)]
 have dE:a ||| N < 18446744073709551616:=Nat.or_lt_two_pow (n:=64) d aP
 rw [J,z9 (by omega) (by omega)];exact g
theorem AC{I aN:Int}{a N:Nat}(b:I=(a:Int))(c:aN=(N:Int))(d:a < 18446744073709551616)(aP:N < 18446744073709551616){p:Int→Prop}(g:p ((a &&& N:Nat):Int)):a2 (iG .u64 I aN) p:=by
 subst b;subst c
 refine⟨?_⟩
 show p (IntKind.u64.wrap (BitVec.ofInt 64 (a:Int) &&& BitVec.ofInt 64 (N:Int)).toNat)
 have J:(BitVec.ofInt 64 (a:Int) &&& BitVec.ofInt 64 (N:Int)).toNat=a &&& N:=by
  rw [x8,x8,BitVec.toNat_and,BitVec.toNat_ofNat,BitVec.toNat_ofNat,Nat.mod_eq_of_lt (by omega),Nat.mod_eq_of_lt (by omega)]
 have dE:a &&& N≤a:=Nat.and_le_left
 rw [J,z9 (by omega) (by omega)];exact g
theorem CW{Q a N:Nat}(Z:N < 2 ^ Q):N ||| (2 ^ Q*a)=2 ^ Q*a+N:=by
 rw [Nat.or_comm,Nat.two_pow_add_eq_or_of_lt Z]
theorem dR{I:Int}(aN:Nat)(J:I=(aN:Int))(Z:aN < 18446744073709551616){p:Int→Prop}(g:p (aN:Int)):a2 (IntKind.u64.wrap I) p:=by
 subst J;refine⟨?_⟩;show p _;rw [z9 (by omega) (by omega)];exact g
theorem oC(n m:Nat):Int.tdiv (n:Int) (m:Int)=((n / m:Nat):Int):=by
 rw [Int.tdiv_eq_ediv_of_nonneg (by omega)];norm_cast
theorem r0(n m:Nat):Int.tmod (n:Int) (m:Int)=((n % m:Nat):Int):=by
 rw [Int.tmod_eq_emod_of_nonneg (by omega)];norm_cast
theorem tQ{a N:Nat}(b:a < 4294967296)(aP:N < 4294967296):a*N≤18446744065119617025:=Nat.mul_le_mul (show a≤4294967295 by omega) (show N≤4294967295 by omega)
theorem m3{I:Int}{n:Nat}(a:I=(n:Int))(b:n < 18446744073709551616){p:Int→Prop}(g:p ((n % 4294967296:Nat):Int)):a2 (iG .u64 I 4294967295) p:=by
 refine AC (N:=4294967295) a rfl b (by decide) ?_
 have:n &&& 4294967295=n % 4294967296:=Nat.and_two_pow_sub_one_eq_mod n 32
 rw [this];exact g
theorem kK{I:Int}(aN:Nat)(J:I=(aN:Int))(Z:aN < 4294967296){p:Int→Prop}(g:p (aN:Int)):a2 (IntKind.u32.wrap I) p:=by
 subst J;refine⟨?_⟩;show p _
 have:IntKind.u32.wrap (aN:Int)=(aN:Int):=by
  simp only [IntKind.wrap,IntKind.bits,IntKind.signed,Bool.false_and,Bool.false_eq_true,if_false];omega
 rw [this];exact g
theorem q4{I:Int}{n:Nat}(a:I=(n:Int)){p:Int→Prop}(g:p ((n / 4294967296:Nat):Int)):0≤(32:Int)∧a2 (gL .u64 I 32) p:=
 lZ a 32 4294967296 (by decide) (by decide) rfl g
theorem AD{I:Int}{n:Nat}(a:I=(n:Int))(b:n < 4294967296){p:Int→Prop}(g:p ((n*4294967296:Nat):Int)):0≤(32:Int)∧a2 (jM .u64 I 32) p:=by
 refine rZ a 32 4294967296 (by decide) (by decide) rfl ?_
 rw [Nat.mod_eq_of_lt (by omega)];exact g
theorem r1{aB Z:V}{a:U}{l L n:Nat}{I:Int}{T:List Nat}(g:cN b2 aB Z a L T)(aR:a4 aB Z)(d:l=T.length)(e:I=(n:Int))(f:n < 4294967296)(h:T.length+1≤70368744177656)(i:L < T.length+1→T.length+1≤35184372088832){p:U→Nat→Nat→V→Prop}
  (j:∀ b cW A,cN b2 aB A b cW (T ++ [n])→a4 aB A→(T.length+1≤L→cW=L)→p b (T.length+1) cW A):b4 Z 82 [.int .u32 I] fun o m=>gW m 82 hW a l L (.slice (some o) 1 1) p:=
 Az b2 g aR [n] (by rw [e];rfl) (fun aN c=>by rw [List.mem_singleton] at c;subst c;exact f) d rfl rfl 0 rfl n9 4 rfl (by decide) h (fun Z=>by have:=i (by simpa using Z);simp;omega) j
theorem CX{aB Z:V}{a:U}{l L n:Nat}{I:Int}{T:List Nat}(g:cN dQ aB Z a L T)(aR:a4 aB Z)(d:l=T.length)(e:I=(n:Int))(f:n < 18446744073709551616)(h:T.length+1≤35184372088828)(i:L < T.length+1→T.length+1≤17592186044416){p:U→Nat→Nat→V→Prop}
  (j:∀ b cW A,cN dQ aB A b cW (T ++ [n])→a4 aB A→(T.length+1≤L→cW=L)→p b (T.length+1) cW A):b4 Z 27 [.int .u64 I] fun o m=>gW m 27 j9 a l L (.slice (some o) 1 1) p:=
 Az dQ g aR [n] (by rw [e];rfl) (fun aN c=>by rw [List.mem_singleton] at c;subst c;exact f) d rfl rfl 0 rfl As 8 rfl (by decide) h (fun Z=>by have:=i (by simpa using Z);simp;omega) j
theorem CY{Y:K}{a:U}{L l:Nat}{T:List Nat}{Z:V}(s:cB b2 Z a L T)(h:l=T.length)(n:Nat)(c:n≤T.length)(J:dH T=T.take n)(g:∀ v A,a4 Z A→gC Z A v (D.val T)→Y v A):g5.aC.t Y a l L (n:Int) Z:=by
 have a0:=s.m0
 unfold g5.aC.t
 refine p9 b2 0 n n rfl n9 4 rfl (by decide) rfl rfl (Nat.le_refl _) (by omega) fun i q M=>?_
 refine u3 rfl (Nat.le_trans c s.cap) ?_
 have d:=(s.take n).B M
 have dE:(T.take n).length=n:=by rw [List.length_take];omega
 refine Fz q d (by simp) dE.symm fun j b e=>?_
 have f:(T.take n).take (min (T.take n).length n) ++ (List.replicate n 0).drop (min (T.take n).length n)=D.aE (D.val T):=by
  rw [D.mC s.ok,J,dE,Nat.min_self,List.take_take];simp
 rw [Int.toNat_natCast] at b ⊢
 rw [f] at b
 refine g _ _ (e.B M (Nat.le_refl _)) ⟨some ⟨Z.size,0,none⟩,n,?_,b.oA (Nat.le_refl _) (by rw [D.mC s.ok,J,dE];show n≤70368744177656;omega) ?_⟩
 ·rw [D.mC s.ok,J,dE]
 ·rw [D.mC s.ok,J,dE]
theorem FO{Y:K}{a:U}{L l:Nat}{T:List Nat}{Z:V}(s:cB b2 Z a L T)(c:l=T.length)(g:∀ v A,a4 Z A→gC Z A v (D.val T)→Y v A):
  ∀ n:Nat,n≤T.length→dH (T.take n)=dH T→g5.cZ.t Y (n+1) a l L (n:Int) Z:=by
 have a0:=s.m0
 intro n
 induction n with
 | zero=>
  intro d b
  unfold g5.cZ.t g5.cA.t
  refine cD (fun Z=>absurd Z (by omega)) fun _=>CY s c 0 d ?_ g
  rw [← b];rfl
 | succ n f=>
  intro d b
  refine cD (fun _=>?_) fun Z=>absurd (by omega) Z
  refine cP (n:Int) (by omega) (by omega) (by omega) ?_
  refine iJ s (C:=n) rfl c (by omega) ?_
  have e:=lX (T:=T) (n:=n) (by omega)
  refine hU (fun h=>?_) fun h=>?_
  ·refine cP (n:Int) (by omega) (by omega) (by omega) ?_
   refine f (by omega) ?_
   rw [← b,e,show T.getD n 0=0 by omega,vA]
  ·refine CY s c (n+1) d ?_ g
   rw [← b,e,wA _ (by omega)]
theorem oD{a:U}{L l:Nat}{T:List Nat}{Z:V}(s:cB b2 Z a L T)(b:l=T.length):
  aF g5.id #[.slice a l L] Z fun v A=>a4 Z A∧gC Z A v (D.val T):=by
 refine g5.ok ?_
 unfold g5.t g5.F.t
 refine⟨T.length+1,?_⟩
 subst b
 exact FO s rfl (fun v A M O=>⟨M,O⟩) T.length (Nat.le_refl _) (by rw [List.take_length])
theorem q5{aB Z:V}{a:U}{L l aL:Nat}{T:List Nat}(g:cN b2 aB Z a L T)(b:l=T.length)(c:D.val T=aL)(M:a4 aB Z){Y:K}(d:∀ v A,a4 aB A→gC aB A v aL→Y v A):
  aF g5.id #[.slice a l L] Z fun v A=>aG v fun a l L=>Y (.slice a l L) A:=by
 subst c
 refine bF (oD g.rd b) fun v A ⟨e,O⟩=>?_
 refine O.elim fun h bX f=>?_
 exact d _ _ (M.trans e) ⟨_,_,rfl,f.from M.le⟩
theorem FP{Y:K}{a:U}{L l:Nat}{T:List Nat}{aB:V}(s:bJ aB a L T)(f:l=T.length)(h:∀ v A,a4 aB A→gC aB A v (val T)→Y v A):
  ∀ (M Q:Nat) (c:U) (Z:V),Q+M=T.length→cN b2 aB Z c (2*T.length) (split (T.take Q))→a4 aB Z→
   lD.bG.t Y (M+1) a l L c (2*Q) (2*T.length) (Q:Int) Z:=by
 subst f
 have a0:=s.len
 intro M
 induction M with
 | zero=>
  intro Q c Z bE g b1
  unfold lD.bG.t lD.b0.t
  refine cD (fun aP=>absurd aP (by omega)) fun _=>?_
  unfold lD.aC.t
  refine q5 g ?_ ?_ b1 h
  ·rw [CH,List.length_take];omega
  ·rw [FB,List.take_of_length_le (by omega)]
 | succ M i=>
  intro Q c Z bE g b1
  have j:=s.word Q
  unfold lD.bG.t lD.b0.t
  refine cD (fun _=>?_) fun aP=>absurd (by omega) aP
  refine fG (s.B b1) (C:=Q) rfl rfl (by omega) ?_
  refine m3 rfl j ?_
  refine kK (T.getD Q 0 % 4294967296) rfl (by omega) ?_
  refine fG (s.B b1) (C:=Q) rfl rfl (by omega) ?_
  refine q4 rfl ?_
  refine kK (T.getD Q 0 / 4294967296) rfl (by omega) ?_
  have b:(split (T.take Q)).length=2*Q:=by rw [CH,List.length_take];omega
  refine Az b2 g b1 [T.getD Q 0 % 4294967296,T.getD Q 0 / 4294967296] rfl (fun aN d=>?_) b.symm rfl rfl 0 rfl n9 4 rfl (by decide) ?_ ?_ fun m cW A e eA n=>?_
  ·simp only [List.mem_cons,List.not_mem_nil,or_false] at d
   show aN < 4294967296
   rcases d with J | J <;> omega
  ·rw [b];show 2*Q+2≤70368744177656;omega
  ·rw [b];intro D;simp at D;omega
  ·have E:=n (by rw [b];simp;omega)
   subst E
   refine cP ((Q+1:Nat):Int) (by omega) (by omega) (by omega) ?_
   rw [b]
   have J:split (T.take (Q+1))=split (T.take Q) ++ [T.getD Q 0 % 4294967296,T.getD Q 0 / 4294967296]:=by
    rw [lX (by omega),FC];rfl
   rw [← J] at e
   exact i (Q+1) m A (by omega) e eA
theorem FQ{a:U}{L l:Nat}{T:List Nat}{Z:V}(s:bJ Z a L T)(b:l=T.length):
  aF lD.id #[.slice a l L] Z fun v A=>a4 Z A∧gC Z A v (val T):=by
 refine lD.ok ?_
 unfold lD.t lD.F.t
 subst b
 have a0:=s.len
 refine cP ((2*T.length:Nat):Int) (by omega) (by omega) (by omega) ?_
 refine p9 b2 0 0 (2*T.length) rfl n9 4 rfl (by decide) rfl rfl (by omega) (by omega) fun c q M=>?_
 unfold lD.a7.t
 refine⟨T.length+1,?_⟩
 rw [Int.toNat_natCast]
 refine FP s rfl (fun v A M O=>⟨M,O⟩) T.length 0 _ c (by omega) ?_ M
 exact dI.hV (T:=split (T.take 0)) (rest:=List.replicate (2*T.length) 0) (by simpa [split] using q) (Nat.le_refl _) (by simp [split]) (by simp [split]) (by simp [split])
theorem FR{Y:K}{a:U}{L l m:Nat}{b:List Nat}{aB:V}(s:cB b2 aB a L b)(n:l=b.length)(v:∀ a L A,a4 aB A→cN dQ aB A a L (join b)→Y (.slice a (join b).length L) A)(G:(b.length+1) / 2≤m):
  ∀ (M Q:Nat) (d:U) (Z:V),Q+M=(b.length+1) / 2→cN dQ aB Z d m (join (b.take (2*Q)))→a4 aB Z→
   j1.bG.t Y (M+1) a l L d Q m ((2*Q:Nat):Int) Z:=by
 subst n
 have a0:=s.m0
 intro M
 induction M with
 | zero=>
  intro Q d Z bE g b1
  unfold j1.bG.t j1.b0.t
  refine cD (fun aP=>absurd aP (by omega)) fun _=>?_
  unfold j1.aC.t
  have J:b.take (2*Q)=b:=List.take_of_length_le (by omega)
  rw [J] at g
  have:=v _ _ _ b1 g
  have D:(join b).length=Q:=by rw [AA];omega
  rw [D] at this;exact this
 | succ M i=>
  intro Q d Z bE g b1
  have H:=s.lC (2*Q)
  have E:=s.lC (2*Q+1)
  have e:(join (b.take (2*Q))).length=Q:=by rw [AA,List.length_take];omega
  have j:(b.take (2*Q)).length % 2=0:=by rw [List.length_take];omega
  unfold j1.bG.t j1.b0.t
  refine cD (fun _=>?_) fun aP=>absurd (by omega) aP
  refine iJ (s.B b1) (C:=2*Q) rfl rfl (by omega) ?_
  refine dR (b.getD (2*Q) 0) rfl (by omega) ?_
  refine cP ((2*Q+1:Nat):Int) (by omega) (by omega) (by omega) ?_
  refine cD (fun aP=>?_) fun aP=>?_
  ·refine cP ((2*Q+1:Nat):Int) (by omega) (by omega) (by omega) ?_
   refine iJ (s.B b1) (C:=2*Q+1) rfl rfl (by omega) ?_
   refine dR (b.getD (2*Q+1) 0) rfl (by omega) ?_
   refine AD rfl E ?_
   refine dR (b.getD (2*Q) 0+b.getD (2*Q+1) 0*4294967296) (by omega) (by omega) ?_
   refine CX g b1 e.symm rfl (by omega) (by omega) (by omega) fun f cW A c eA h=>?_
   obtain rfl:=h (by omega)
   refine cP ((2*(Q+1):Nat):Int) (by omega) (by omega) (by omega) ?_
   rw [e]
   have J:b.take (2*(Q+1))=b.take (2*Q) ++ [b.getD (2*Q) 0,b.getD (2*Q+1) 0]:=by
    rw [show 2*(Q+1)=2*Q+1+1 by omega,lX (by omega),lX (by omega)];simp
   rw [← CN j,← J] at c
   exact i (Q+1) f A (by omega) c eA
  ·refine CX g b1 e.symm rfl (by omega) (by omega) (by omega) fun f cW A c eA h=>?_
   obtain rfl:=h (by omega)
   refine cP ((2*(Q+1):Nat):Int) (by omega) (by omega) (by omega) ?_
   rw [e]
   have J:b.take (2*(Q+1))=b.take (2*Q) ++ [b.getD (2*Q) 0]:=by
    rw [← lX (by omega),List.take_of_length_le (by omega),List.take_of_length_le (by omega)]
   rw [← CO j,← J] at c
   exact i (Q+1) f A (by omega) c eA
theorem FT{a:U}{L l:Nat}{T:List Nat}{Z:V}(s:cB b2 Z a L T)(e:l=T.length):
  aF j1.id #[.slice a l L] Z fun v A=>a4 Z A∧qB Z A v (aE (D.val T)):=by
 refine j1.ok ?_
 unfold j1.t j1.F.t
 refine bF (oD s e) fun v a0 ⟨b,O⟩=>?_
 refine O.elim fun h i c=>?_
 have j:=c.rd.m0
 have f:Int.tdiv (((D.aE (D.val T)).length:Nat):Int) 2=(((D.aE (D.val T)).length / 2:Nat):Int):=oC _ 2
 refine⟨by decide,?_⟩
 rw [f]
 refine cP (((D.aE (D.val T)).length / 2:Nat):Int) rfl (by omega) (by omega) ?_
 refine cP (((D.aE (D.val T)).length / 2+1:Nat):Int) (by omega) (by omega) (by omega) ?_
 refine p9 dQ 0 0 ((D.aE (D.val T)).length / 2+1) rfl As 8 rfl (by decide) rfl rfl (by omega) (by omega) fun g q M=>?_
 unfold j1.a7.t
 refine⟨((D.aE (D.val T)).length+1) / 2+1,?_⟩
 rw [Int.toNat_natCast]
 refine FR c.rd rfl (fun m cW A eA d=>?_) (by omega) _ 0 _ g (by omega) ?_ M
 ·have J:join (D.aE (D.val T))=aE (D.val T):=FE _
  rw [J] at d ⊢
  exact⟨b.trans eA,_,_,rfl,d.from b.le⟩
 ·exact dI.hV (T:=join ((D.aE (D.val T)).take (2*0))) (rest:=List.replicate ((D.aE (D.val T)).length / 2+1) 0) (by simpa [join] using q) (Nat.le_refl _) (by simp [join]) (by simp [join]) (by simp [join])
theorem CZ{a:U}{L l aL:Nat}{Z:V}(s:cB b2 Z a L (D.aE aL))(b:l=(D.aE aL).length):
  aF j1.id #[.slice a l L] Z fun v A=>a4 Z A∧qB Z A v (aE aL):=by
 have:=FT s b
 rw [D.fA] at this;exact this
theorem oE{I:Int}{aA:Nat}(a:I=(aA:Int))(c:aA < 18446744073709551616)(Z:V):aF jP.id #[.int .u64 I] Z fun v A=>a4 Z A∧gC Z A v aA:=by
 refine jP.ok ?_
 unfold jP.t jP.F.t
 refine m3 a c ?_
 refine kK (aA % 4294967296) rfl (by omega) ?_
 refine q4 a ?_
 refine kK (aA / 4294967296) rfl (by omega) ?_
 refine wF b2 [aA % 4294967296,aA / 4294967296] rfl (fun aN b=>?_) fun a0 q M=>?_
 ·simp only [List.mem_cons,List.not_mem_nil,or_false] at b
  show aN < 4294967296
  rcases b with J | J <;> omega
 ·refine q5 (aB:=Z) (Y:=fun v A=>a4 Z A∧gC Z A v aA) (q.oA (L:=2) (Nat.le_refl _) (show 2≤70368744177656 by decide) rfl) (by rfl) (aL:=aA) ?_ M (fun v A M O=>⟨M,O⟩)
  simp only [D.val];omega
theorem FU{Y:K}{a N:U}{L bH:Nat}{T u:List Nat}{Z:V}(s:cB b2 Z a L T)(O:cB b2 Z N bH u)(c:T.length=u.length)(g:Y (.int .i64 (e6 (D.val T) (D.val u))) Z):
  ∀ n:Nat,n≤T.length→T.drop n=u.drop n→kL.bG.t Y (n+1) a T.length L N u.length bH ((n:Int) - 1) Z:=by
 have a0:=s.m0
 intro n
 induction n with
 | zero=>
  intro d b
  unfold kL.bG.t kL.b0.t
  refine cD (fun aP=>absurd aP (by omega)) fun _=>?_
  unfold kL.aC.t
  rw [List.drop_zero,List.drop_zero] at b
  rw [b] at g
  simpa [e6] using g
 | succ n e=>
  intro d b
  unfold kL.bG.t kL.b0.t
  refine cD (fun aP=>?_) fun aP=>absurd (by omega) aP
  refine iJ s (C:=n) (by omega) rfl (by omega) ?_
  refine iJ O (C:=n) (by omega) rfl (by omega) ?_
  refine cD (fun aP=>?_) fun aP=>?_
  ·have aU:=D.tK s.ok O.ok c (C:=n) (by omega) b (by omega)
   unfold e6 at g;rw [if_pos aU] at g;exact g
  ·refine iJ s (C:=n) (by omega) rfl (by omega) ?_
   refine iJ O (C:=n) (by omega) rfl (by omega) ?_
   refine cD (fun f=>?_) fun f=>?_
   ·have aU:=D.tK O.ok s.ok c.symm (C:=n) (by omega) b.symm (by omega)
    unfold e6 at g;rw [if_neg (by omega),if_neg (by omega)] at g;exact g
   ·refine cP ((n:Int) - 1) (by omega) (by omega) (by omega) ?_
    refine e (by omega) ?_
    rw [iI (T:=T) (by omega),iI (T:=u) (by omega),b,show T.getD n 0=u.getD n 0 by omega]
theorem AE{a N:U}{L bH l m aL bA:Nat}{Z:V}(s:cB b2 Z a L (D.aE aL))(O:cB b2 Z N bH (D.aE bA))(d:l=(D.aE aL).length)(e:m=(D.aE bA).length):
  aF kL.id #[.slice a l L,.slice N m bH] Z fun v A=>A=Z∧v=.int .i64 (e6 aL bA):=by
 subst d;subst e
 have a0:=s.m0
 refine kL.ok ?_
 unfold kL.t kL.F.t
 have b:D.val (D.aE aL)=aL:=D.fA aL
 have c:D.val (D.aE bA)=bA:=D.fA bA
 refine mZ (fun f=>?_) fun g=>?_
 ·refine cD (fun aP=>⟨rfl,?_⟩) fun aP=>⟨rfl,?_⟩
  ·have:=D.q2 s.ok (D.nR bA) (by omega)
   rw [b,c] at this
   unfold e6;rw [if_pos this]
  ·have:=D.q2 O.ok (D.nR aL) (by omega)
   rw [b,c] at this
   unfold e6;rw [if_neg (by omega),if_neg (by omega)]
 ·unfold kL.a7.t
  refine cP (((D.aE aL).length:Int) - 1) rfl (by omega) (by omega) ?_
  refine⟨(D.aE aL).length+1,?_⟩
  refine FU s O (by omega) ?_ _ (Nat.le_refl _) ?_
  ·rw [b,c];exact⟨rfl,rfl⟩
  ·rw [List.drop_length,List.drop_of_length_le (by omega)]
theorem yA{Y:K}{a N:U}{L bH M m dF:Nat}{T u:List Nat}{aB:V}(Q:Nat)(aK:List Nat)(b:Nat)(c:U)(Z:V)(I:Int)(d:I=(b:Int))(f:b < 18446744073709551616)(bE:Q < m)(K8:m≤35184372088832)(g:cN b2 aB Z c m aK)(b1:a4 aB Z)(e:aK.length=Q)
  (h:∀ c Z,cN b2 aB Z c m (aK ++ [b % 4294967296])→a4 aB Z→iE.bG.t Y M a T.length L N u.length bH c (Q+1) m ((b / 4294967296:Nat):Int) ((Q+1:Nat):Int) Z) :
  a2 (iG .u64 I 4294967295) fun i=>a2 (IntKind.u32.wrap i) fun j=>b4 Z 82 [.int .u32 j] fun l n=>gW n 82 hW c Q m (.slice (some l) 1 1) fun v D E G=>
   0≤(32:Int)∧a2 (gL .u64 I 32) fun H=>a2 (IntKind.i64.wrap ((Q:Int)+1)) fun P=>iE.bG.t Y M a T.length L N u.length bH v D E H P G:=by
 refine m3 d f ?_
 refine kK (b % 4294967296) rfl (by omega) ?_
 refine r1 g b1 e.symm rfl (by omega) (by omega) (by omega) fun K5 cW A K6 eA K7=>?_
 obtain rfl:=K7 (by omega)
 refine q4 d ?_
 refine cP ((Q+1:Nat):Int) (by omega) (by omega) (by omega) ?_
 rw [e]
 exact h K5 A K6 eA
theorem FV{Y:K}{a N:U}{L bH m dF:Nat}{T u:List Nat}{aB:V}(s:cB b2 aB a L T)(O:cB b2 aB N bH u)(K5:T.length < m)(K6:u.length < m)(h:m≤35184372088832)(E:∀ v A,a4 aB A→gC aB A v dF→Y v A):
  ∀ (M Q b:Nat) (aK:List Nat) (d:U) (Z:V),Q+M=m→aK.length=Q→b≤1→(m≤Q→b=0)→D.val aK+(D.val (T.drop Q)+D.val (u.drop Q)+b)*2 ^ (32*Q)=dF→cN b2 aB Z d m aK→a4 aB Z→
   iE.bG.t Y (M+1) a T.length L N u.length bH d Q m (b:Int) (Q:Int) Z:=by
 intro M
 induction M with
 | zero=>
  intro Q b aK d Z bE c H G J g b1
  unfold iE.bG.t iE.b0.t
  refine cD (fun aP=>absurd aP (by omega)) fun _=>?_
  refine cD (fun aP=>absurd aP (by omega)) fun _=>?_
  rw [List.drop_of_length_le (by omega),List.drop_of_length_le (by omega)] at J
  have l:=G (by omega)
  refine cD (fun aP=>absurd aP (by omega)) fun _=>?_
  unfold iE.aC.t
  refine q5 g c.symm ?_ b1 E
  rw [l] at J
  simpa [D.val] using J
 | succ M i=>
  intro Q b aK d Z bE c H G J g b1
  have K7:=s.lC Q
  have K8:=O.lC Q
  have cO:∀ t cW,(T.getD Q 0+u.getD Q 0+b)=t+4294967296*cW→D.val (aK ++ [t])+(D.val (T.drop (Q+1))+D.val (u.drop (Q+1))+cW)*2 ^ (32*(Q+1))=dF:=by
   intro t cW K9
   have a0:=D.j7 T Q
   have La:=D.j7 u Q
   rw [← J]
   exact D.CP (O:=T.getD Q 0+u.getD Q 0) c (by omega) (by omega)
  have n:Q < T.length∨Q < u.length∨0 < b→iE.dD.t Y (iE.bG.t Y (M+1)) a T.length L N u.length bH d Q m (b:Int) (Q:Int) Z:=by
   intro _
   unfold iE.dD.t
   refine cD (fun aP=>?_) fun aP=>?_
   ·refine iJ (s.B b1) (C:=Q) rfl rfl (by omega) ?_
    refine dR (T.getD Q 0) rfl (by omega) ?_
    refine dR (b+T.getD Q 0) (by omega) (by omega) ?_
    refine cD (fun j=>?_) fun j=>?_
    ·refine iJ (O.B b1) (C:=Q) rfl rfl (by omega) ?_
     refine dR (u.getD Q 0) rfl (by omega) ?_
     refine dR (b+T.getD Q 0+u.getD Q 0) (by omega) (by omega) ?_
     exact yA (dF:=dF) Q aK _ d Z _ rfl (by omega) (by omega) h g b1 c fun e A f eA=>i (Q+1) _ _ e A (by omega) (by simp [c]) (by omega) (by omega) (cO _ _ (by omega)) f eA
    ·have P:u.getD Q 0=0:=by simp [List.getD,show u.length≤Q by omega]
     exact yA (dF:=dF) Q aK _ d Z _ rfl (by omega) (by omega) h g b1 c fun e A f eA=>i (Q+1) _ _ e A (by omega) (by simp [c]) (by omega) (by omega) (cO _ _ (by omega)) f eA
   ·have Lb:T.getD Q 0=0:=by simp [List.getD,show T.length≤Q by omega]
    refine cD (fun j=>?_) fun j=>?_
    ·refine iJ (O.B b1) (C:=Q) rfl rfl (by omega) ?_
     refine dR (u.getD Q 0) rfl (by omega) ?_
     refine dR (b+u.getD Q 0) (by omega) (by omega) ?_
     exact yA (dF:=dF) Q aK _ d Z _ rfl (by omega) (by omega) h g b1 c fun e A f eA=>i (Q+1) _ _ e A (by omega) (by simp [c]) (by omega) (by omega) (cO _ _ (by omega)) f eA
    ·have P:u.getD Q 0=0:=by simp [List.getD,show u.length≤Q by omega]
     exact yA (dF:=dF) Q aK _ d Z _ rfl (by omega) (by omega) h g b1 c fun e A f eA=>i (Q+1) _ _ e A (by omega) (by simp [c]) (by omega) (by omega) (cO _ _ (by omega)) f eA
  unfold iE.bG.t iE.b0.t
  refine cD (fun aP=>n (by omega)) fun aP=>?_
  refine cD (fun aP=>n (by omega)) fun j=>?_
  refine cD (fun aP=>n (by omega)) fun Lc=>?_
  have l:b=0:=by omega
  unfold iE.aC.t
  refine q5 g c.symm ?_ b1 E
  rw [List.drop_of_length_le (by omega),List.drop_of_length_le (by omega),l] at J
  simpa [D.val] using J
theorem C0{a N:U}{L bH l n aL bA:Nat}{Z:V}(s:cB b2 Z a L (D.aE aL))(O:cB b2 Z N bH (D.aE bA))(b:l=(D.aE aL).length)(c:n=(D.aE bA).length)(e:(D.aE aL).length≤1099511627776)(f:(D.aE bA).length≤1099511627776):
  aF iE.id #[.slice a l L,.slice N n bH] Z fun v A=>a4 Z A∧gC Z A v (aL+bA):=by
 subst b;subst c
 refine iE.ok ?_
 unfold iE.t iE.F.t
 have J:(if (((D.aE bA).length:Nat):Int) > (((D.aE aL).length:Nat):Int) then(((D.aE bA).length:Nat):Int) else(((D.aE aL).length:Nat):Int))=((max (D.aE aL).length (D.aE bA).length:Nat):Int):=by split <;> omega
 rw [J]
 refine cP ((max (D.aE aL).length (D.aE bA).length+1:Nat):Int) (by omega) (by omega) (by omega) ?_
 refine p9 b2 0 0 (max (D.aE aL).length (D.aE bA).length+1) rfl n9 4 rfl (by decide) rfl rfl (by omega) (by omega) fun d q M=>?_
 unfold iE.a7.t
 refine⟨max (D.aE aL).length (D.aE bA).length+2,?_⟩
 rw [Int.toNat_natCast]
 refine FV (dF:=aL+bA) s O (by omega) (by omega) (by omega) (fun v A M O=>⟨M,O⟩) _ 0 0 [] _ d (by omega) rfl (by omega) (by omega) ?_ ?_ M
 ·simp [D.val,D.fA]
 ·exact dI.hV (T:=[]) (rest:=List.replicate (max (D.aE aL).length (D.aE bA).length+1) 0) (by simpa using q) (Nat.le_refl _) (by simp) (by simp) (by simp)
theorem AF{aB Z:V}{N l:Nat}{aK:List Nat}(q:dI b2 Z N aK)(b1:a4 aB Z)(aP:aB.size≤N){Q:Int}{C:Nat}(bE:Q=(C:Int))(e:l=aK.length)(a:C < aK.length){I:Int}{v:Nat}(b:I=(v:Int))(aU:v < 4294967296){p:V→Prop}
  (g:∀ A,dI b2 A N (aK.set C v)→a4 aB A→p A):cL (some ⟨N,0,none⟩) l Q 1 fun o=>aW Z o (.int .u32 I) p:=
 x0 q bE (by omega) a (by rw [b];rfl) aU fun c d=>g _ c (d.B b1 aP)
theorem FW{aA:Nat}(Z:aA ≠ 0):eU aA=eU (aA / 2)+1:=by
 have a0:=tL aA 1
 have a:=q3 Z
 rw [show aA / 2=aA / 2 ^ 1 by rfl];omega
theorem FX{Y:K}{Z:V}{dF:Nat}(h:dF < 4611686018427387904)(g:Y (.int .i64 (dF:Int)) Z):∀ (M I aA:Nat),aA < 2 ^ M→I+eU aA=dF→M≤32→kA.bG.t Y (M+1) (I:Int) (aA:Int) Z:=by
 intro M
 induction M with
 | zero=>
  intro I aA a J _
  have:aA=0:=by simpa using a
  subst this
  unfold kA.bG.t kA.b0.t
  refine cD (fun aP=>absurd aP (by omega)) fun _=>?_
  unfold kA.aC.t
  rw [show I=dF by simpa [Ak] using J];exact g
 | succ M b=>
  intro I aA a J c
  unfold kA.bG.t kA.b0.t
  refine cD (fun aP=>?_) fun aP=>?_
  ·have d:aA ≠ 0:=by omega
   have i:=FW d
   refine cP ((I+1:Nat):Int) (by omega) (by omega) (by omega) ?_
   refine⟨by decide,?_⟩
   have e:Int.tdiv (aA:Int) 2=((aA / 2:Nat):Int):=oC aA 2
   rw [e]
   have f:2 ^ (M+1)≤2 ^ 32:=Nat.pow_le_pow_right (by decide) c
   refine kK (aA / 2) rfl (by rw [show(2:Nat) ^ 32=4294967296 from rfl] at f;omega) ?_
   exact b (I+1) (aA / 2) (by rw [Nat.pow_succ] at a;omega) (by omega) (by omega)
  ·have:aA=0:=by omega
   subst this
   unfold kA.aC.t
   rw [show I=dF by simpa [Ak] using J];exact g
theorem C1{a:U}{L l:Nat}{T:List Nat}{Z:V}(s:cB b2 Z a L T)(c:l=T.length)(d:dH T=T):
  aF kA.id #[.slice a l L] Z fun v A=>A=Z∧v=.int .i64 ((eU (D.val T):Nat):Int):=by
 subst c
 have a0:=s.m0
 refine kA.ok ?_
 unfold kA.t kA.F.t
 refine hU (fun aB=>?_) fun aB=>?_
 ·have J:T=[]:=List.length_eq_zero_iff.mp (by omega)
  subst J;exact⟨rfl,rfl⟩
 ·have e:T.getD (T.length - 1) 0 ≠ 0:=by
   rcases tI.mp d with J | J
   ·subst J;simp at aB
   ·exact J
  have aP:=D.wB s.ok (n:=T.length - 1) (by omega) e
  have b:=s.lC (T.length - 1)
  have f:eU (T.getD (T.length - 1) 0)≤32:=j6.mpr b
  refine cP ((T.length - 1:Nat):Int) (by omega) (by omega) (by omega) ?_
  refine cP ((32*(T.length - 1):Nat):Int) (by omega) (by omega) (by omega) ?_
  unfold kA.a7.t
  refine cP ((T.length - 1:Nat):Int) (by omega) (by omega) (by omega) ?_
  refine iJ s (C:=T.length - 1) rfl rfl (by omega) ?_
  refine⟨33,?_⟩
  rw [aP]
  exact FX (by omega) ⟨rfl,rfl⟩ 32 _ _ b rfl (Nat.le_refl _)
theorem FY{a:U}{L l aL:Nat}{Z:V}(s:cB b2 Z a L (D.aE aL))(b:l=(D.aE aL).length):
  aF kA.id #[.slice a l L] Z fun v A=>A=Z∧v=.int .i64 ((eU aL:Nat):Int):=by
 have:=C1 s b (D.nR aL)
 rw [D.fA] at this;exact this
theorem C2{aK:List Nat}{Q t v:Nat}(Z:Q ≠ t):(aK.set Q v).getD t 0=aK.getD t 0:=by
 simp [List.getD,Z]
theorem FZ{Y:K}{i:U→Nat→Nat→U→Nat→Nat→U→Nat→Nat→Int→V→Prop}{a N:U}{j bX n Q o dF I:Nat}{T u:List Nat}{aB:V}
  (O:cB b2 aB N bX u) (bE:Q < T.length) (E:I < 4294967296) (K8:n=T.length+u.length) (l:aB.size≤o) (G:n≤70368744177656)
  (g:∀ A aK,a4 aB A→dI b2 A o aK→aK.length=n→(∀ t,Q+1+u.length≤t→aK.getD t 0=0)→D.val aK+D.val (T.drop (Q+1))*D.val u*2 ^ (32*(Q+1))=dF→i a T.length j N u.length bX (some ⟨o,0,none⟩) n n ((Q+1:Nat):Int) A) :
  ∀ (M C b:Nat) (aK:List Nat) (Z:V),C+M=u.length→b < 4294967296→aK.length=n→dI b2 Z o aK→a4 aB Z→(∀ t,Q+u.length≤t→aK.getD t 0=0)→
   D.val aK+(I*D.val (u.drop C)+b)*2 ^ (32*(Q+C))+D.val (T.drop (Q+1))*D.val u*2 ^ (32*(Q+1))=dF→
   iF.hE.t Y i (M+1) a T.length j N u.length bX (some ⟨o,0,none⟩) n n (Q:Int) (b:Int) (I:Int) (C:Int) Z:=by
 intro M
 induction M with
 | zero=>
  intro C b aK Z H e c q b1 d J
  unfold iF.hE.t iF.lE.t
  refine cD (fun aP=>absurd aP (by omega)) fun aP=>?_
  have P:C=u.length:=by omega
  subst P
  unfold iF.eL.t
  refine cP ((Q+u.length:Nat):Int) (by omega) (by omega) (by omega) ?_
  refine kK b rfl e ?_
  refine AF q b1 l (C:=Q+u.length) rfl c.symm (by omega) rfl e fun K5 f h=>?_
  unfold iF.dD.t
  refine cP ((Q+1:Nat):Int) (by omega) (by omega) (by omega) ?_
  refine g _ _ h f (by simp [c]) (fun t m=>?_) ?_
  ·rw [C2 (by omega)];exact d t (by omega)
  ·have aY:=D.mE (aK:=aK) (C:=Q+u.length) (v:=b) (by omega)
   rw [d _ (Nat.le_refl _)] at aY
   rw [List.drop_length] at J
   simp only [D.val,Nat.zero_mul,Nat.mul_zero,Nat.zero_add,Nat.add_zero] at aY J
   omega
 | succ M K6=>
  intro C b aK Z H e c q b1 d J
  have K7:=O.lC C
  have K9:aK.getD (Q+C) 0 < 4294967296:=nT (by decide) q.ok _
  have La:=tQ E K7
  unfold iF.hE.t iF.lE.t
  refine cD (fun aP=>?_) fun aP=>absurd (by omega) aP
  refine cP ((Q+C:Nat):Int) (by omega) (by omega) (by omega) ?_
  refine iJ (q.o9 (L:=n) (by rw [c];exact G) (by omega)) (C:=Q+C) rfl c.symm (by omega) ?_
  refine dR (aK.getD (Q+C) 0) rfl (by omega) ?_
  refine iJ (O.B b1) (C:=C) rfl rfl (by omega) ?_
  refine dR (u.getD C 0) rfl (by omega) ?_
  have cO:I*D.val (u.drop C)=I*u.getD C 0+4294967296*(I*D.val (u.drop (C+1))):=by
   rw [D.j7,Nat.mul_add,Nat.mul_left_comm]
  rw [cO] at J
  have em:(I:Int)*((u.getD C 0:Nat):Int)=((I*u.getD C 0:Nat):Int):=(Int.natCast_mul _ _).symm
  rw [em]
  generalize I*u.getD C 0=z at *
  refine dR z rfl (by omega) ?_
  refine dR (aK.getD (Q+C) 0+z) (by omega) (by omega) ?_
  refine dR (z+b+aK.getD (Q+C) 0) (by omega) (by omega) ?_
  refine cP ((Q+C:Nat):Int) (by omega) (by omega) (by omega) ?_
  refine m3 rfl (by omega) ?_
  refine kK ((z+b+aK.getD (Q+C) 0) % 4294967296) rfl (by omega) ?_
  refine AF q b1 l (C:=Q+C) rfl c.symm (by omega) rfl (by omega) fun K5 f h=>?_
  refine q4 rfl ?_
  refine cP ((C+1:Nat):Int) (by omega) (by omega) (by omega) ?_
  refine K6 (C+1) _ _ _ (by omega) (by omega) (by simp [c]) f h (fun t m=>?_) ?_
  ·rw [C2 (by omega)];exact d t m
  ·have aY:=D.mE (aK:=aK) (C:=Q+C) (v:=(z+b+aK.getD (Q+C) 0) % 4294967296) (by omega)
   have:=xZ (aX:=4294967296) (z:=z) (L:=b) (s:=I*D.val (u.drop (C+1))) (kH:=(z+b+aK.getD (Q+C) 0) % 4294967296) (cW:=(z+b+aK.getD (Q+C) 0) / 4294967296) (by omega) aY
   rw [show Q+(C+1)=Q+C+1 by omega,D.jY (Q+C),this];exact J
theorem F0{Y:K}{a N:U}{c bX n o dF:Nat}{T u:List Nat}{aB:V}
  (s:cB b2 aB a c T) (O:cB b2 aB N bX u) (g:n=T.length+u.length) (d:aB.size≤o) (e:n≤70368744177656) (h:∀ v A,a4 aB A→gC aB A v dF→Y v A) :
  ∀ (M Q:Nat) (aK:List Nat) (Z:V),Q+M=T.length→aK.length=n→dI b2 Z o aK→a4 aB Z→(∀ t,Q+u.length≤t→aK.getD t 0=0)→D.val aK+D.val (T.drop Q)*D.val u*2 ^ (32*Q)=dF→
   iF.bG.t Y (M+1) a T.length c N u.length bX (some ⟨o,0,none⟩) n n (Q:Int) Z:=by
 intro M
 induction M with
 | zero=>
  intro Q aK Z bE b q b1 f J
  unfold iF.bG.t iF.b0.t
  refine cD (fun aP=>absurd aP (by omega)) fun aP=>?_
  unfold iF.aC.t
  refine q5 (q.oA d (by rw [b];exact e) b.symm) b.symm ?_ b1 h
  rw [List.drop_of_length_le (by omega)] at J
  simpa [D.val] using J
 | succ M i=>
  intro Q aK Z bE b q b1 f J
  have j:=s.lC Q
  unfold iF.bG.t iF.b0.t
  refine cD (fun aP=>?_) fun aP=>absurd (by omega) aP
  unfold iF.eC.t
  refine iJ (s.B b1) (C:=Q) rfl rfl (by omega) ?_
  refine dR (T.getD Q 0) rfl (by omega) ?_
  unfold iF.gJ.t
  refine⟨u.length+1,?_⟩
  refine FZ (dF:=dF) (I:=T.getD Q 0) O (by omega) j g d e (fun A l eA fM m E G=>?_) u.length 0 0 aK Z (by omega) (by omega) b q b1 f ?_
  ·exact i (Q+1) l A (by omega) m fM eA E G
  ·rw [D.j7] at J
   rw [← J,D.jY,List.drop_zero,Nat.add_zero,Nat.add_zero,Nat.add_mul,Nat.add_mul]
   have H:D.val (T.drop (Q+1))*D.val u*(4294967296*2 ^ (32*Q))=4294967296*D.val (T.drop (Q+1))*D.val u*2 ^ (32*Q):=by
    rw [Nat.mul_left_comm,Nat.mul_assoc 4294967296,Nat.mul_assoc 4294967296]
   rw [H];omega
theorem D.F1(n t:Nat):(List.replicate n 0).getD t 0=0:=by
 simp only [List.getD,List.getElem?_replicate];split <;> rfl
theorem F2{a N:U}{L bH l n aL bA:Nat}{Z:V}(s:cB b2 Z a L (D.aE aL))(O:cB b2 Z N bH (D.aE bA))(b:l=(D.aE aL).length)(c:n=(D.aE bA).length)(e:(D.aE aL).length≤1099511627776)(f:(D.aE bA).length≤1099511627776):
  aF iF.id #[.slice a l L,.slice N n bH] Z fun v A=>a4 Z A∧gC Z A v (aL*bA):=by
 subst b;subst c
 refine iF.ok ?_
 unfold iF.t iF.F.t
 refine cP (((D.aE aL).length+(D.aE bA).length:Nat):Int) (by omega) (by omega) (by omega) ?_
 refine p9 b2 0 ((D.aE aL).length+(D.aE bA).length) ((D.aE aL).length+(D.aE bA).length) rfl n9 4 rfl (by decide) rfl rfl (by omega) (by omega) fun d q M=>?_
 unfold iF.a7.t
 refine⟨(D.aE aL).length+1,?_⟩
 rw [Int.toNat_natCast]
 refine F0 (dF:=aL*bA) s O rfl (Nat.le_refl _) (by omega) (fun v A M O=>⟨M,O⟩) _ 0 _ d (by omega) (by simp) q M (fun t _=>D.F1 _ _) ?_
 rw [D.tM,List.drop_zero,D.fA,D.fA];simp
theorem F3{Y:K}{a:U}{L aA o:Nat}{T:List Nat}{aB:V}(s:cB b2 aB a L T)(j:aB.size≤o)(K5:aA < 4294967296)(c:0 < aA)
  (l:∀ v A,a4 aB A→(∃ f cW,v=.tuple #[.slice f (D.aE (D.val T / aA)).length cW,.int .u32 ((D.val T % aA:Nat):Int)]∧cN b2 aB A f cW (D.aE (D.val T / aA)))→Y v A) :
  ∀ (n le:Nat) (aK:List Nat) (Z:V),n≤T.length→aK.length=T.length→le < aA→dI b2 Z o aK→a4 aB Z→D.val (aK.drop n)*aA+le=D.val (T.drop n)→
   mH.bG.t Y (n+1) a T.length L (aA:Int) (some ⟨o,0,none⟩) T.length T.length (le:Int) ((n:Int) - 1) Z:=by
 have a0:=s.m0
 intro n
 induction n with
 | zero=>
  intro le aK Z m b d q b1 J
  unfold mH.bG.t mH.b0.t
  refine cD (fun aP=>absurd aP (by omega)) fun _=>?_
  unfold mH.aC.t
  rw [List.drop_zero,List.drop_zero] at J
  have aJ:D.val aK=D.val T / aA∧le=D.val T % aA:=by
   rw [← J,Nat.mul_comm,Nat.mul_add_div c,Nat.div_eq_of_lt d,Nat.mul_add_mod,Nat.mod_eq_of_lt d];simp
  refine bF (oD (q.o9 (L:=T.length) (by rw [b];exact a0) (by omega)) b.symm) fun v A ⟨e,O⟩=>?_
  refine O.elim fun K6 bX g=>?_
  refine kK le rfl (by omega) ?_
  rw [aJ.1] at g ⊢
  rw [aJ.2]
  exact l _ _ (b1.trans e) ⟨_,_,rfl,g.from b1.le⟩
 | succ n E=>
  intro le aK Z m b d q b1 J
  have K7:=s.lC n
  unfold mH.bG.t mH.b0.t
  refine cD (fun aP=>?_) fun aP=>absurd (by omega) aP
  refine AD rfl (by omega) ?_
  refine iJ (s.B b1) (C:=n) (by omega) rfl (by omega) ?_
  refine dR (T.getD n 0) rfl (by omega) ?_
  refine dR (le*4294967296+T.getD n 0) (by omega) (by omega) ?_
  refine dR aA rfl (by omega) ?_
  have h:(aA:Int) ≠ 0:=by omega
  refine⟨h,?_⟩
  have i:(le*4294967296+T.getD n 0) / aA < 4294967296:=by
   rw [Nat.div_lt_iff_lt_mul c]
   have:le*4294967296+4294967296≤aA*4294967296:=by omega
   rw [Nat.mul_comm 4294967296];omega
  have K8:=Nat.div_add_mod (le*4294967296+T.getD n 0) aA
  have G:=Nat.mod_lt (le*4294967296+T.getD n 0) c
  rw [oC]
  refine dR ((le*4294967296+T.getD n 0) / aA) rfl (by omega) ?_
  refine kK ((le*4294967296+T.getD n 0) / aA) rfl i ?_
  refine AF q b1 j (C:=n) (by omega) b.symm (by omega) rfl i fun K9 H e=>?_
  refine dR aA rfl (by omega) ?_
  refine⟨h,?_⟩
  rw [r0]
  refine jO rfl ?_
  refine cP ((n:Int) - 1) (by omega) (by omega) (by omega) ?_
  refine E _ _ _ (by omega) (by simp [b]) G H e ?_
  have P:(aK.set n ((le*4294967296+T.getD n 0) / aA)).drop n=(le*4294967296+T.getD n 0) / aA :: aK.drop (n+1):=by
   rw [iI (by simp;omega),List.drop_set_of_lt (by omega)]
   simp [List.getD,show n < aK.length by omega]
  rw [P,iI (T:=T) (by omega)]
  simp only [D.val]
  rw [Nat.add_mul,Nat.mul_assoc,Nat.mul_comm _ aA]
  generalize aA*((le*4294967296+T.getD n 0) / aA)=bD at *
  generalize (le*4294967296+T.getD n 0) % aA=aX at *
  generalize D.val (aK.drop (n+1))*aA=r at *
  omega
theorem C3{a:U}{L l aA:Nat}{T:List Nat}{Z:V}(s:cB b2 Z a L T)(d:l=T.length){I:Int}(e:I=(aA:Int))(f:aA < 4294967296)(b:0 < aA):
  aF mH.id #[.slice a l L,.int .u32 I] Z fun v A=>a4 Z A∧∃ c cW,v=.tuple #[.slice c (D.aE (D.val T / aA)).length cW,.int .u32 ((D.val T % aA:Nat):Int)]∧cN b2 Z A c cW (D.aE (D.val T / aA)):=by
 subst d;subst e
 have a0:=s.m0
 refine mH.ok ?_
 unfold mH.t mH.F.t
 refine hU (fun aB=>absurd aB (by omega)) fun _=>?_
 refine p9 b2 0 T.length T.length rfl n9 4 rfl (by decide) rfl rfl (by omega) (by omega) fun g q M=>?_
 unfold mH.a7.t
 refine cP ((T.length:Int) - 1) rfl (by omega) (by omega) ?_
 refine⟨T.length+1,?_⟩
 rw [Int.toNat_natCast]
 refine F3 s (Nat.le_refl _) f b (fun v A M O=>⟨M,O⟩) T.length 0 _ g (Nat.le_refl _) (by simp) b q M ?_
 rw [List.drop_length,List.drop_of_length_le (by simp)];simp [D.val]
theorem AG{M:Nat}(b:M < 32):2 ^ M < 4294967296:=Nat.pow_lt_pow_right (a:=2) (by decide) b
theorem AH{M:Nat}(b:M < 32){I:Int}(c:I=(M:Int)){p:Int→Prop}(g:p ((2 ^ M:Nat):Int)):0≤I∧a2 (jM .u32 1 I) p:=by
 subst c
 refine⟨by omega,⟨?_⟩⟩
 show p (IntKind.u32.wrap (1*2 ^ (min (M:Int).toNat 32)))
 have J:min (M:Int).toNat 32=M:=by omega
 have e:2 ^ M < 4294967296:=Nat.pow_lt_pow_right (a:=2) (by decide) b
 have d:(1:Int)*2 ^ M=((2 ^ M:Nat):Int):=by rw [Int.natCast_pow,Int.one_mul];rfl
 rw [J,d]
 have:IntKind.u32.wrap ((2 ^ M:Nat):Int)=((2 ^ M:Nat):Int):=by
  simp only [IntKind.wrap,IntKind.bits,IntKind.signed,Bool.false_and,Bool.false_eq_true,if_false]
  generalize 2 ^ M=z at *
  omega
 rw [this];exact g
theorem pF{n:Nat}(b:n < 9223372036854775808){I:Int}(a:I=(n:Int)){p:Int→Prop}(g:p ((n / 32:Nat):Int)):(32:Int) ≠ 0∧a2 (IntKind.i64.wrap (Int.tdiv I 32)) p:=by
 subst a
 refine⟨by decide,?_⟩
 have J:Int.tdiv (n:Int) 32=((n / 32:Nat):Int):=oC n 32
 rw [J];exact cP _ rfl (by omega) (by omega) g
theorem yB{n:Nat}{I:Int}(a:I=(n:Int)){p:Int→Prop}(g:p ((n % 32:Nat):Int)):(32:Int) ≠ 0∧a2 (Int.tmod I 32) p:=by
 subst a
 refine⟨by decide,?_⟩
 have J:Int.tmod (n:Int) 32=((n % 32:Nat):Int):=r0 n 32
 rw [J];exact⟨g⟩
theorem C4(n:Nat):2 ^ n=2 ^ (32*(n / 32))*2 ^ (n % 32):=by rw [← Nat.pow_add,Nat.div_add_mod]
theorem C5{a:U}{L l aL:Nat}{Z:V}(s:cB b2 Z a L (D.aE aL))(g:l=(D.aE aL).length){I:Int}{n:Nat}(h:I=(n:Int))(f:n < 9223372036854775808):
  aF nW.id #[.slice a l L,.int .i64 I] Z fun v A=>a4 Z A∧gC Z A v (aL / 2 ^ n):=by
 subst g;subst h
 have e:D.val (D.aE aL)=aL:=D.fA aL
 have a0:=s.m0
 refine nW.ok ?_
 unfold nW.t nW.F.t
 refine cD (fun aB=>?_) fun aB=>?_
 ·have:n=0:=by omega
  subst this
  refine bF (oD s rfl) fun v A ⟨c,O⟩=>?_
  refine O.elim fun d bX b=>⟨c,d,bX,?_,?_⟩
  ·rw [e];simp
  ·rw [e] at b;simpa using b
 ·refine pF f rfl ?_
  refine cD (fun aP=>?_) fun aP=>?_
  ·refine bF (oE (aA:=0) rfl (by decide) Z) fun v A ⟨c,O⟩=>?_
   refine O.elim fun d bX b=>⟨c,d,bX,?_,?_⟩
   all_goals
    have dE:=D.gF.mp (Nat.le_of_eq (rfl:(D.aE aL).length=_))
    have H:2 ^ (32*(D.aE aL).length)≤2 ^ n:=Nat.pow_le_pow_right (by decide) (by omega)
    have i:aL / 2 ^ n=0:=Nat.div_eq_of_lt (by omega)
    rw [i]
   exact b
  ·refine pF f rfl ?_
   refine Cn rfl (by omega) ?_
   have j:=s.drop (m:=L) (n / 32) (by omega) s.cap
   refine yB rfl ?_
   refine AH (M:=n % 32) (by omega) rfl ?_
   have E:2 ^ (n % 32) < 4294967296:=AG (show n % 32 < 32 by omega)
   refine bF (C3 j (by simp) rfl E (Nat.pow_pos (by decide))) fun v A ⟨c,d,bX,G,b⟩=>?_
   subst G
   have cO:D.val ((D.aE aL).drop (n / 32)) / 2 ^ (n % 32)=aL / 2 ^ n:=by
    rw [D.kW (D.p7 aL),e,Nat.div_div_eq_div_mul,← C4]
   rw [cO] at b ⊢
   refine dP rfl (aM (k rfl (aM (bI rfl (bP ?_)))))
   exact⟨c,_,_,rfl,b⟩
theorem F4{a:U}{L l aL:Nat}{Z:V}(s:cB b2 Z a L (D.aE aL))(K8:l=(D.aE aL).length){I:Int}{n:Nat}(K9:I=(n:Int))(c:n < 9223372036854775808)(Lg:(D.aE aL).length≤1099511627776):
  aF l0.id #[.slice a l L,.int .i64 I] Z fun v A=>a4 Z A∧gC Z A v (aL % 2 ^ n):=by
 subst K8;subst K9
 have j:D.val (D.aE aL)=aL:=D.fA aL
 have a0:=s.m0
 refine l0.ok ?_
 unfold l0.t l0.F.t
 refine cD (fun aB=>?_) fun aB=>?_
 ·have:n=0:=by omega
  subst this
  refine bF (oE (aA:=0) rfl (by decide) Z) fun v A ⟨d,O⟩=>?_
  refine O.elim fun e bX b=>⟨d,e,bX,?_,?_⟩
  ·simp [Nat.mod_one]
  ·simpa [Nat.mod_one] using b
 ·refine pF c rfl ?_
  refine cD (fun aP=>?_) fun aP=>?_
  ·refine bF (oD s rfl) fun v A ⟨d,O⟩=>?_
   have dE:=D.gF.mp (Nat.le_of_eq (rfl:(D.aE aL).length=_))
   have La:2 ^ (32*(D.aE aL).length)≤2 ^ n:=Nat.pow_le_pow_right (by decide) (by omega)
   have H:aL % 2 ^ n=aL:=Nat.mod_eq_of_lt (by omega)
   refine O.elim fun e bX b=>⟨d,e,bX,?_,?_⟩
   ·rw [j,H]
   ·rw [j] at b;rw [H];exact b
  ·have P:n / 32 < (D.aE aL).length:=by omega
   refine pF c rfl ?_
   refine u3 rfl (by have:=s.cap;omega) ?_
   have K5:=s.take (n / 32)
   have K6:((D.aE aL).take (n / 32)).length=n / 32:=by rw [List.length_take];omega
   refine bF (oD K5 K6.symm) fun v Lb ⟨d,O⟩=>?_
   refine O.elim fun e bX b=>?_
   have Lh:(D.aE (D.val ((D.aE aL).take (n / 32)))).length≤n / 32:=by
    rw [D.mC K5.ok]
    have:=u9 ((D.aE aL).take (n / 32));omega
   have Li:=s.lC (n / 32)
   have Lc:∀ (M:Nat) (aK:List Nat) (g:U) (h:Nat) (f:V),aK.length+M=n / 32→D.val aK=D.val ((D.aE aL).take (n / 32))→cN b2 Z f g h aK→a4 Z f→
     l0.cZ.t (fun v A=>a4 Z A∧gC Z A v (aL % 2 ^ n)) (M+1) a (D.aE aL).length L (n:Int) g aK.length h f:=by
    intro M
    induction M with
    | zero=>
     intro aK g h f Ld cO E i
     unfold l0.cZ.t l0.cA.t
     refine pF c rfl ?_
     refine cD (fun aP=>absurd aP (by omega)) fun _=>?_
     unfold l0.aC.t
     refine pF c rfl ?_
     refine iJ (s.B i) (C:=n / 32) rfl rfl P ?_
     refine yB rfl ?_
     refine AH (M:=n % 32) (by omega) rfl ?_
     have Lj:0 < 2 ^ (n % 32):=Nat.pow_pos (by decide)
     refine⟨by omega,?_⟩
     rw [r0]
     refine jO rfl ?_
     have La:(D.aE aL).getD (n / 32) 0 % 2 ^ (n % 32)≤(D.aE aL).getD (n / 32) 0:=Nat.mod_le _ _
     refine r1 E i rfl rfl (by omega) (by omega) (by omega) fun K7 cW A G eA _=>?_
     refine q5 (Y:=fun v A=>a4 Z A∧gC Z A v (aL % 2 ^ n)) G (by simp) ?_ eA fun v A M O=>⟨M,O⟩
     have Le:aK.length=n / 32:=by omega
     rw [D.hR,Le,cO]
     have aU:=D.Cy (D.p7 aL) (m:=n / 32) (M:=n % 32) P (by omega)
     rw [j,Nat.div_add_mod,D.hR,K6] at aU
     exact aU
    | succ M Lf=>
     intro aK g h f Ld cO E i
     unfold l0.cZ.t l0.cA.t
     refine pF c rfl ?_
     refine cD (fun _=>?_) fun aP=>absurd (by omega) aP
     refine r1 (n:=0) E i rfl rfl (by decide) (by omega) (by omega) fun K7 cW A G eA _=>?_
     have:=Lf (aK ++ [0]) K7 cW A (by simp;omega) (by rw [D.hR,cO];simp [D.val]) G eA
     simpa using this
   refine⟨n / 32 - (D.aE (D.val ((D.aE aL).take (n / 32)))).length+1,?_⟩
   exact Lc _ _ e bX Lb (by omega) (by rw [D.fA]) b d
theorem C6{aK T u:List Nat}{Q I aN t q fM:Nat}(a:aK.length=Q)(Z:I+4294967296*fM=t+aN+q)(bE:D.val aK+D.val (u.take Q)=D.val (T.take Q)+q*2 ^ (32*Q))(b:D.val (T.take (Q+1))=D.val (T.take Q)+2 ^ (32*Q)*I)(c:D.val (u.take (Q+1))=D.val (u.take Q)+2 ^ (32*Q)*aN):
  D.val (aK ++ [t])+D.val (u.take (Q+1))=D.val (T.take (Q+1))+fM*2 ^ (32*(Q+1)):=by
 rw [D.hR,a,b,c,D.jY]
 simp only [D.val,Nat.mul_zero,Nat.add_zero]
 generalize 2 ^ (32*Q)=P at *
 have J:P*(I+4294967296*fM)=P*(t+aN+q):=by rw [Z]
 have d:P*(I+4294967296*fM)=P*I+fM*(4294967296*P):=by rw [Nat.mul_add,Nat.mul_left_comm,Nat.mul_comm P fM,Nat.mul_left_comm]
 have e:P*(t+aN+q)=P*t+P*aN+q*P:=by rw [Nat.mul_add,Nat.mul_add,Nat.mul_comm P q]
 omega
theorem vF{T:List Nat}{Q:Nat}:D.val (T.take (Q+1))=D.val (T.take Q)+2 ^ (32*Q)*T.getD Q 0:=by
 by_cases Z:Q < T.length
 ·rw [lX Z,D.hR,List.length_take,Nat.min_eq_left (by omega)];simp [D.val]
 ·rw [List.take_of_length_le (by omega),List.take_of_length_le (by omega)]
  simp [List.getD,show T.length≤Q by omega]
theorem C7{Y:K}{a N:U}{L bH M m:Nat}{T u:List Nat}{aB:V}(j:m=T.length)(Q I take:Nat)(aK:List Nat)(b:U)(Z:V)(aN:Int)(l:aN=(take:Int))(n:I=T.getD Q 0)(Ll:I < 4294967296)(Lm:take≤4294967296)(bE:Q < m)(Ln:m≤70368744177656)(s:cB b2 Z a L T)(g:cN b2 aB Z b m aK)(b1:a4 aB Z)(c:aK.length=Q)
  (i:∀ (t q:Nat) b Z,I+4294967296*q=t+take→q≤1→t < 4294967296→cN b2 aB Z b m (aK ++ [t])→a4 aB Z→iT.bG.t Y M a T.length L N u.length bH b (Q+1) m (q:Int) ((Q+1:Nat):Int) Z) :
  cL a T.length (Q:Int) 1 fun v=>e7 Z v fun D=>aV .u32 D fun E=>a2 (IntKind.u64.wrap E) fun d=>
   cond (decide (d < aN)) (a2 (IntKind.u64.wrap (d+4294967296)) fun G=>a2 (IntKind.u64.wrap (G - aN)) fun H=>a2 (IntKind.u32.wrap H) fun P=>b4 Z 82 [.int .u32 P] fun K5 K6=>gW K6 82 hW b Q m (.slice (some K5) 1 1) fun K7 K8 K9 La=>a2 (IntKind.i64.wrap ((Q:Int)+1)) fun Lb=>iT.bG.t Y M a T.length L N u.length bH K7 K8 K9 1 Lb La)
    (a2 (IntKind.u64.wrap (d - aN)) fun Lc=>a2 (IntKind.u32.wrap Lc) fun Ld=>b4 Z 82 [.int .u32 Ld] fun Le Lf=>gW Lf 82 hW b Q m (.slice (some Le) 1 1) fun Lg Lh Li Lj=>a2 (IntKind.i64.wrap ((Q:Int)+1)) fun Lk=>iT.bG.t Y M a T.length L N u.length bH Lg Lh Li 0 Lk Lj):=by
 subst l;subst j
 refine iJ s (C:=Q) rfl rfl bE ?_
 rw [← n]
 refine dR I rfl (by omega) ?_
 refine cD (fun aP=>?_) fun aP=>?_
 ·refine dR (I+4294967296) (by omega) (by omega) ?_
  refine dR (I+4294967296 - take) (by omega) (by omega) ?_
  refine kK (I+4294967296 - take) rfl (by omega) ?_
  refine r1 g b1 c.symm rfl (by omega) (by omega) (by omega) fun e cW A f eA h=>?_
  obtain rfl:=h (by omega)
  refine cP ((Q+1:Nat):Int) (by omega) (by omega) (by omega) ?_
  rw [c]
  exact i _ 1 e A (by omega) (by omega) (by omega) f eA
 ·refine dR (I - take) (by omega) (by omega) ?_
  refine kK (I - take) rfl (by omega) ?_
  refine r1 g b1 c.symm rfl (by omega) (by omega) (by omega) fun e cW A f eA h=>?_
  obtain rfl:=h (by omega)
  refine cP ((Q+1:Nat):Int) (by omega) (by omega) (by omega) ?_
  rw [c]
  exact i _ 0 e A (by omega) (by omega) (by omega) f eA
theorem F5{Y:K}{a N:U}{L bH:Nat}{T u:List Nat}{aB:V}(s:cB b2 aB a L T)(O:cB b2 aB N bH u)(P:D.val u≤D.val T)(K5:u.length≤T.length)(l:∀ v A,a4 aB A→gC aB A v (D.val T - D.val u)→Y v A):
  ∀ (M Q b:Nat) (aK:List Nat) (d:U) (Z:V),Q+M=T.length→aK.length=Q→b≤1→D.val aK+D.val (u.take Q)=D.val (T.take Q)+b*2 ^ (32*Q)→cN b2 aB Z d T.length aK→a4 aB Z→
   iT.bG.t Y (M+1) a T.length L N u.length bH d Q T.length (b:Int) (Q:Int) Z:=by
 have a0:=s.m0
 intro M
 induction M with
 | zero=>
  intro Q b aK d Z bE c m J g b1
  unfold iT.bG.t iT.b0.t
  refine cD (fun aP=>absurd aP (by omega)) fun _=>?_
  unfold iT.aC.t
  refine q5 g c.symm ?_ b1 l
  rw [List.take_of_length_le (by omega),List.take_of_length_le (by omega)] at J
  have dE:=D.hS (T:=aK) g.rd.ok
  rw [c] at dE
  have:b=0:=by
   rcases Nat.lt_or_ge b 1 with n | n
   ·omega
   ·have:b=1:=by omega
    subst this;omega
  subst this
  omega
 | succ M i=>
  intro Q b aK d Z bE c m J g b1
  have j:=s.lC Q
  have K6:=O.lC Q
  unfold iT.bG.t iT.b0.t
  refine cD (fun _=>?_) fun aP=>absurd (by omega) aP
  refine cD (fun aP=>?_) fun aP=>?_
  ·refine iJ (O.B b1) (C:=Q) rfl rfl (by omega) ?_
   refine dR (u.getD Q 0) rfl (by omega) ?_
   refine dR (u.getD Q 0+b) (by omega) (by omega) ?_
   exact C7 rfl Q (T.getD Q 0) (u.getD Q 0+b) aK d Z _ rfl rfl j (by omega) (by omega) a0 (s.B b1) g b1 c fun t q e A E f G h eA=>i (Q+1) q _ e A (by omega) (by simp [c]) f (C6 c (by omega) J vF vF) h eA
  ·have H:u.getD Q 0=0:=by simp [List.getD,show u.length≤Q by omega]
   exact C7 rfl Q (T.getD Q 0) b aK d Z _ rfl rfl j (by omega) (by omega) a0 (s.B b1) g b1 c fun t q e A E f G h eA=>i (Q+1) q _ e A (by omega) (by simp [c]) f (C6 c (by omega) J vF (aN:=0) (by rw [vF,H])) h eA
theorem F6{a N:U}{L bH l n aL bA:Nat}{Z:V}(s:cB b2 Z a L (D.aE aL))(O:cB b2 Z N bH (D.aE bA))(c:l=(D.aE aL).length)(d:n=(D.aE bA).length):
  aF iT.id #[.slice a l L,.slice N n bH] Z fun v A=>a4 Z A∧gC Z A v (aL - bA):=by
 subst c;subst d
 have a0:=s.m0
 refine iT.ok ?_
 unfold iT.t iT.F.t
 refine bF (AE s O rfl rfl) fun v A ⟨e,f⟩=>?_
 subst e;subst f
 refine bI rfl ?_
 refine cD (fun aP=>?_) fun aP=>?_
 ·refine bF (oE (aA:=0) rfl (by decide) A) fun v b ⟨g,s2⟩=>?_
  have h:aL - bA=0:=by unfold e6 at aP;split at aP <;> (try split at aP) <;> omega
  rw [h]
  refine s2.elim fun i bX j=>⟨g,i,bX,rfl,j⟩
 ·have dE:bA < aL:=by unfold e6 at aP;split at aP <;> (try split at aP) <;> omega
  have m:(D.aE bA).length≤(D.aE aL).length:=D.mD (Nat.le_of_lt dE)
  refine p9 b2 0 0 (D.aE aL).length rfl n9 4 rfl (by decide) rfl rfl (by omega) (by omega) fun b q M=>?_
  unfold iT.a7.t
  refine⟨(D.aE aL).length+1,?_⟩
  rw [Int.toNat_natCast]
  refine F5 s O (by rw [D.fA,D.fA];omega) m (fun v G E wH=>⟨E,by rw [D.fA,D.fA] at wH;exact wH⟩) _ 0 0 [] _ b (by omega) rfl (by omega) (by simp [D.val]) ?_ M
  ·exact dI.hV (T:=[]) (rest:=List.replicate (D.aE aL).length 0) (by simpa using q) (Nat.le_refl _) (by simp) (by simp) (by simp)
theorem F7{Y:K}{a:U}{L aA dF m:Nat}{T:List Nat}{aB:V}(s:cB b2 aB a L T)(i:aA < 4294967296)(E:m=T.length+1)(G:m≤70368744177656)(j:∀ v A,a4 aB A→gC aB A v dF→Y v A):
  ∀ (M Q b:Nat) (aK:List Nat) (e:U) (Z:V),Q+M=T.length→aK.length=Q→b < 4294967296→D.val aK+(D.val (T.drop Q)*aA+b)*2 ^ (32*Q)=dF→cN b2 aB Z e m aK→a4 aB Z→
   m4.bG.t Y (M+1) a T.length L (aA:Int) e Q m (b:Int) (Q:Int) Z:=by
 intro M
 induction M with
 | zero=>
  intro Q b aK e Z bE c d J g b1
  unfold m4.bG.t m4.b0.t
  refine cD (fun aP=>absurd aP (by omega)) fun _=>?_
  unfold m4.aC.t
  refine kK b rfl d ?_
  refine r1 g b1 c.symm rfl d (by omega) (by omega) fun h cW A f eA d=>?_
  refine q5 f (by simp) ?_ eA j
  rw [List.drop_of_length_le (by omega)] at J
  rw [D.hR,c,← J]
  simp [D.val,Nat.mul_comm]
 | succ M l=>
  intro Q b aK e Z bE c d J g b1
  have n:=s.lC Q
  have H:=tQ n i
  unfold m4.bG.t m4.b0.t
  refine cD (fun _=>?_) fun aP=>absurd (by omega) aP
  refine iJ (s.B b1) (C:=Q) rfl rfl (by omega) ?_
  refine dR (T.getD Q 0) rfl (by omega) ?_
  refine dR aA rfl (by omega) ?_
  have em:((T.getD Q 0:Nat):Int)*(aA:Int)=((T.getD Q 0*aA:Nat):Int):=(Int.natCast_mul _ _).symm
  rw [em]
  have cO:D.val (T.drop Q)*aA=T.getD Q 0*aA+4294967296*(D.val (T.drop (Q+1))*aA):=by
   rw [D.j7,Nat.add_mul,Nat.mul_assoc]
  rw [cO] at J
  generalize T.getD Q 0*aA=z at *
  refine dR z rfl (by omega) ?_
  refine dR (b+z) (by omega) (by omega) ?_
  refine m3 rfl (by omega) ?_
  refine kK ((b+z) % 4294967296) rfl (by omega) ?_
  refine r1 g b1 c.symm rfl (by omega) (by omega) (by omega) fun h cW A f eA d=>?_
  obtain rfl:=d (by omega)
  refine q4 rfl ?_
  refine cP ((Q+1:Nat):Int) (by omega) (by omega) (by omega) ?_
  rw [c]
  refine l (Q+1) _ _ h A (by omega) (by simp [c]) (by omega) ?_ f eA
  rw [← J]
  exact D.CP (O:=z) (t:=(b+z) % 4294967296) (cW:=(b+z) / 4294967296) c rfl (by omega)
theorem F8{a:U}{L l aA b3:Nat}{T:List Nat}{Z:V}(s:cB b2 Z a L T)(b:l=T.length){I aN:Int}(c:I=(aA:Int))(d:aN=(b3:Int))(e:aA < 4294967296)(f:b3 < 4294967296)(h:T.length≤1099511627777):
  aF m4.id #[.slice a l L,.int .u32 I,.int .u32 aN] Z fun v A=>a4 Z A∧gC Z A v (D.val T*aA+b3):=by
 subst b;subst c;subst d
 refine m4.ok ?_
 unfold m4.t m4.F.t
 refine cP ((T.length+1:Nat):Int) (by omega) (by omega) (by omega) ?_
 refine p9 b2 0 0 (T.length+1) rfl n9 4 rfl (by decide) rfl rfl (by omega) (by omega) fun g q M=>?_
 refine dR b3 rfl (by omega) ?_
 unfold m4.a7.t
 refine⟨T.length+1,?_⟩
 rw [Int.toNat_natCast]
 refine F7 (dF:=D.val T*aA+b3) s e rfl (by omega) (fun v A M O=>⟨M,O⟩) _ 0 b3 [] _ g (by omega) rfl f ?_ ?_ M
 ·simp [D.val]
 ·exact dI.hV (T:=[]) (rest:=List.replicate (T.length+1) 0) (by simpa using q) (Nat.le_refl _) (by simp) (by simp) (by simp)
theorem C8{aL aA M:Nat}(a:(D.aE aL).length≤M)(b:aA < 4294967296):(D.aE (aL*aA)).length≤M+1:=by
 rw [D.gF] at a ⊢
 rw [D.jY]
 rcases Nat.eq_zero_or_pos aA with Z | Z
 ·subst Z;simp [Nat.pow_pos]
 ·calc aL*aA < 2 ^ (32*M)*aA:=Nat.mul_lt_mul_of_pos_right a Z
   _≤2 ^ (32*M)*4294967296:=Nat.mul_le_mul_left _ (Nat.le_of_lt b)
   _=4294967296*2 ^ (32*M):=Nat.mul_comm _ _
theorem yC{a:U}{L l aL:Nat}{Z:V}(s:cB b2 Z a L (D.aE aL))(i:l=(D.aE aL).length){I:Int}{n:Nat}(j:I=(n:Int))(K7:n≤35184372088832)(K8:(D.aE aL).length≤1099511627776):
  aF lF.id #[.slice a l L,.int .i64 I] Z fun v A=>a4 Z A∧gC Z A v (aL*2 ^ n):=by
 subst i;subst j
 have c:D.val (D.aE aL)=aL:=D.fA aL
 refine lF.ok ?_
 unfold lF.t lF.F.t
 have e:∀ bA,aL=bA→aF g5.id #[.slice a (D.aE aL).length L] Z fun v A=>aG v fun a l L=>(fun v A=>a4 Z A∧gC Z A v bA) (.slice a l L) A:=by
  intro bA J
  refine bF (oD s rfl) fun v A ⟨m,O⟩=>?_
  rw [c,J] at O
  refine O.elim fun f bX d=>⟨m,f,bX,rfl,d⟩
 refine cD (fun aB=>?_) fun aB=>?_
 ·have:n=0:=by omega
  subst this;exact e _ (by simp)
 ·refine hU (fun a0=>?_) fun a0=>?_
  ·refine e _ ?_
   have J:D.aE aL=[]:=List.length_eq_zero_iff.mp (by omega)
   have:aL=0:=by rw [← c,J];rfl
   subst this;simp
  ·unfold lF.aC.t
   refine pF (by omega) rfl ?_
   refine pF (by omega) rfl ?_
   refine cP ((n / 32+(D.aE aL).length:Nat):Int) (by omega) (by omega) (by omega) ?_
   refine cP ((n / 32+(D.aE aL).length+1:Nat):Int) (by omega) (by omega) (by omega) ?_
   refine p9 b2 0 (n / 32) (n / 32+(D.aE aL).length+1) rfl n9 4 rfl (by decide) rfl rfl (by omega) (by omega) fun E q M=>?_
   refine yB rfl ?_
   refine AH (M:=n % 32) (by omega) rfl ?_
   have g:2 ^ (n % 32) < 4294967296:=AG (show n % 32 < 32 by omega)
   refine bF (F8 (b3:=0) (s.B M) rfl rfl rfl g (by decide) (by omega)) fun v K9 ⟨b,O⟩=>?_
   rw [c,Nat.add_zero] at O
   refine O.elim fun f bX d=>?_
   have La:=C8 (Nat.le_refl (D.aE aL).length) g
   have h:cN b2 Z E (some ⟨Z.size,0,none⟩) (n / 32+(D.aE aL).length+1) (List.replicate (n / 32) 0):=by
    refine dI.hV (rest:=List.replicate ((D.aE aL).length+1) 0) ?_ (Nat.le_refl _) ?_ (by simp;omega) (by simp;omega)
    ·rw [List.replicate_append_replicate,show n / 32+((D.aE aL).length+1)=n / 32+(D.aE aL).length+1 by omega];exact q
    ·simp;show n / 32≤70368744177656;omega
   rw [Int.toNat_natCast,Int.toNat_natCast]
   refine CG (h.B b) (Nat.le_trans M.le b.le) d.rd (by simp) rfl rfl 0 rfl n9 4 rfl (by decide) ?_ ?_ fun Lb Lc G H P _=>?_
   ·simp only [List.length_replicate];show n / 32+_≤70368744177656;omega
   ·intro K5;simp only [List.length_replicate] at K5;omega
   ·have K6:a4 Z G:=P.B (M.trans b) (h.B b).Ax
    refine q5 (Y:=fun v A=>a4 Z A∧gC Z A v (aL*2 ^ n)) H (by simp) ?_ K6 fun v A M O=>⟨M,O⟩
    rw [D.hR,D.tM,D.fA,List.length_replicate,C4 n,Nat.zero_add,Nat.mul_left_comm]
theorem F9{aL M m:Nat}(a:M < 32):aL / 2 ^ (32*m+M) % 2=(aL / 2 ^ (32*m) % 4294967296) / 2 ^ M % 2:=by
 rw [Nat.pow_add,← Nat.div_div_eq_div_mul]
 generalize aL / 2 ^ (32*m)=bA
 have J:(4294967296:Nat)=2 ^ M*(2*2 ^ (31 - M)):=by
  rw [← Nat.pow_succ',← Nat.pow_add,show M+(31 - M+1)=32 by omega]
 rw [J,Nat.mod_mul,Nat.add_comm,Nat.mul_add_div (Nat.pow_pos (by decide)),Nat.div_eq_of_lt (Nat.mod_lt _ (Nat.pow_pos (by decide))),Nat.add_zero,Nat.mod_mul_right_mod]
theorem D.Ga{T:List Nat}(a:D.Words T)(m:Nat):T.getD m 0=D.val T / 2 ^ (32*m) % 4294967296:=by
 rw [← D.kW a,D.j7,Nat.add_mul_mod_self_left]
 exact(Nat.mod_eq_of_lt (nT (by decide) a m)).symm
theorem Gb{I aN:Int}{n M:Nat}(a:I=(n:Int))(b:aN=(M:Int))(d:M < 32){p:Int→Prop}(g:p ((n / 2 ^ M:Nat):Int)):0≤aN∧a2 (gL .u32 I aN) p:=by
 subst a;subst b
 refine⟨by omega,⟨?_⟩⟩
 show p (Int.fdiv (n:Int) (2 ^ (min (M:Int).toNat 32)))
 have J:min (M:Int).toNat 32=M:=by omega
 rw [J]
 have c:Int.fdiv (n:Int) (2 ^ M)=((n / 2 ^ M:Nat):Int):=by
  rw [Int.fdiv_eq_ediv_of_nonneg _ (Int.le_of_lt (Int.pow_pos (by decide)))]
  norm_cast
 rw [c];exact g
theorem Gc{I:Int}{n:Nat}(a:I=(n:Int))(d:n < 4294967296){p:Int→Prop}(g:p ((n % 2:Nat):Int)):a2 (iG .u32 I 1) p:=by
 subst a
 refine⟨?_⟩
 show p (IntKind.u32.wrap (BitVec.ofInt 32 (n:Int) &&& BitVec.ofInt 32 1).toNat)
 have J:(BitVec.ofInt 32 (n:Int) &&& BitVec.ofInt 32 1).toNat=n % 2:=by
  have b:BitVec.ofInt 32 (1:Int)=BitVec.ofNat 32 1:=rfl
  rw [BitVec.ofInt_natCast,b,BitVec.toNat_and,BitVec.toNat_ofNat,BitVec.toNat_ofNat,Nat.mod_eq_of_lt (by omega)]
  exact Nat.and_two_pow_sub_one_eq_mod n 1
 have dE:n % 2 < 2:=Nat.mod_lt _ (by decide)
 have c:IntKind.u32.wrap ((n % 2:Nat):Int)=((n % 2:Nat):Int):=by
  simp only [IntKind.wrap,IntKind.bits,IntKind.signed,Bool.false_and,Bool.false_eq_true,if_false];omega
 rw [J,c];exact g
def jQ(aL:Nat)(Q:Int):Int:=if Q < 0 then 0 else((aL / 2 ^ Q.toNat % 2:Nat):Int)
theorem Gd{a:U}{L l aL:Nat}{Z:V}(s:cB b2 Z a L (D.aE aL))(b:l=(D.aE aL).length){I:Int}(c:In .i64 I):
  aF pG.id #[.slice a l L,.int .i64 I] Z fun v A=>A=Z∧v=.int .i64 (jQ aL I):=by
 subst b
 rw [mF] at c
 refine pG.ok ?_
 unfold pG.t pG.F.t
 refine cD (fun aB=>⟨rfl,by unfold jQ;rw [if_pos aB]⟩) fun aB=>?_
 obtain⟨n,rfl⟩:∃ n:Nat,I=(n:Int):=⟨I.toNat,by omega⟩
 unfold jQ
 rw [if_neg aB,Int.toNat_natCast]
 refine pF (by omega) rfl ?_
 have d:D.val (D.aE aL)=aL:=D.fA aL
 have aU:aL / 2 ^ n % 2=(D.aE aL).getD (n / 32) 0 / 2 ^ (n % 32) % 2:=by
  have:=F9 (aL:=aL) (m:=n / 32) (M:=n % 32) (Nat.mod_lt _ (by decide))
  rw [Nat.div_add_mod] at this
  rw [this,D.Ga (D.p7 aL),d]
 rw [aU]
 refine cD (fun aP=>⟨rfl,?_⟩) fun aP=>?_
 ·have:(D.aE aL).getD (n / 32) 0=0:=by simp [List.getD,show(D.aE aL).length≤n / 32 by omega]
  rw [this];simp
 ·unfold pG.aC.t
  refine pF (by omega) rfl ?_
  refine iJ s (C:=n / 32) rfl rfl (by omega) ?_
  have e:=s.lC (n / 32)
  refine yB rfl ?_
  refine Gb rfl rfl (by omega) ?_
  have f:(D.aE aL).getD (n / 32) 0 / 2 ^ (n % 32)≤(D.aE aL).getD (n / 32) 0:=Nat.div_le_self _ _
  refine Gc rfl (by omega) ?_
  refine cP (((D.aE aL).getD (n / 32) 0 / 2 ^ (n % 32) % 2:Nat):Int) rfl (by omega) (by omega) ?_
  exact⟨rfl,rfl⟩
def vG(aL:Nat):Int × Bool:=if aL < 18446744073709551616 then((aL:Int),true) else(0,false)
theorem Ge{aL:Nat}(aB:aL ≠ 0)(Z:aL < 18446744073709551616):aE aL=[aL]:=by
 rw [lA aB,show aL / 18446744073709551616=0 by omega,dM,Nat.mod_eq_of_lt Z]
theorem Gf{a:U}{L l aL:Nat}{Z:V}(s:cB b2 Z a L (D.aE aL))(d:l=(D.aE aL).length):
  aF qF.id #[.slice a l L] Z fun v A=>a4 Z A∧s2 (c3 .u64) h0 Z A v (vG aL):=by
 refine qF.ok ?_
 unfold qF.t qF.F.t
 refine bF (CZ s d) fun v a0 ⟨b,E,G,J,e⟩=>?_
 subst J
 refine k rfl ?_
 have f:=@gF aL 0
 have g:=@gF aL 1
 have h:(2:Nat) ^ (64*1)=18446744073709551616:=by decide
 have i:(2:Nat) ^ (64*0)=1:=by decide
 rw [h] at g;rw [i] at f
 unfold vG
 refine hU (fun aP=>⟨b,_,_,rfl,⟨?_,?_⟩,?_⟩) fun aP=>?_
 ·have:aL=0:=by omega
  subst this;rfl
 ·rw [pB];split <;> simp <;> omega
 ·have:aL=0:=by omega
  subst this;rfl
 ·refine hU (fun j=>?_) fun j=>⟨b,_,_,rfl,⟨?_,?_⟩,?_⟩
  ·have m:aL ≠ 0:=by omega
   have c:aL < 18446744073709551616:=by omega
   have n:=Ge m c
   refine wD e.rd (C:=0) rfl rfl (by omega) ?_
   rw [if_pos c,n]
   exact⟨b,_,_,rfl,⟨rfl,by rw [pB];omega⟩,rfl⟩
  ·rw [if_neg (by omega)]
  ·rw [if_neg (by omega)];decide
  ·rw [if_neg (by omega)];rfl
theorem yD{Z:V}{o off l:Nat}{bD bV aX:List Nat}(q:dI b2 Z o (bD ++ (bV ++ aX)))(a:bD.length=off)(b:l=bV.length)(c:bV.length≤70368744177656){Q:Int}{C:Nat}(bE:Q=(C:Int))(d:C < bV.length){p:Int→Prop}
  (g:p (bV.getD C 0:Nat)):cL (some ⟨o,off,none⟩) l Q 1 fun o=>e7 Z o fun v=>aV .u32 v p:=by
 have s:=q.Au (off:=off) (n:=bV.length) (L:=bV.length) c (by simp;omega) (Nat.le_refl _)
 have J:((bD ++ (bV ++ aX)).drop off).take bV.length=bV:=by rw [← a,List.drop_left,List.take_left]
 rw [J] at s
 exact iJ s bE b d g
def pH(aU:V)(o:Nat)(a0 Z:V):Prop:=a4 aU Z∧a1 o a0 Z
theorem yE{Z aU a0:V}{o off l:Nat}{bD bV aX:List Nat}(q:dI b2 Z o (bD ++ (bV ++ aX)))(c:bD.length=off)(i:l=bV.length)(b1:pH aU o a0 Z)(d:aU.size≤o){Q:Int}{C:Nat}(bE:Q=(C:Int))(e:C < bV.length){I:Int}{v:Nat}(f:I=(v:Int))(h:v < 4294967296){p:V→Prop}
  (g:∀ A,dI b2 A o (bD ++ (bV.set C v ++ aX))→pH aU o a0 A→p A):cL (some ⟨o,off,none⟩) l Q 1 fun o=>aW Z o (.int .u32 I) p:=by
 refine Av q bE (by omega) (by simp;omega) (by rw [f];rfl) h fun a b=>?_
 refine g _ ?_ ⟨b.B b1.1 d,b1.2.trans b⟩
 have J:(bD ++ (bV ++ aX)).set (off+C) v=bD ++ (bV.set C v ++ aX):=by
  rw [← c,List.set_append_right _ _ (by omega),Nat.add_sub_cancel_left,List.set_append_left _ _ e]
 rw [J] at a;exact a
theorem C9{bV u:List Nat}{C aA dL L q cW fM t:Nat}(a:C < bV.length)(a0:L+aA*u.getD C 0+q+t=bV.getD C 0+4294967296*(cW+fM))(J:D.val bV+aA*D.val (u.take C)=dL+(L+q)*2 ^ (32*C)):
  D.val (bV.set C t)+aA*D.val (u.take (C+1))=dL+(cW+fM)*2 ^ (32*(C+1)):=by
 have aY:=D.mE (aK:=bV) (C:=C) (v:=t) a
 rw [vF,D.jY]
 generalize 2 ^ (32*C)=P at *
 generalize bV.getD C 0=b3 at *
 have b:(L+aA*u.getD C 0+q+t)*P=(b3+4294967296*(cW+fM))*P:=by rw [a0]
 have c:(L+aA*u.getD C 0+q+t)*P=(L+q)*P+aA*(P*u.getD C 0)+t*P:=by
  have:aA*(P*u.getD C 0)=aA*u.getD C 0*P:=by rw [Nat.mul_comm P,Nat.mul_assoc]
  rw [this,← Nat.add_mul,← Nat.add_mul];congr 1;omega
 have d:(b3+4294967296*(cW+fM))*P=b3*P+(cW+fM)*(4294967296*P):=by
  rw [Nat.add_mul,Nat.mul_comm 4294967296,Nat.mul_assoc]
 rw [Nat.mul_add]
 omega
theorem Gg{Y:K}{N:U}{L bH n o off aA dL:Nat}{u bD aX:List Nat}{aU a0:V}(O:cB b2 aU N bH u)(K8:u.length=n)(f:bD.length=off)(E:aU.size≤o)(K9:aA < 4294967296)(Lv:n < 1099511627776)
  (g:∀ Z q bV,q≤1→bV.length=n+1→dI b2 Z o (bD ++ (bV ++ aX))→pH aU o a0 Z→D.val bV+aA*D.val u=dL+q*2 ^ (32*(n+1))→(∃ m,hJ.cZ.t Y m (some ⟨o,off,none⟩) (n+1) L N n bH (n:Int) (aA:Int) (q:Int) Z)) :
  ∀ (M C a q:Nat) (bV:List Nat) (Z:V),C+M=n+1→bV.length=n+1→a < 4294967296→q≤1→(C=n+1→a=0)→dI b2 Z o (bD ++ (bV ++ aX))→pH aU o a0 Z→D.val bV+aA*D.val (u.take C)=dL+(a+q)*2 ^ (32*C)→
   hJ.kX.t Y (M+1) (some ⟨o,off,none⟩) (n+1) L N n bH (n:Int) (aA:Int) (a:Int) (q:Int) (C:Int) Z:=by
 intro M
 induction M with
 | zero=>
  intro C a q bV Z La c Lb G H d b1 J
  unfold hJ.kX.t hJ.r2.t
  refine cD (fun aP=>absurd aP (by omega)) fun _=>?_
  have Lc:=H (by omega)
  subst Lc
  rw [List.take_of_length_le (by omega),Nat.zero_add,show C=n+1 by omega] at J
  exact g Z q bV G c d b1 J
 | succ M P=>
  intro C a q bV Z La c Lb G H d b1 J
  have Lw:bV.getD C 0 < 4294967296:=by
   refine nT (by decide) (fun I Ld=>d.ok I ?_) C
   exact List.mem_append_right _ (List.mem_append_left _ Ld)
  have Le:bV.length≤70368744177656:=by omega
  have step:∀ (z take b:Nat),z=aA*u.getD C 0→take < 4294967296→a+z=take+4294967296*b→b < 4294967296→(C=n→b=0)→
    cL (some ⟨o,off,none⟩) (n+1) (C:Int) 1 fun Lf=>e7 Z Lf fun Lg=>aV .u32 Lg fun Lh=>a2 (IntKind.u64.wrap Lh) fun h=>
     cond (decide (h < ((take+q:Nat):Int))) (a2 (IntKind.u64.wrap (h+4294967296)) fun Li=>a2 (IntKind.u64.wrap (Li - ((take+q:Nat):Int))) fun Lj=>a2 (IntKind.u32.wrap Lj) fun Lk=>cL (some ⟨o,off,none⟩) (n+1) (C:Int) 1 fun Ll=>aW Z Ll (.int .u32 Lk) fun Lm=>a2 (IntKind.i64.wrap ((C:Int)+1)) fun Ln=>hJ.kX.t Y (M+1) (some ⟨o,off,none⟩) (n+1) L N n bH (n:Int) (aA:Int) (b:Int) 1 Ln Lm)
      (a2 (IntKind.u64.wrap (h - ((take+q:Nat):Int))) fun Lo=>a2 (IntKind.u32.wrap Lo) fun Lp=>cL (some ⟨o,off,none⟩) (n+1) (C:Int) 1 fun Lq=>aW Z Lq (.int .u32 Lp) fun Lr=>a2 (IntKind.i64.wrap ((C:Int)+1)) fun Ls=>hJ.kX.t Y (M+1) (some ⟨o,off,none⟩) (n+1) L N n bH (n:Int) (aA:Int) (b:Int) 0 Ls Lr):=by
   intro z take b e Lx Ly K5 K6
   refine yD d f c.symm Le rfl (by omega) ?_
   refine dR (bV.getD C 0) rfl (by omega) ?_
   refine cD (fun aP=>?_) fun aP=>?_
   ·refine dR (bV.getD C 0+4294967296) (by omega) (by omega) ?_
    refine dR (bV.getD C 0+4294967296 - (take+q)) (by omega) (by omega) ?_
    refine kK (bV.getD C 0+4294967296 - (take+q)) rfl (by omega) ?_
    refine yE d f c.symm b1 E rfl (by omega) rfl (by omega) fun i j l=>?_
    refine cP ((C+1:Nat):Int) (by omega) (by omega) (by omega) ?_
    exact P (C+1) b 1 _ i (by omega) (by simp [c]) K5 (by omega) (fun v=>K6 (by omega)) j l (C9 (by omega) (by rw [← e];omega) J)
   ·refine dR (bV.getD C 0 - (take+q)) (by omega) (by omega) ?_
    refine kK (bV.getD C 0 - (take+q)) rfl (by omega) ?_
    refine yE d f c.symm b1 E rfl (by omega) rfl (by omega) fun i j l=>?_
    refine cP ((C+1:Nat):Int) (by omega) (by omega) (by omega) ?_
    exact P (C+1) b 0 _ i (by omega) (by simp [c]) K5 (by omega) (fun v=>K6 (by omega)) j l (C9 (by omega) (by rw [← e];omega) J)
  unfold hJ.kX.t hJ.r2.t
  refine cD (fun _=>?_) fun aP=>absurd (by omega) aP
  refine cD (fun aP=>?_) fun aP=>?_
  ·have Lt:=O.lC C
   have e:=tQ K9 Lt
   refine iJ (O.B b1.1) (C:=C) rfl K8.symm (by omega) ?_
   refine dR (u.getD C 0) rfl (by omega) ?_
   have em:(aA:Int)*((u.getD C 0:Nat):Int)=((aA*u.getD C 0:Nat):Int):=(Int.natCast_mul _ _).symm
   rw [em]
   obtain⟨z,K7⟩:∃ z,z=aA*u.getD C 0:=⟨_,rfl⟩
   rw [← K7] at e ⊢
   refine dR z rfl (by omega) ?_
   refine dR (a+z) (by omega) (by omega) ?_
   refine m3 rfl (by omega) ?_
   refine dR ((a+z) % 4294967296+q) (by omega) (by omega) ?_
   refine q4 rfl ?_
   exact step z _ _ K7 (by omega) (by omega) (by omega) (fun v=>absurd aP (by omega))
  ·have Lu:u.getD C 0=0:=by simp [List.getD,show u.length≤C by omega]
   refine m3 rfl (by omega) ?_
   refine dR (a % 4294967296+q) (by omega) (by omega) ?_
   refine q4 rfl ?_
   exact step 0 _ _ (by rw [Lu];rfl) (by omega) (by omega) (by omega) (fun v=>by omega)
theorem Da{bV u:List Nat}{C dF L cW t:Nat}(a:C < bV.length)(a0:L+bV.getD C 0+u.getD C 0=t+4294967296*cW)(J:D.val bV+L*2 ^ (32*C)=dF+D.val (u.take C)):
  D.val (bV.set C t)+cW*2 ^ (32*(C+1))=dF+D.val (u.take (C+1)):=by
 have aY:=D.mE (aK:=bV) (C:=C) (v:=t) a
 rw [vF,D.jY]
 generalize 2 ^ (32*C)=P at *
 generalize bV.getD C 0=b3 at *
 have b:(L+b3+u.getD C 0)*P=(t+4294967296*cW)*P:=by rw [a0]
 have c:(L+b3+u.getD C 0)*P=L*P+b3*P+P*u.getD C 0:=by rw [Nat.add_mul,Nat.add_mul,Nat.mul_comm P]
 have d:(t+4294967296*cW)*P=t*P+cW*(4294967296*P):=by rw [Nat.add_mul,Nat.mul_comm 4294967296,Nat.mul_assoc]
 omega
theorem Gh{Y:K}{i:U→Nat→Nat→U→Nat→Nat→Int→Int→Int→V→Prop}{N:U}{L bH n o off dF:Nat}{aA:Int}{u bD aX:List Nat}{aU a0:V}(O:cB b2 aU N bH u)(v:u.length=n)(d:bD.length=off)(j:aU.size≤o)(K5:n < 1099511627776)
  (g:∀ Z a bV,a≤1→bV.length=n+1→dI b2 Z o (bD ++ (bV ++ aX))→pH aU o a0 Z→D.val bV+a*2 ^ (32*(n+1))=dF+D.val u→i (some ⟨o,off,none⟩) (n+1) L N n bH (n:Int) aA ((1 - a:Nat):Int) Z) :
  ∀ (M C a:Nat) (bV:List Nat) (Z:V),C+M=n+1→bV.length=n+1→a≤1→dI b2 Z o (bD ++ (bV ++ aX))→pH aU o a0 Z→D.val bV+a*2 ^ (32*C)=dF+D.val (u.take C)→
   hJ.hF.t Y i (M+1) (some ⟨o,off,none⟩) (n+1) L N n bH (n:Int) aA (a:Int) 1 (C:Int) Z:=by
 intro M
 induction M with
 | zero=>
  intro C a bV Z E b l c b1 J
  unfold hJ.hF.t hJ.gJ.t
  refine cD (fun aP=>absurd aP (by omega)) fun _=>?_
  unfold hJ.dD.t
  refine dR (1 - a) (by split <;> omega) (by omega) ?_
  rw [List.take_of_length_le (by omega),show C=n+1 by omega] at J
  exact g Z a bV l b c b1 J
 | succ M m=>
  intro C a bV Z E b l c b1 J
  have K6:bV.getD C 0 < 4294967296:=by
   refine nT (by decide) (fun I G=>c.ok I ?_) C
   exact List.mem_append_right _ (List.mem_append_left _ G)
  have H:bV.length≤70368744177656:=by omega
  unfold hJ.hF.t hJ.gJ.t
  refine cD (fun _=>?_) fun aP=>absurd (by omega) aP
  refine yD c d b.symm H rfl (by omega) ?_
  refine dR (bV.getD C 0) rfl (by omega) ?_
  refine dR (a+bV.getD C 0) (by omega) (by omega) ?_
  refine cD (fun aP=>?_) fun aP=>?_
  ·have K7:=O.lC C
   refine iJ (O.B b1.1) (C:=C) rfl v.symm (by omega) ?_
   refine dR (u.getD C 0) rfl (by omega) ?_
   refine dR (a+bV.getD C 0+u.getD C 0) (by omega) (by omega) ?_
   refine m3 rfl (by omega) ?_
   refine kK ((a+bV.getD C 0+u.getD C 0) % 4294967296) rfl (by omega) ?_
   refine yE c d b.symm b1 j rfl (by omega) rfl (by omega) fun e f h=>?_
   refine q4 rfl ?_
   refine cP ((C+1:Nat):Int) (by omega) (by omega) (by omega) ?_
   exact m (C+1) _ _ e (by omega) (by simp [b]) (by omega) f h (Da (by omega) (by omega) J)
  ·have P:u.getD C 0=0:=by simp [List.getD,show u.length≤C by omega]
   refine m3 rfl (by omega) ?_
   refine kK ((a+bV.getD C 0) % 4294967296) rfl (by omega) ?_
   refine yE c d b.symm b1 j rfl (by omega) rfl (by omega) fun e f h=>?_
   refine q4 rfl ?_
   refine cP ((C+1:Nat):Int) (by omega) (by omega) (by omega) ?_
   exact m (C+1) _ _ e (by omega) (by simp [b]) (by omega) f h (Da (by omega) (by rw [P];omega) J)
theorem Gi{Y:K}{N:U}{L bH n o off dL:Nat}{u bD aX:List Nat}{aU a0:V}(O:cB b2 aU N bH u)(m:u.length=n)(v:bD.length=off)(E:aU.size≤o)(G:n < 1099511627776)(f:0 < D.val u)
  (H:∀ Z bV,bV.length=n+1→dI b2 Z o (bD ++ (bV ++ aX))→pH aU o a0 Z→D.val bV=dL % D.val u→Y (.int .u32 ((dL / D.val u:Nat):Int)) Z) :
  ∀ (M aA q:Nat) (bV:List Nat) (Z:V),aA≤dL / D.val u+M→dL / D.val u≤aA→aA < 4294967296→q≤1→bV.length=n+1→dI b2 Z o (bD ++ (bV ++ aX))→pH aU o a0 Z→D.val bV+aA*D.val u=dL+q*2 ^ (32*(n+1))→
   hJ.cZ.t Y (M+1) (some ⟨o,off,none⟩) (n+1) L N n bH (n:Int) (aA:Int) (q:Int) Z:=by
 have P:=Nat.div_add_mod dL (D.val u)
 have K5:=Nat.mod_lt dL f
 have i:∀ (aA:Nat) (bV:List Nat) (Z:V),dL / D.val u≤aA→aA < 4294967296→bV.length=n+1→dI b2 Z o (bD ++ (bV ++ aX))→pH aU o a0 Z→D.val bV+aA*D.val u=dL→hJ.aC.t Y (aA:Int) Z:=by
  intro aA bV Z c d a b b1 J
  have K6:aA≤dL / D.val u:=by rw [Nat.le_div_iff_mul_le f];omega
  have j:aA=dL / D.val u:=Nat.le_antisymm K6 c
  unfold hJ.aC.t
  refine kK aA rfl d ?_
  rw [j]
  refine H Z bV a b b1 ?_
  rw [j,Nat.mul_comm] at J;omega
 have l:∀ (aA:Nat) (bV:List Nat),bV.length=n+1→(∀ I ∈ bV,I < 4294967296)→D.val bV+aA*D.val u=dL+1*2 ^ (32*(n+1))→dL / D.val u < aA:=by
  intro aA bV a K7 J
  have dE:=D.hS (T:=bV) K7
  rw [a] at dE
  rw [Nat.div_lt_iff_lt_mul f];omega
 clear P K5
 generalize dL / D.val u=b7 at *
 intro M
 induction M with
 | zero=>
  intro aA q bV Z K8 c d K9 a b b1 J
  unfold hJ.cZ.t hJ.cA.t
  have La:q=0:=by
   rcases Nat.lt_or_ge q 1 with g | g
   ·omega
   ·have:q=1:=by omega
    subst this
    have:=l aA bV a (fun I h=>b.ok I (List.mem_append_right _ (List.mem_append_left _ h))) J
    omega
  subst La
  refine cD (fun aP=>absurd aP (by omega)) fun _=>?_
  exact i aA bV Z c d a b b1 (by omega)
 | succ M Lb=>
  intro aA q bV Z K8 c d K9 a b b1 J
  unfold hJ.cZ.t hJ.cA.t
  refine cD (fun aP=>?_) fun aP=>?_
  ·have Lc:q=1:=by omega
   subst Lc
   have Li:=l aA bV a (fun I h=>b.ok I (List.mem_append_right _ (List.mem_append_left _ h))) J
   unfold hJ.b0.t
   refine dR (aA - 1) (by omega) (by omega) ?_
   unfold hJ.eC.t
   refine⟨n+2,?_⟩
   refine Gh (dF:=D.val bV) O m v E G (fun Ld e Le Lj Lf Lg Lh Lk=>?_) (n+1) 0 0 bV Z (by omega) a (by omega) b b1 (by simp [D.val])
   refine Lb (aA - 1) (1 - e) Le Ld (by omega) (by omega) (by omega) (by omega) Lf Lg Lh ?_
   have Ll:(aA - 1)*D.val u+D.val u=aA*D.val u:=by
    rw [← Nat.succ_mul,Nat.succ_eq_add_one,Nat.sub_add_cancel (by omega)]
   generalize 2 ^ (32*(n+1))=Lm at *
   rcases Nat.lt_or_ge e 1 with g | g
   ·have:e=0:=by omega
    subst this;omega
   ·have:e=1:=by omega
    subst this;omega
  ·have:q=0:=by omega
   subst this
   exact i aA bV Z c d a b b1 (by omega)
theorem Db{T:List Nat}(a:D.Words T){m:Nat}(b:T.length=m+1):D.val T / 2 ^ (32*m)=T.getD m 0:=by
 rw [← D.kW a,iI (by omega),List.drop_of_length_le (by omega)];simp [D.val]
theorem Gj{T:List Nat}(a:D.Words T){m:Nat}(b:T.length=m+2):D.val T / 2 ^ (32*m)=T.getD m 0+4294967296*T.getD (m+1) 0:=by
 rw [← D.kW a,iI (by omega),iI (by omega),List.drop_of_length_le (by omega)];simp [D.val]
theorem Gk{N:U}{L bH l n o off m dL:Nat}{u bD bV aX:List Nat}{aU Z:V}(O:cB b2 aU N bH u)(d:u.length=n)(K5:n=l)(a:bD.length=off)(i:aU.size≤o)(j:n < 1099511627776)(Lm:0 < n)(Ln:u.getD (n - 1) 0 ≠ 0)(E:D.val bV=dL)(dE:dL < 4294967296*D.val u)
  (e:bV.length=n+1) (K6:m=n+1) (b:dI b2 Z o (bD ++ (bV ++ aX))) (K7:a4 aU Z) :
  aF hJ.id #[.slice (some ⟨o,off,none⟩) m L,.slice N l bH] Z fun v A=>v=.int .u32 ((dL / D.val u:Nat):Int)∧pH aU o Z A∧∃ f,f.length=n+1∧dI b2 A o (bD ++ (f ++ aX))∧D.val f=dL % D.val u:=by
 subst K6;subst K5
 have b1:pH aU o Z Z:=⟨K7,a1.refl _ _⟩
 refine hJ.ok ?_
 unfold hJ.t hJ.F.t
 have G:bV.length≤70368744177656:=by omega
 have g:D.Words bV:=fun I K8=>b.ok I (List.mem_append_right _ (List.mem_append_left _ K8))
 have K9:=nT (T:=bV) (aX:=4294967296) (by decide) g n
 have Lo:=nT (T:=bV) (aX:=4294967296) (by decide) g (n - 1)
 have Lp:=O.lC (n - 1)
 refine yD b a e.symm G (C:=n) rfl (by omega) ?_
 refine dR (bV.getD n 0) rfl (by omega) ?_
 refine AD rfl K9 ?_
 refine cP ((n - 1:Nat):Int) (by omega) (by omega) (by omega) ?_
 refine yD b a e.symm G (C:=n - 1) rfl (by omega) ?_
 refine dR (bV.getD (n - 1) 0) rfl (by omega) ?_
 refine dR (bV.getD (n - 1) 0+4294967296*bV.getD n 0) (by omega) (by omega) ?_
 refine cP ((n - 1:Nat):Int) (by omega) (by omega) (by omega) ?_
 refine iJ (O.B b1.1) (C:=n - 1) rfl d.symm (by omega) ?_
 refine dR (u.getD (n - 1) 0) rfl (by omega) ?_
 refine⟨by omega,?_⟩
 rw [oC]
 have Lq:=Nat.div_le_self (bV.getD (n - 1) 0+4294967296*bV.getD n 0) (u.getD (n - 1) 0)
 refine dR ((bV.getD (n - 1) 0+4294967296*bV.getD n 0) / u.getD (n - 1) 0) rfl (by omega) ?_
 have H:0 < D.val u:=by
  rcases Nat.eq_zero_or_pos (D.val u) with J | J
  ·rw [J] at dE;omega
  ·exact J
 have P:=Db O.ok (m:=n - 1) (by omega)
 have c:=Gj g (m:=n - 1) (by omega)
 rw [show n - 1+1=n by omega,E] at c
 have Lr:dL / D.val u≤(bV.getD (n - 1) 0+4294967296*bV.getD n 0) / u.getD (n - 1) 0:=by
  rw [← c,← P,Nat.div_div_eq_div_mul]
  refine Nat.div_le_div_left (Nat.mul_div_le _ _) ?_
  rw [P];exact Nat.mul_pos (Nat.pow_pos (by decide)) (by omega)
 have Ls:dL / D.val u < 4294967296:=by rw [Nat.div_lt_iff_lt_mul H];exact dE
 generalize (bV.getD (n - 1) 0+4294967296*bV.getD n 0) / u.getD (n - 1) 0=h at *
 obtain⟨aA,Lt⟩:∃ aA:Nat,aA=min h 4294967295:=⟨_,rfl⟩
 have La:(if (4294967295:Int) < (h:Int) then(4294967295:Int) else(h:Int))=(aA:Int):=by split <;> omega
 rw [La]
 unfold hJ.lG.t
 refine⟨n+2,?_⟩
 refine Gg (dL:=dL) O d a i (by omega) j (fun Lb q Lc Ld Le Lf Lg c=>?_) (n+1) 0 0 0 bV Z (by omega) e (by decide) (by omega) (by omega) b b1 (by simp [D.val,E])
 refine⟨aA - dL / D.val u+1,?_⟩
 exact Gi O d a i j H (fun Lu Lh Li Lj Lk Ll=>⟨rfl,Lk,Lh,Li,Lj,Ll⟩) _ aA q Lc Lb (by omega) (by omega) (by omega) Ld Le Lf Lg c
def oF(aL bA:Nat):Nat × Nat:=if bA=0 then(0,0) else(aL / bA,aL % bA)
theorem Dc{a:List Nat}{M eW:Nat}(d:eW≤2 ^ (32*M))(Z:D.val a < eW)(b:D.Words a):D.val (a.drop M)=0∧D.val (a.take M)=D.val a:=by
 have J:D.val a=D.val (a.take M)+2 ^ (32*M)*D.val (a.drop M):=by
  by_cases c:M≤a.length
  ·conv=>lhs;rw [← List.take_append_drop M a]
   rw [D.hR,List.length_take,Nat.min_eq_left c]
  ·rw [List.take_of_length_le (by omega),List.drop_of_length_le (by omega)];simp [D.val]
 have aB:D.val (a.drop M)=0:=by
  rw [D.kW b];exact Nat.div_eq_of_lt (by omega)
 rw [aB] at J
 exact⟨aB,by omega⟩
theorem Gl{Y:K}{N:U}{bH n c d eK hK hX:Nat}{AI:Int}{u g6 rest:List Nat}{aU:V}(O:cB b2 aU N bH u)(K8:u.length=n)(Lm:aU.size≤c)(Ln:aU.size≤d)(K9:c ≠ d)(Lo:n < 1099511627776)(Lp:0 < n)(La:u.getD (n - 1) 0 ≠ 0)(LS:eK < 1099511627776)(LU:eK≤hK)(LV:n < eK)
  (Lq:D.val g6=hX) (LW:g6.length=eK) (Lb:D.Words g6)
  (Lr:∀ Z a b,a.length=eK→b.length=eK - n→dI b2 Z c (a ++ rest)→dI b2 Z d b→a4 aU Z→D.val a=hX % D.val u→D.val b=hX / D.val u→iU.a7.t Y AI (some ⟨c,0,none⟩) eK hK (n:Int) (some ⟨d,0,none⟩) (eK - n) (eK - n) Z) :
  ∀ (C:Nat) (a b:List Nat) (Z:V),C≤eK - n→a.length=eK→b.length=eK - n→dI b2 Z c (a ++ rest)→dI b2 Z d b→a4 aU Z→a.take C=g6.take C→D.val (a.drop C) < D.val u→D.val (b.drop C)*D.val u+D.val (a.drop C)=hX / 2 ^ (32*C)→
   iU.dN.t Y (C+1) AI N n bH (some ⟨c,0,none⟩) eK hK (n:Int) (some ⟨d,0,none⟩) (eK - n) (eK - n) ((C:Int) - 1) Z:=by
 have Lc:=D.hS O.ok
 rw [K8] at Lc
 have j:0 < D.val u:=by
  rcases Nat.eq_zero_or_pos (D.val u) with J | J
  ·exfalso
   have:=Db O.ok (m:=n - 1) (by omega)
   rw [J,Nat.zero_div] at this;exact La this.symm
  ·exact J
 intro C
 induction C with
 | zero=>
  intro a b Z Ls Ld l e i b1 _ dE J
  unfold iU.dN.t iU.dD.t
  refine cD (fun aP=>absurd aP (by omega)) fun _=>?_
  rw [List.drop_zero] at dE J
  rw [List.drop_zero,Nat.mul_zero,Nat.pow_zero,Nat.div_one] at J
  refine Lr Z a b Ld l e i b1 ?_ ?_
  ·rw [← J,Nat.mul_comm,Nat.mul_add_mod,Nat.mod_eq_of_lt dE]
  ·rw [← J,Nat.mul_comm,Nat.mul_add_div j,Nat.div_eq_of_lt dE,Nat.add_zero]
 | succ C Lt=>
  intro a b Z Ls Ld l e i b1 Le dE J
  have Lf:D.Words a:=fun I E=>e.ok I (List.mem_append_left _ E)
  have LX:D.Words b:=i.ok
  unfold iU.dN.t iU.dD.t
  refine cD (fun _=>?_) fun aP=>absurd (by omega) aP
  refine cP ((C+n:Nat):Int) (by omega) (by omega) (by omega) ?_
  refine cP ((C+n+1:Nat):Int) (by omega) (by omega) (by omega) ?_
  have Lu:(((C+1:Nat):Int) - 1)=(C:Int):=by omega
  rw [Lu]
  have Lv:∀ {p:U→Nat→Nat→Prop},p (some ⟨c,C,none⟩) (n+1) (hK - C)→h7 1 (some ⟨c,0,none⟩) eK hK (some (.int .i64 (C:Int))) (some (.int .i64 ((C+n+1:Nat):Int))) none p:=by
   intro p g
   refine⟨⟨by omega,by omega⟩,⟨by omega,by omega⟩,?_⟩
   show p (iP (some ⟨c,0,none⟩) hK ((C:Int)).toNat 1) ((((C+n+1:Nat):Int)).toNat - ((C:Int)).toNat) (hK - ((C:Int)).toNat)
   have G:(((C+n+1:Nat):Int)).toNat - ((C:Int)).toNat=n+1:=by omega
   have f:hK - ((C:Int)).toNat=hK - C:=by omega
   have Lw:iP (some ⟨c,0,none⟩) hK ((C:Int)).toNat 1=some ⟨c,C,none⟩:=by
    unfold iP
    rw [if_neg (by omega),Int.toNat_natCast,Nat.mul_one]
    show some ((⟨c,0,none⟩:Addr).add C)=_
    rw [w]
   rw [G,f,Lw];exact g
  refine Lv ?_
  obtain⟨bD,H⟩:∃ bD,bD=a.take C:=⟨_,rfl⟩
  obtain⟨bV,K5⟩:∃ bV,bV=(a.drop C).take (n+1):=⟨_,rfl⟩
  obtain⟨aX,c4⟩:∃ aX,aX=a.drop (C+(n+1)):=⟨_,rfl⟩
  have Lx:a=bD ++ (bV ++ aX):=by
   rw [H,K5,c4,← List.drop_drop,List.take_append_drop,List.take_append_drop]
  have K6:bD.length=C:=by rw [H,List.length_take];omega
  have Ly:bV.length=n+1:=by rw [K5,List.length_take,List.length_drop];omega
  have LY:aX.length=eK - (C+(n+1)):=by rw [c4,List.length_drop];omega
  have LZ:D.val (a.drop C)=a.getD C 0+4294967296*D.val (a.drop (C+1)):=D.j7 a C
  have L0:a.getD C 0 < 4294967296:=nT (by decide) Lf C
  have K7:D.val (a.drop C) < 4294967296*D.val u:=by omega
  have Lz:D.val (a.drop C) < 2 ^ (32*(n+1)):=by
   rw [D.jY]
   calc D.val (a.drop C) < 4294967296*D.val u:=K7
    _≤4294967296*2 ^ (32*n):=Nat.mul_le_mul_left _ (Nat.le_of_lt Lc)
  have LA:D.Words (a.drop C):=fun I E=>Lf I (List.mem_of_mem_drop E)
  have Lg:=Dc (Nat.le_refl _) Lz LA
  have LB:D.val bV=D.val (a.drop C):=by rw [K5];exact Lg.2
  have LC:D.val aX=0:=by
   have:=Lg.1
   rw [List.drop_drop] at this
   rw [c4];exact this
  have LD:dI b2 Z c (bD ++ (bV ++ (aX ++ rest))):=by
   rw [Lx] at e;simpa [List.append_assoc] using e
  refine bF (Gk (dL:=D.val (a.drop C)) O K8 rfl K6 Lm Lo Lp La LB K7 Ly rfl LD b1) fun v LF ⟨f,Lh,h,L1,LG,LH⟩=>?_
  subst f
  refine bI rfl ?_
  have LI:D.val (a.drop C) / D.val u < 4294967296:=by rw [Nat.div_lt_iff_lt_mul j];exact K7
  have LJ:dI b2 LF d b:=i.bT (fun J=>K9 J.symm) Lh.2
  refine x0 LJ (C:=C) rfl (by omega) (by omega) rfl LI fun LK Li=>?_
  have LL:=Li.B Lh.1 Ln
  have LM:=LG.bT K9 Li
  refine cP ((C:Int) - 1) (by omega) (by omega) (by omega) ?_
  have LN:=Nat.mod_lt (D.val (a.drop C)) j
  have L2:=Nat.div_add_mod (D.val (a.drop C)) (D.val u)
  have Lj:(bD ++ (h ++ aX)).drop C=h ++ aX:=by rw [← K6,List.drop_left]
  have Lk:D.val (h ++ aX)=D.val (a.drop C) % D.val u:=by
   rw [D.hR,LC,LH];simp
  have LO:a.take C=g6.take C:=by
   have:=congrArg (List.take C) Le
   rwa [List.take_take,List.take_take,Nat.min_eq_left (by omega)] at this
  have LP:a.getD C 0=g6.getD C 0:=by
   have G:(a.take (C+1)).getD C 0=a.getD C 0:=by simp [List.getD]
   have f:(g6.take (C+1)).getD C 0=g6.getD C 0:=by simp [List.getD]
   rw [← G,← f,Le]
  refine Lt (bD ++ (h ++ aX)) (b.set C (D.val (a.drop C) / D.val u)) _ (by omega) (by simp;omega) (by simp [l]) (by simpa [List.append_assoc] using LM) LK LL ?_ ?_ ?_
  ·have Ll:(bD ++ (h ++ aX)).take bD.length=bD:=List.take_left
   rw [K6] at Ll;rw [Ll,H];exact LO
  ·rw [Lj,Lk];exact LN
  ·rw [Lj,Lk]
   have LQ:(b.set C (D.val (a.drop C) / D.val u)).drop C=D.val (a.drop C) / D.val u :: b.drop (C+1):=by
    rw [iI (by simp;omega),List.drop_set_of_lt (by omega)]
    simp [List.getD,show C < b.length by omega]
   have LR:hX / 2 ^ (32*C)=g6.getD C 0+4294967296*(hX / 2 ^ (32*(C+1))):=by
    rw [← Lq,← D.kW Lb,← D.kW Lb,D.j7]
   rw [LQ,LR,← J,← LP]
   simp only [D.val]
   rw [Nat.add_mul,Nat.mul_comm (D.val (a.drop C) / D.val u),Nat.mul_assoc]
   generalize D.val (b.drop (C+1))*D.val u=P at *
   omega
theorem Gm{aL n:Nat}(Z:eU aL=32*n)(b:0 < n):(D.aE aL).length=n:=by
 refine Nat.le_antisymm ((D.xY n).mp (by omega)) ?_
 rcases Nat.lt_or_ge (D.aE aL).length n with a | a
 ·have:=(D.xY (v:=aL) (n - 1)).mpr (by omega)
  omega
 ·exact a
theorem Gn{a N:U}{L bH l m aL bA:Nat}{Z:V}(s:cB b2 Z a L (D.aE aL))(O:cB b2 Z N bH (D.aE bA))(LU:l=(D.aE aL).length)(LV:m=(D.aE bA).length)(MH:(D.aE aL).length≤1099511627770):
  aF iU.id #[.slice a l L,.slice N m bH] Z fun v A=>a4 Z A∧s2 gC gC Z A v (oF aL bA):=by
 subst LU;subst LV
 have Ls:D.val (D.aE aL)=aL:=D.fA aL
 have Li:D.val (D.aE bA)=bA:=D.fA bA
 refine iU.ok ?_
 unfold iU.t iU.F.t
 refine hU (fun aB=>?_) fun aB=>?_
 ·have J:D.aE bA=[]:=List.length_eq_zero_iff.mp (by omega)
  have Lc:bA=0:=by rw [← Li,J];rfl
  refine bF (oE (aA:=0) rfl (by decide) Z) fun v a0 ⟨e,Lj⟩=>?_
  refine Lj.elim fun Lt Lu E=>?_
  refine bF (oE (aA:=0) rfl (by decide) a0) fun v Lv ⟨g,G⟩=>?_
  refine G.elim fun Lw bX K8=>?_
  unfold oF;rw [if_pos Lc]
  exact⟨e.trans g,_,_,rfl,⟨_,_,rfl,E.B g⟩,⟨_,_,rfl,K8.from e.le⟩⟩
 have Lc:bA ≠ 0:=by
  intro J;subst J;rw [D.dM] at aB;exact aB rfl
 unfold oF;rw [if_neg Lc]
 refine bF (AE s O rfl rfl) fun v A ⟨h,Lk⟩=>?_
 subst h;subst Lk
 refine bI rfl ?_
 refine cD (fun aP=>?_) fun aP=>?_
 ·have dE:aL < bA:=by unfold e6 at aP;split at aP <;> (try split at aP) <;> omega
  refine bF (oE (aA:=0) rfl (by decide) A) fun v a0 ⟨e,Lj⟩=>?_
  refine Lj.elim fun Lt Lu E=>?_
  refine bF (oD (s.B e) rfl) fun v Lv ⟨g,G⟩=>?_
  rw [Ls] at G
  refine G.elim fun Lw bX K8=>?_
  rw [Nat.div_eq_of_lt dE,Nat.mod_eq_of_lt dE]
  exact⟨e.trans g,_,_,rfl,⟨_,_,rfl,E.B g⟩,⟨_,_,rfl,K8.from e.le⟩⟩
 have LW:bA≤aL:=by unfold e6 at aP;split at aP <;> (try split at aP) <;> omega
 have H:(D.aE bA).getD ((D.aE bA).length - 1) 0 ≠ 0:=by
  rcases tI.mp (D.nR bA) with J | J
  ·rw [J] at aB;exact absurd rfl aB
  ·exact J
 have Ld:=O.lC ((D.aE bA).length - 1)
 have MI:(D.aE bA).length≤(D.aE aL).length:=D.mD LW
 refine hU (fun a0=>?_) fun a0=>?_
 ·have LX:(D.aE bA).length=1:=by omega
  rw [LX] at H Ld
  have LY:(D.aE bA).getD 0 0=bA:=by
   have J:=D.j7 (D.aE bA) 0
   rw [List.drop_zero,Li,List.drop_of_length_le (by omega)] at J
   simpa [D.val] using J.symm
  have LZ:(D.aE bA).getD 0 0 ≠ 0:=H
  have Lx:(D.aE bA).getD 0 0 < 4294967296:=Ld
  refine iJ O (C:=0) rfl rfl (by omega) ?_
  rw [LY] at LZ Lx ⊢
  refine bF (C3 s rfl rfl Lx (by omega)) fun v a0 ⟨e,Lt,Lu,J,E⟩=>?_
  subst J
  rw [Ls] at E ⊢
  have MJ:=Nat.mod_lt aL (show 0 < bA by omega)
  refine dP rfl (aM (k rfl (aM (bI rfl (bP ?_)))))
  refine dR (aL % bA) rfl (by omega) ?_
  refine bF (oE (aA:=aL % bA) rfl (by omega) a0) fun v Lv ⟨g,G⟩=>?_
  refine G.elim fun Lw bX K8=>?_
  exact⟨e.trans g,_,_,rfl,⟨_,_,rfl,E.B g⟩,⟨_,_,rfl,K8.from e.le⟩⟩
 refine cP (((D.aE bA).length - 1:Nat):Int) (by omega) (by omega) (by omega) ?_
 refine Cn rfl (by omega) ?_
 obtain⟨f,Le⟩:∃ f,f=(D.aE bA).getD ((D.aE bA).length - 1) 0:=⟨_,rfl⟩
 have L0:(D.aE bA).drop ((D.aE bA).length - 1)=[f]:=by
  rw [iI (by omega),List.drop_of_length_le (by omega),Le]
 have Ly:=O.drop (m:=bH) ((D.aE bA).length - 1) (by omega) O.cap
 rw [L0] at Ly
 rw [← Le] at H Ld
 have L1:dH [f]=[f]:=by simp [dH,H]
 refine bF (C1 Ly (by simp;omega) L1) fun v K9 ⟨h,Lk⟩=>?_
 subst h;subst Lk
 refine bI rfl ?_
 have L2:D.val [f]=f:=by simp [D.val]
 rw [L2]
 have MK:eU f≤32:=j6.mpr Ld
 have ML:=q3 H
 obtain⟨c,MM⟩:∃ c,c=32 - eU f:=⟨_,rfl⟩
 refine cP ((c:Nat):Int) (by omega) (by omega) (by omega) ?_
 have L3:=D.wB (D.p7 bA) (n:=(D.aE bA).length - 1) (by omega) (by rw [← Le];exact H)
 rw [Li,← Le] at L3
 obtain⟨n,MN⟩:∃ n,n=(D.aE bA).length:=⟨_,rfl⟩
 obtain⟨eW,P⟩:∃ eW,eW=bA*2 ^ c:=⟨_,rfl⟩
 have L4:eU eW=32*n:=by rw [P,wC c Lc];omega
 have K5:(D.aE eW).length=n:=Gm L4 (by omega)
 refine bF (yC O rfl rfl (by omega) (by omega)) fun v Lz ⟨LA,LB⟩=>?_
 rw [← P] at LB
 refine LB.elim fun L5 L6 L7=>?_
 refine bF (yC (s.B LA) rfl rfl (by omega) (by omega)) fun v L8 ⟨L9,Ma⟩=>?_
 refine Ma.elim fun Mb hK LC=>?_
 obtain⟨hX,La⟩:∃ hX,hX=aL*2 ^ c:=⟨_,rfl⟩
 rw [← La] at LC ⊢
 obtain⟨d,LD⟩:∃ d,d=(D.aE aL).length:=⟨_,rfl⟩
 have Mc:aL < 2 ^ (32*d):=D.gF.mp (Nat.le_of_eq LD.symm)
 have Md:c < 32:=by omega
 have Me:2 ^ c < 4294967296:=AG Md
 have MO:(D.aE hX).length≤d+1:=by rw [La];exact C8 (Nat.le_of_eq LD.symm) Me
 have Mf:=L7.rd
 have Mg:∀ (M:Nat) (b:List Nat) (Lf:U) (K6:Nat) (K7:V),b.length+M=d+1→D.val b=hX→cN b2 Lz K7 Lf K6 b→a4 Lz K7→
   iU.eT.t (fun v i=>a4 K9 i∧s2 gC gC K9 i v (aL / bA,aL % bA)) (M+1) a (D.aE aL).length L ((c:Nat):Int) L5 (D.aE eW).length L6 Lf b.length K6 K7:=by
  intro M
  induction M with
  | zero=>
   intro b Lf K6 K7 Mh Lg j Lh
   unfold iU.eT.t iU.g7.t
   refine cD (fun aP=>absurd aP (by omega)) fun _=>?_
   unfold iU.aC.t
   have LF:b.length=d+1:=by omega
   refine cP ((b.length - n:Nat):Int) (by omega) (by omega) (by omega) ?_
   refine p9 b2 0 (b.length - n) (b.length - n) rfl n9 4 rfl (by decide) rfl rfl (Nat.le_refl _) (by omega) fun Ll Mi Lb=>?_
   unfold iU.cA.t
   refine cP ((b.length - n:Nat):Int) (by omega) (by omega) (by omega) ?_
   refine cP (((b.length - n:Nat):Int) - 1) (by omega) (by omega) (by omega) ?_
   refine⟨b.length - n+1,?_⟩
   rw [Int.toNat_natCast]
   have LG:=j.B Lb
   rcases j.here with ⟨h,_,_⟩ | ⟨Mj,rest,h,Mk,LH,MP⟩
   ·rw [h] at LF;simp at LF
   subst h
   have Ml:Mj ≠ K7.size:=Nat.ne_of_lt LH.lt
   have LI:(D.aE eW).getD ((D.aE eW).length - 1) 0 ≠ 0:=by
    rcases tI.mp (D.nR eW) with J | J
    ·rw [J] at K5;simp at K5;omega
    ·exact J
   have Mm:2 ^ (32*(n - 1))*2 ^ c≤eW:=by
    rw [P]
    refine Nat.mul_le_mul_right _ ?_
    rcases Nat.lt_or_ge bA (2 ^ (32*(n - 1))) with Lm | Lm
    ·have:=(D.gF (n:=bA) (M:=n - 1)).mpr Lm
     omega
    ·exact Lm
   have Mn:hX < eW*2 ^ (32*(b.length - n)):=by
    have Mo:2 ^ (32*d)*2 ^ c=2 ^ (32*(n - 1))*2 ^ c*2 ^ (32*(b.length - n)):=by
     rw [Nat.mul_assoc,Nat.mul_comm (2 ^ c),← Nat.mul_assoc]
     congr 1
     rw [← Nat.pow_add,show 32*(n - 1)+32*(b.length - n)=32*d by omega]
    calc hX < 2 ^ (32*d)*2 ^ c:=by rw [La];exact Nat.mul_lt_mul_of_pos_right Mc (Nat.pow_pos (by decide))
     _=2 ^ (32*(n - 1))*2 ^ c*2 ^ (32*(b.length - n)):=Mo
     _≤eW*2 ^ (32*(b.length - n)):=Nat.mul_le_mul_right _ Mm
   have LJ:D.Words b:=j.rd.ok
   have LK:D.val (b.drop (b.length - n))=hX / 2 ^ (32*(b.length - n)):=by rw [D.kW LJ,Lg]
   have Ln:D.val (D.aE eW)=eW:=D.fA eW
   have Mp:=Gl (Y:=fun v i=>a4 K9 i∧s2 gC gC K9 i v (aL / bA,aL % bA)) (hX:=hX) (g6:=b) (AI:=((c:Nat):Int)) (hK:=K6) (rest:=rest) Mf K5 Mk (Nat.le_trans Lh.le (Nat.le_refl _)) Ml (by omega) (by omega) (by rw [K5] at LI;exact LI) (by omega) j.cap (by omega) Lg rfl LJ (fun i LL MQ MR Mq LM Mr Ms Lo Mt=>?_) (b.length - n) b (List.replicate (b.length - n) 0) Ll (Nat.le_refl _) rfl (by simp) (LH.B Lb) Mi (Lh.trans Lb) rfl ?_ ?_
   ·rw [K5];exact Mp
   ·unfold iU.a7.t
    have MS:=j.cap
    refine bF (oD (Mr.o9 (L:=b.length - n) (by show _≤70368744177656;omega) (by omega)) Mq.symm) fun v MT ⟨Lp,LN⟩=>?_
    rw [Mt,Ln] at LN
    refine LN.elim fun MU MV LO=>?_
    refine u3 rfl (by omega) ?_
    rw [Ln] at Lo
    have Mu:0 < eW:=by rw [P];exact Nat.mul_pos (by omega) (Nat.pow_pos (by decide))
    have Mv:D.val LL < eW:=by rw [Lo];exact Nat.mod_lt _ Mu
    have Mw:eW≤2 ^ (32*n):=Nat.le_of_lt (D.gF.mp (Nat.le_of_eq K5))
    have Mx:D.Words LL:=fun I My=>LM.ok I (List.mem_append_left _ My)
    have Mz:=Dc Mw Mv Mx
    have MA:=((LM.rd (L:=K6) (by show _≤70368744177656;omega) (by omega)).B Lp).take n
    refine bF (oD MA (by rw [List.length_take];omega)) fun v MW ⟨Lq,LP⟩=>?_
    rw [Mz.2,Lo] at LP
    refine LP.elim fun MX MY MB=>?_
    refine bF (C5 MB.rd rfl rfl (by omega)) fun v MZ ⟨LQ,MC⟩=>?_
    refine MC.elim fun M0 M1 LR=>?_
    have LS:0 < 2 ^ c:=Nat.pow_pos (by decide)
    have MD:hX / eW=aL / bA:=by rw [La,P,Nat.mul_div_mul_right _ _ LS]
    have ME:hX % eW / 2 ^ c=aL % bA:=by rw [La,P,Nat.mul_mod_mul_right,Nat.mul_div_cancel _ LS]
    rw [MD] at LO ⊢
    rw [ME] at LR ⊢
    have Lr:a4 K9 i:=LA.trans Ms
    exact⟨Lr.trans (Lp.trans (Lq.trans LQ)),_,_,rfl,⟨_,_,rfl,(LO.B (Lq.trans LQ)).from Lr.le⟩,⟨_,_,rfl,LR.from ((Lr.trans Lp).trans Lq).le⟩⟩
   ·rw [Ln,LK]
    rw [Nat.div_lt_iff_lt_mul (Nat.pow_pos (by decide))];exact Mn
   ·rw [List.drop_of_length_le (by simp),LK];simp [D.val]
  | succ M MF=>
   intro b Lf K6 K7 Mh Lg j Lh
   unfold iU.eT.t iU.g7.t
   refine cD (fun _=>?_) fun aP=>absurd (by omega) aP
   refine r1 (n:=0) j Lh rfl rfl (by decide) (by omega) (by omega) fun MG cW Ll LG Lb _=>?_
   have:=MF (b ++ [0]) MG cW Ll (by simp;omega) (by rw [D.hR,Lg];simp [D.val]) LG Lb
   simpa using this
 refine⟨d+1 - (D.aE hX).length+1,?_⟩
 exact Mg _ (D.aE hX) Mb hK L8 (by omega) (D.fA hX) (LC.from (Nat.le_refl _)) L9
theorem Gp{a:U}{L l:Nat}{T:List Nat}{Z:V}(s:bJ Z a L T)(d:l=T.length):
  aF qG.id #[.slice a l L] Z fun v A=>A=Z∧v=.bool (decide (gI T)):=by
 subst d
 have a0:=s.len
 refine qG.ok ?_
 unfold qG.t qG.F.t
 refine cD (fun aP=>?_) fun aP=>?_
 ·refine hU (fun aB=>?_) fun aB=>?_
  ·refine⟨rfl,?_⟩
   have J:T=[]:=List.length_eq_zero_iff.mp (by omega)
   subst J;rfl
  ·refine cP ((T.length - 1:Nat):Int) (by omega) (by omega) (by omega) ?_
   refine fG s (C:=T.length - 1) rfl rfl (by omega) ⟨rfl,?_⟩
   have c:=@tI T
   by_cases b:T.getD (T.length - 1) 0=0
   ·rw [b]
    have:¬ gI T:=fun a9=>by
     rcases c.mp a9.2 with J | J
     ·subst J;simp at aB
     ·exact J b
    simp [this]
   ·have:gI T:=⟨by omega,c.mpr (Or.inr b)⟩
    simp only [this,decide_true]
    congr 1
    exact bne_iff_ne.mpr (by omega)
 ·refine⟨rfl,?_⟩
  have:¬ gI T:=fun a9=>by have:=a9.1;omega
  simp [this]
theorem Gq{Y:K}{a N:U}{L bH l m:Nat}{T u:List Nat}{Z:V}(s:bJ Z a L T)(O:bJ Z N bH u)(e:l=T.length)(f:m=u.length)(d:T.length=u.length)(g:Y (.int .i64 (e6 (val T) (val u))) Z):
  ∀ n:Nat,n≤T.length→T.drop n=u.drop n→hL.bG.t Y (n+1) a l L N m bH ((n:Int) - 1) Z:=by
 subst e;subst f
 have a0:=s.len
 intro n
 induction n with
 | zero=>
  intro h b
  unfold hL.bG.t hL.b0.t
  refine cD (fun aP=>absurd aP (by omega)) fun _=>?_
  have J:T=u:=by simpa using b
  unfold hL.aC.t
  rw [J] at g
  have c:e6 (val u) (val u)=0:=by simp [e6]
  rw [c] at g;exact g
 | succ n i=>
  intro h b
  unfold hL.bG.t hL.b0.t
  refine cD (fun aP=>?_) fun aP=>absurd (by omega) aP
  refine fG s (C:=n) (by omega) rfl (by omega) ?_
  refine fG O (C:=n) (by omega) rfl (by omega) ?_
  refine mZ (fun j=>?_) fun v=>?_
  ·refine fG s (C:=n) (by omega) rfl (by omega) ?_
   refine fG O (C:=n) (by omega) rfl (by omega) ?_
   refine cD (fun dE=>?_) fun dE=>?_
   ·have:=tK s.words O.words d (by omega) b (by omega)
    have c:e6 (val T) (val u)=-1:=by simp [e6,this]
    rw [c] at g;exact g
   ·have:=tK O.words s.words d.symm (by omega) b.symm (C:=n) (by omega)
    have c:e6 (val T) (val u)=1:=by unfold e6;rw [if_neg (by omega),if_neg (by omega)]
    rw [c] at g;exact g
  ·refine cP ((n:Int) - 1) (by omega) (by omega) (by omega) ?_
   refine i (by omega) ?_
   rw [iI (by omega),iI (T:=u) (by omega),b,show T.getD n 0=u.getD n 0 by omega]
theorem AJ{a N:U}{L bH l m:Nat}{T u:List Nat}{Z:V}(s:bJ Z a L T)(O:bJ Z N bH u)(f:l=T.length)(g:m=u.length):
  aF hL.id #[.slice a l L,.slice N m bH] Z fun v A=>A=Z∧v=.int .i64 (e6 (val T) (val u)):=by
 refine hL.ok ?_
 unfold hL.t hL.F.t
 refine bF (wK s f) fun v A ⟨b,c,d⟩=>?_
 subst b;subst c
 refine k rfl ?_
 refine bF (wK O g) fun v A ⟨b,c,e⟩=>?_
 subst b;subst c
 refine k rfl ?_
 rw [← rY T,← rY u]
 have h:=d.len
 refine mZ (fun i=>?_) fun j=>?_
 ·refine cD (fun dE=>⟨rfl,?_⟩) fun dE=>⟨rfl,?_⟩
  ·have:=q2 d.words (Ai u) (by omega)
   simp [e6,this]
  ·have:=q2 e.words (Ai T) (by omega)
   unfold e6;rw [if_neg (by omega),if_neg (by omega)]
 ·unfold hL.a7.t
  refine cP (((dH T).length:Int) - 1) (by omega) (by omega) (by omega) ?_
  refine⟨(dH T).length+1,?_⟩
  refine Gq d e rfl rfl (by omega) ⟨rfl,rfl⟩ _ (Nat.le_refl _) ?_
  rw [List.drop_length,show(dH T).length=(dH u).length by omega,List.drop_length]
theorem q6{I aN b3:Int}{a N L:Nat}(b:I=(a:Int))(c:aN=(N:Int))(d:b3=(L:Int))(e:L≤1){p:Int→Int→Prop}
  (g:p ((a+N+L) % 18446744073709551616:Nat) ((a+N+L) / 18446744073709551616:Nat)):o3 I aN b3 p:=by
 subst b;subst c;subst d
 exact⟨⟨by omega,by omega,by omega,by omega⟩,by simpa using g⟩
theorem vH{I aN b3:Int}{a N L:Nat}(c:I=(a:Int))(d:aN=(N:Int))(e:b3=(L:Int))(i:L≤1)(aP:N < 18446744073709551616){p:Int→Int→Prop}
  (g:p ((a+18446744073709551616 - N - L) % 18446744073709551616:Nat) ((if a < N+L then 1 else 0:Nat):Int)):rT I aN b3 p:=by
 subst c;subst d;subst e
 refine⟨⟨by omega,by omega,by omega,by omega,by omega⟩,?_⟩
 have f:((a:Int) - (N:Int) - (L:Int)) % 18446744073709551616=(((a+18446744073709551616 - N - L) % 18446744073709551616:Nat):Int):=by omega
 have h:(if (a:Int) < (N:Int)+(L:Int) then(1:Int) else 0)=((if a < N+L then 1 else 0:Nat):Int):=by
  by_cases b:a < N+L
  ·rw [if_pos b,if_pos (by omega)];rfl
  ·rw [if_neg b,if_neg (by omega)];rfl
 rw [f,h];exact g
def qH(T u:List Nat):List Nat × Int:=if gI T∧gI u then eS (val T+val u) else([],2)
theorem Gr{Y:K}{a:U}{L l b3 aA:Nat}{aK:List Nat}{n:Nat}{Z:V}{aB:V}{o:Nat}{b:Nat}(d:l=n)(e:eM Z o aK)(f:b3=aK.length)(h:aA=aK.length)(E:aK.length=n+1)(i:b < 18446744073709551616)(G:n≤8192)(c:aB.size≤o)(M:a4 aB Z)
  (g:∀ v A,a4 aB A→fD aB A v (eS (val (aK.take n ++ [b])))→Y v A):jR.cA.t Y a l L (some ⟨o,0,none⟩) b3 aA (b:Int) Z:=by
 subst d;subst f;subst h
 unfold jR.cA.t
 refine mX e (C:=l) rfl rfl (by omega) rfl i fun q=>?_
 have J:aK.set l b=aK.take l ++ [b]:=by
  have:=tJ (O:=aK) (C:=l) (t:=b) (by omega)
  rw [← this,List.take_of_length_le (by rw [List.length_set];omega)]
 rw [J] at q
 have j:a4 aB (fY Z ⟨o,l,none⟩ (g2 b)):=M.set c
 have H:(aK.take l ++ [b]).length=l+1:=by simp;omega
 refine bF (wL (q.oA (L:=aK.length) c (by omega)) (by omega)) fun v A ⟨m,D⟩=>?_
 subst m
 refine D.nU fun a L s Q=>?_
 exact g _ _ j (fD.back s Q)
theorem Gs{Y:K}{a N:U}{L bH l m b3 aA:Nat}{T u:List Nat}{aB:V}{o:Nat}(s:bJ aB a L T)(O:bJ aB N bH u)(i:l=T.length)(j:m=u.length)(d:aB.size≤o)(D:T.length≤8192)(P:b3=T.length+1)(K5:aA=T.length+1)
  (eO:List Nat) (g:∀ v A,a4 aB A→fD aB A v (eS (val eO))→Y v A) :
  ∀ (M n b:Nat) (aK:List Nat) (Z:V),n+M=T.length→b≤1→aK.length=T.length+1→eM Z o aK→a4 aB Z→aK.take n ++ q1 (T.drop n) (u.drop n) b=eO→
   jR.gN.t Y (M+1) a l L N m bH (some ⟨o,0,none⟩) b3 aA (b:Int) (l:Int) (n:Int) Z:=by
 subst i;subst j
 intro M
 induction M with
 | zero=>
  intro n b aK Z E e f c b1 J
  unfold jR.gN.t jR.eC.t
  refine cD (fun aP=>absurd aP (by omega)) fun _=>?_
  have G:n=T.length:=by omega
  subst G
  rw [List.drop_length] at J
  refine Gr (n:=T.length) rfl c (by omega) (by omega) f (by omega) D d b1 ?_
  rw [show aK.take T.length ++ [b]=eO from J];exact g
 | succ M h=>
  intro n b aK Z E e f c b1 J
  have K6:T.getD n 0 < 18446744073709551616:=s.word n
  have K7:u.getD n 0 < 18446744073709551616:=O.word n
  have step:aK.take n ++ q1 (T.drop n) (u.drop n) b=(aK.set n ((T.getD n 0+u.getD n 0+b) % 18446744073709551616)).take (n+1) ++ q1 (T.drop (n+1)) (u.drop (n+1)) ((T.getD n 0+u.getD n 0+b) / 18446744073709551616):=by
   rw [iI (T:=T) (C:=n) (by omega),tJ (by omega)]
   simp only [q1,xV,List.tail_drop,List.append_assoc,List.cons_append,List.nil_append]
  rw [step] at J
  unfold jR.gN.t jR.eC.t
  refine cD (fun aP=>?_) fun aP=>absurd (by omega) aP
  refine cD (fun aP=>?_) fun aP=>?_
  ·refine fG (O.B b1) (C:=n) rfl rfl (by omega) ?_
   refine fG (s.B b1) (C:=n) rfl rfl (by omega) ?_
   refine q6 rfl rfl rfl e ?_
   refine mX c (C:=n) rfl (by omega) (by omega) rfl (by omega) fun q=>?_
   refine cP ((n+1:Nat):Int) (by omega) (by omega) (by omega) ?_
   exact h (n+1) _ _ _ (by omega) (by omega) (by rw [List.length_set];omega) q (b1.set d) J
  ·refine fG (s.B b1) (C:=n) rfl rfl (by omega) ?_
   have H:u.getD n 0=0:=by simp [List.getD,show u.length≤n by omega]
   rw [H] at J
   refine q6 (N:=0) rfl rfl rfl e ?_
   refine mX c (C:=n) rfl (by omega) (by omega) rfl (by omega) fun q=>?_
   refine cP ((n+1:Nat):Int) (by omega) (by omega) (by omega) ?_
   exact h (n+1) _ _ _ (by omega) (by omega) (by rw [List.length_set];omega) q (b1.set d) J
theorem Dd{Y:K}{a N:U}{L bH l m:Nat}{T u:List Nat}{Z:V}(s:bJ Z a L T)(O:bJ Z N bH u)(b:l=T.length)(c:m=u.length)(d:T.length≤8192)(e:u.length≤T.length)
  (g:∀ v A,a4 Z A→fD Z A v (eS (val T+val u))→Y v A):jR.a7.t Y a l L N m bH Z:=by
 subst b;subst c
 unfold jR.a7.t
 refine cP ((T.length+1:Nat):Int) (by omega) (by omega) (by omega) ?_
 refine nQ (T.length+1) rfl rfl rfl rfl (by omega) fun a0 q M=>?_
 refine⟨T.length+1,?_⟩
 refine Gs s O rfl rfl (Nat.le_refl _) d rfl rfl (q1 T u 0) ?_ T.length 0 0 _ a0 (by omega) (by omega) (by simp) q M (by simp)
 rw [Cx T u 0 e];exact g
theorem Gt{a N:U}{L bH l m:Nat}{T u:List Nat}{Z:V}(s:bJ Z a L T)(O:bJ Z N bH u)(b:l=T.length)(c:m=u.length):
  aF jR.id #[.slice a l L,.slice N m bH] Z fun v A=>a4 Z A∧fD Z A v (qH T u):=by
 refine jR.ok ?_
 unfold jR.t jR.F.t
 refine bF (oB s b) fun v A ⟨d,e⟩=>?_
 subst d;subst e
 refine aO rfl ?_
 refine h9 (fun dJ=>⟨a4.refl _,?_⟩) fun dJ=>?_
 ·unfold qH;rw [if_neg (fun f=>of_decide_eq_false dJ f.1)];exact fD.none
 refine bF (oB O c) fun v A ⟨d,e⟩=>?_
 subst d;subst e
 refine aO rfl ?_
 refine h9 (fun g=>⟨a4.refl _,?_⟩) fun g=>?_
 ·unfold qH;rw [if_neg (fun f=>of_decide_eq_false g f.2)];exact fD.none
 have i:=of_decide_eq_true dJ
 have j:=of_decide_eq_true g
 unfold qH;rw [if_pos ⟨i,j⟩]
 unfold jR.aC.t
 refine cD (fun aP=>?_) fun aP=>?_
 ·refine Dd O s c b j.1 (by omega) fun v A M h=>⟨M,?_⟩
  rw [Nat.add_comm];exact h
 ·exact Dd s O b c i.1 (by omega) fun v A M h=>⟨M,h⟩
theorem De{T u:List Nat}(a:gI T)(b:gI u):qH T u=eS (val T+val u):=if_pos ⟨a,b⟩
def lH(T u:List Nat):List Nat × Int:=if gI T∧gI u then(if val T < val u then([],3) else eS (val T - val u)) else([],2)
theorem Gu{Y:K}{a N:U}{L bH l m b3 aA:Nat}{T u:List Nat}{aB:V}{o:Nat}(s:bJ aB a L T)(O:bJ aB N bH u)(j:l=T.length)(D:m=u.length)(d:aB.size≤o)(K8:T.length≤8192)(K9:b3=T.length)(La:aA=T.length)
  (eO:List Nat) (g:∀ v A,a4 aB A→fD aB A v (eS (val eO))→Y v A) :
  ∀ (M n b:Nat) (aK:List Nat) (Z:V),n+M=T.length→b≤1→aK.length=T.length→eM Z o aK→a4 aB Z→aK.take n ++ o8 (T.drop n) (u.drop n) b=eO→
   jS.dN.t Y (M+1) a l L N m bH (some ⟨o,0,none⟩) b3 aA (b:Int) (l:Int) (n:Int) Z:=by
 subst j;subst D
 intro M
 induction M with
 | zero=>
  intro n b aK Z E e h c b1 J
  unfold jS.dN.t jS.dD.t
  refine cD (fun aP=>absurd aP (by omega)) fun _=>?_
  have G:n=T.length:=by omega
  subst G
  rw [List.drop_length] at J
  have H:aK=eO:=by rw [← J,← h,List.take_length];simp [o8]
  subst H
  unfold jS.a7.t
  refine bF (wL (c.oA (L:=aA) d (by omega)) (by omega)) fun v A ⟨P,K5⟩=>?_
  subst P
  refine K5.nU fun a L s Q=>?_
  exact g _ _ b1 (fD.back s Q)
 | succ M i=>
  intro n b aK Z E e h c b1 J
  have Lb:T.getD n 0 < 18446744073709551616:=s.word n
  have K6:u.getD n 0 < 18446744073709551616:=O.word n
  have step:aK.take n ++ o8 (T.drop n) (u.drop n) b=(aK.set n ((T.getD n 0+18446744073709551616 - u.getD n 0 - b) % 18446744073709551616)).take (n+1) ++ o8 (T.drop (n+1)) (u.drop (n+1)) (if T.getD n 0 < u.getD n 0+b then 1 else 0):=by
   rw [iI (T:=T) (C:=n) (by omega),tJ (by omega)]
   simp only [o8,xV,List.tail_drop,List.append_assoc,List.cons_append,List.nil_append]
  rw [step] at J
  have f:(if T.getD n 0 < u.getD n 0+b then 1 else 0)≤1:=by split <;> omega
  unfold jS.dN.t jS.dD.t
  refine cD (fun aP=>?_) fun aP=>absurd (by omega) aP
  refine cD (fun aP=>?_) fun aP=>?_
  ·refine fG (O.B b1) (C:=n) rfl rfl (by omega) ?_
   refine fG (s.B b1) (C:=n) rfl rfl (by omega) ?_
   refine vH rfl rfl rfl e K6 ?_
   refine mX c (C:=n) rfl (by omega) (by omega) rfl (by omega) fun q=>?_
   refine cP ((n+1:Nat):Int) (by omega) (by omega) (by omega) ?_
   exact i (n+1) _ _ _ (by omega) f (by rw [List.length_set];omega) q (b1.set d) J
  ·refine fG (s.B b1) (C:=n) rfl rfl (by omega) ?_
   have K7:u.getD n 0=0:=by simp [List.getD,show u.length≤n by omega]
   rw [K7] at J f
   refine vH (N:=0) rfl rfl rfl e (by omega) ?_
   refine mX c (C:=n) rfl (by omega) (by omega) rfl (by omega) fun q=>?_
   refine cP ((n+1:Nat):Int) (by omega) (by omega) (by omega) ?_
   exact i (n+1) _ _ _ (by omega) f (by rw [List.length_set];omega) q (b1.set d) J
theorem Gw{a N:U}{L bH l m:Nat}{T u:List Nat}{Z:V}(s:bJ Z a L T)(O:bJ Z N bH u)(e:l=T.length)(f:m=u.length):
  aF jS.id #[.slice a l L,.slice N m bH] Z fun v A=>a4 Z A∧fD Z A v (lH T u):=by
 refine jS.ok ?_
 unfold jS.t jS.F.t
 refine bF (oB s e) fun v A ⟨c,d⟩=>?_
 subst c;subst d
 refine aO rfl ?_
 refine h9 (fun dJ=>⟨a4.refl _,?_⟩) fun dJ=>?_
 ·unfold lH;rw [if_neg (fun b=>of_decide_eq_false dJ b.1)];exact fD.none
 refine bF (oB O f) fun v A ⟨c,d⟩=>?_
 subst c;subst d
 refine aO rfl ?_
 refine h9 (fun g=>⟨a4.refl _,?_⟩) fun g=>?_
 ·unfold lH;rw [if_neg (fun b=>of_decide_eq_false g b.2)];exact fD.none
 have h:=of_decide_eq_true dJ
 have i:=of_decide_eq_true g
 unfold lH;rw [if_pos ⟨h,i⟩]
 unfold jS.aC.t
 refine bF (AJ s O e f) fun v A ⟨c,d⟩=>?_
 subst c;subst d
 refine bI rfl ?_
 refine cD (fun aP=>⟨a4.refl _,?_⟩) fun aP=>?_
 ·have:val T < val u:=by
   unfold e6 at aP;split at aP
   ·assumption
   ·split at aP <;> omega
  rw [if_pos this];exact fD.none
 ·have dE:¬ val T < val u:=fun b=>by unfold e6 at aP;rw [if_pos b] at aP;omega
  rw [if_neg dE]
  subst e;subst f
  have j:=h.1
  have n:u.length≤T.length:=Nat.le_of_not_lt fun b=>by
   have:=q2 s.words i.2 b;omega
  refine nQ T.length rfl rfl rfl rfl (by omega) fun a0 q M=>?_
  unfold jS.cA.t
  refine⟨T.length+1,?_⟩
  refine Gu s O rfl rfl (Nat.le_refl _) j rfl rfl (o8 T u 0) ?_ T.length 0 0 _ a0 (by omega) (by omega) (by simp) q M (by simp)
  have:=Aj T u 0 s.words O.words n (by omega) (by omega)
  rw [show val (o8 T u 0)=val T - val u by omega]
  exact fun v A M D=>⟨M,D⟩
theorem yF{T u:List Nat}(a:gI T)(b:gI u)(Z:val u≤val T):lH T u=eS (val T - val u):=by
 unfold lH;rw [if_pos ⟨a,b⟩,if_neg (by omega)]
def r3(z:Nat):List Nat→Nat→List Nat
 | [],L=>[L]
 | I :: T,L=>(I*z % 18446744073709551616+L) :: r3 z T (I*z / 18446744073709551616)
theorem Df(z:Nat):∀ (T:List Nat) (L:Nat),val (r3 z T L)=val T*z+L
 | [],L=>by simp [r3,val]
 | I :: T,L=>by
  simp only [r3,val,Df z T,Nat.add_mul,Nat.mul_assoc]
  generalize I*z=aN;generalize val T*z=b3;omega
theorem Gx{M I:Nat}(a:M < 64):I / 2 / 2 ^ (63 - M)=I*2 ^ M / 18446744073709551616:=by
 have Z:I / 2 / 2 ^ (63 - M)=I / 2 ^ (64 - M):=by
  rw [Nat.div_div_eq_div_mul,← Nat.pow_succ',show(63 - M).succ=64 - M by omega]
 rw [Z,← mY a,Nat.mul_comm I,Nat.mul_div_mul_left _ _ (Nat.pow_pos (by decide))]
theorem Dg{M I L:Nat}(a:M < 64)(b:L < 2 ^ M):L ||| (I*2 ^ M % 18446744073709551616)=I*2 ^ M % 18446744073709551616+L:=by
 have J:I*2 ^ M % 18446744073709551616=2 ^ M*(I % 2 ^ (64 - M)):=by
  rw [← mY a,Nat.mul_comm I,Nat.mul_mod_mul_left]
 rw [J];exact CW b
theorem Dh{M I:Nat}(a:I < 18446744073709551616):I*2 ^ M / 18446744073709551616 < 2 ^ M:=by
 rw [Nat.div_lt_iff_lt_mul (by decide),Nat.mul_comm]
 exact Nat.mul_lt_mul_of_pos_left a (Nat.pow_pos (by decide))
theorem Di{M I L:Nat}(a:M < 64)(c:L < 2 ^ M):I*2 ^ M % 18446744073709551616+L < 18446744073709551616:=by
 have J:I*2 ^ M % 18446744073709551616=2 ^ M*(I % 2 ^ (64 - M)):=by
  rw [← mY a,Nat.mul_comm I,Nat.mul_mod_mul_left]
 have a0:I % 2 ^ (64 - M)+1≤2 ^ (64 - M):=Nat.mod_lt _ (Nat.pow_pos (by decide))
 have b:=Nat.mul_le_mul_left (2 ^ M) a0
 rw [mY a,Nat.mul_add,Nat.mul_one] at b
 omega
theorem Gy{Y:K}{a:U}{L l m M b3 aA:Nat}{T:List Nat}{aB:V}{o:Nat}(s:bJ aB a L T)(i:l=T.length)(d:aB.size≤o)(Lb:T.length≤8192)(Lc:m≤8192)(b:M < 64)(Ld:b3=m+T.length+1)(Le:aA=m+T.length+1)
  (eO:List Nat) (g:∀ v A,a4 aB A→fD aB A v (eS (val eO))→Y v A) :
  ∀ (C n:Nat) (aK:List Nat) (Z:V),n+C=T.length→aK.length=m+T.length+1→aK.getD (m+n) 0 < 2 ^ M→eM Z o aK→a4 aB Z→aK.take (m+n) ++ r3 (2 ^ M) (T.drop n) (aK.getD (m+n) 0)=eO→
   lI.bG.t Y (C+1) a l L (m:Int) (M:Int) (some ⟨o,0,none⟩) b3 aA (l:Int) (n:Int) Z:=by
 subst i
 intro C
 induction C with
 | zero=>
  intro n aK Z j D e c b1 J
  unfold lI.bG.t lI.b0.t
  refine cD (fun aP=>absurd aP (by omega)) fun _=>?_
  have E:n=T.length:=by omega
  subst E
  rw [List.drop_length] at J
  have G:aK=eO:=by
   rw [← J];show aK=_ ++ [_]
   rw [← lX (by omega),List.take_of_length_le (by omega)]
  subst G
  unfold lI.aC.t
  refine bF (wL (c.oA (L:=aA) d (by omega)) (by omega)) fun v A ⟨H,P⟩=>?_
  subst H
  refine P.nU fun a L s Q=>?_
  exact g _ _ b1 (fD.back s Q)
 | succ C K5=>
  intro n aK Z j D e c b1 J
  have K6:T.getD n 0 < 18446744073709551616:=s.word n
  have K7:=Di (I:=T.getD n 0) b e
  have K8:=Dh (M:=M) K6
  have Lf:2 ^ M < 18446744073709551616:=An b
  have K9:=Gx (I:=T.getD n 0) b
  rw [iI (T:=T) (C:=n) (by omega)] at J
  simp only [r3] at J
  unfold lI.bG.t lI.b0.t
  refine cD (fun aP=>?_) fun aP=>absurd (by omega) aP
  refine cP ((m+n:Nat):Int) (by omega) (by omega) (by omega) ?_
  refine fG (c.rd (L:=aA) (by omega)) (C:=m+n) rfl (by omega) (by omega) ?_
  refine fG (s.B b1) (C:=n) rfl rfl (by omega) ?_
  refine rZ rfl M _ (by omega) rfl rfl ?_
  refine x9 rfl rfl (by omega) (Nat.mod_lt _ (by decide)) ?_
  rw [Dg b e]
  refine mX c (C:=m+n) rfl (by omega) (by omega) rfl K7 fun q=>?_
  have f:=b1.set (v:=g2 (T.getD n 0*2 ^ M % 18446744073709551616+aK.getD (m+n) 0)) (Q:=m+n) d
  refine cP ((m+n:Nat):Int) (by omega) (by omega) (by omega) ?_
  refine cP ((m+n+1:Nat):Int) (by omega) (by omega) (by omega) ?_
  refine fG (s.B f) (C:=n) rfl rfl (by omega) ?_
  refine lZ rfl 1 2 (by omega) (by decide) (by omega) ?_
  refine cP ((63 - M:Nat):Int) (by omega) (by omega) (by omega) ?_
  refine lZ rfl (63 - M) _ (by omega) rfl rfl ?_
  rw [K9]
  refine mX q (C:=m+n+1) rfl (by rw [List.length_set];omega) (by rw [List.length_set];omega) rfl (by omega) fun La=>?_
  refine cP ((n+1:Nat):Int) (by omega) (by omega) (by omega) ?_
  have h:((aK.set (m+n) (T.getD n 0*2 ^ M % 18446744073709551616+aK.getD (m+n) 0)).set (m+n+1) (T.getD n 0*2 ^ M / 18446744073709551616)).getD (m+(n+1)) 0=T.getD n 0*2 ^ M / 18446744073709551616:=by
   rw [← Nat.add_assoc];simp [List.getD,show m+n+1 < aK.length by omega]
  refine K5 (n+1) _ _ (by omega) (by simp;omega) (by rw [h];exact K8) La (f.set d) ?_
  rw [h,← J,← Nat.add_assoc,List.take_set_of_le (Nat.le_refl _),tJ (by omega)]
  simp
def r4(T:List Nat)(n:Int):List Nat × Int:=if n < 0 then([],1) else if gI T then eS (val T*2 ^ n.toNat) else([],2)
theorem Gz{a:U}{L l:Nat}{T:List Nat}{Z:V}(s:bJ Z a L T)(d:l=T.length){n:Int}(j:n < 9223372036854775808):
  aF lI.id #[.slice a l L,.int .i64 n] Z fun v A=>a4 Z A∧fD Z A v (r4 T n):=by
 refine lI.ok ?_
 unfold lI.t lI.F.t
 refine cD (fun aP=>⟨a4.refl _,?_⟩) fun aP=>?_
 ·unfold r4;rw [if_pos aP];exact fD.none
 unfold r4;rw [if_neg aP]
 obtain⟨bN,rfl⟩:∃ bN:Nat,n=(bN:Int):=⟨n.toNat,by omega⟩
 rw [Int.toNat_natCast]
 refine bF (oB s d) fun v A ⟨b,c⟩=>?_
 subst b;subst c;subst d
 refine aO rfl ?_
 refine h9 (fun dJ=>⟨a4.refl _,?_⟩) fun dJ=>?_
 ·rw [if_neg (of_decide_eq_false dJ)];exact fD.none
 have a9:=of_decide_eq_true dJ
 rw [if_pos a9]
 have e:=a9.1
 refine hU (fun aB=>⟨a4.refl _,?_⟩) fun aB=>?_
 ·have J:T=[]:=List.length_eq_zero_iff.mp (by omega)
  subst J
  have J:eS (val []*2 ^ bN)=([],0):=by simp [val,eS,dM]
  rw [J];exact fD.none
 refine bF (CV s rfl) fun v A ⟨b,c⟩=>?_
 subst b;subst c
 refine bI rfl ?_
 have aU:val T ≠ 0:=fun J=>by
  have:=o7.mpr J
  rw [a9.2] at this;subst this;simp at aB
 have D:eU (val T)≤524288:=by
  rw [Am,a9.aE s.words];exact e
 refine cP (524288 - (eU (val T):Int)) rfl (by omega) (by omega) ?_
 refine cD (fun E=>⟨a4.refl _,?_⟩) fun G=>?_
 ·rw [Fy (by rw [wC bN aU];omega)];exact fD.none
 have H:=q3 aU
 refine⟨by decide,cP ((bN / 64:Nat):Int) (oC bN 64) (by omega) (by omega) ?_⟩
 refine⟨by decide,jO (r0 bN 64) ?_⟩
 refine cP ((bN / 64+T.length:Nat):Int) (by omega) (by omega) (by omega) ?_
 refine cP ((bN / 64+T.length+1:Nat):Int) (by omega) (by omega) (by omega) ?_
 refine nQ (bN / 64+T.length+1) rfl rfl rfl rfl (by omega) fun a0 q M=>?_
 unfold lI.a7.t
 refine⟨T.length+1,?_⟩
 have f:(List.replicate (bN / 64+T.length+1) 0).getD (bN / 64+0) 0=0:=by
  simp only [List.getD,List.getElem?_replicate];split <;> rfl
 refine Gy s rfl (Nat.le_refl _) e (by omega) (Nat.mod_lt _ (by decide)) rfl rfl (List.replicate (bN / 64) 0 ++ r3 (2 ^ (bN % 64)) T 0) ?_ T.length 0 _ a0 (by omega) (by simp) (by rw [f];exact Nat.pow_pos (by decide)) q M ?_
 ·have J:val (List.replicate (bN / 64) 0 ++ r3 (2 ^ (bN % 64)) T 0)=val T*2 ^ bN:=by
   have g:∀ m,val (List.replicate m 0)=0:=by
    intro m;induction m with
    | zero=>rfl
    | succ m h=>rw [List.replicate_succ];simp [val,h]
   rw [hR,g,Df,List.length_replicate,Nat.zero_add,Nat.add_zero,Nat.mul_comm,Nat.mul_assoc,← Nat.pow_add,show bN % 64+64*(bN / 64)=bN by omega]
  rw [J];exact fun v A M i=>⟨M,i⟩
 ·rw [f];simp [List.take_replicate,show min (bN / 64) (bN / 64+T.length+1)=bN / 64 by omega]
def r5(z o:Nat):List Nat→List Nat
 | []=>[]
 | I :: T=>(I / z+T.headD 0*o % 18446744073709551616) :: r5 z o T
theorem Dj{z o:Nat}(Z:z*o=18446744073709551616)(a:0 < z)(b:0 < o):∀ T:List Nat,val (r5 z o T)=val T / z
 | []=>by simp [r5,val]
 | I :: T=>by
  simp only [r5,val,Dj Z a b T]
  have c:(I+18446744073709551616*val T) / z=I / z+o*val T:=by
   rw [← Z,Nat.mul_assoc,Nat.add_mul_div_left _ _ a]
  rw [c]
  have cO:=xW T
  generalize T.headD 0=dU at *
  generalize val T.tail=t at *
  have d:val T / z=dU / z+o*t:=by
   rw [cO,← Z,Nat.mul_assoc,Nat.add_mul_div_left _ _ a]
  have e:dU*o / 18446744073709551616=dU / z:=by rw [← Z,Nat.mul_div_mul_right _ _ b]
  have f:o*(dU+18446744073709551616*t)=dU*o+18446744073709551616*(o*t):=by rw [Nat.mul_add,Nat.mul_left_comm o,Nat.mul_comm o dU]
  rw [d,cO,← e,f]
  generalize dU*o=b3;generalize o*t=aN;omega
theorem GA{M I aN:Nat}(a:M < 64)(b:I < 18446744073709551616):(I / 2 ^ M) ||| (aN*2 % 18446744073709551616*2 ^ (63 - M) % 18446744073709551616)=I / 2 ^ M+aN*2 ^ (64 - M) % 18446744073709551616:=by
 have c:aN*2 % 18446744073709551616*2 ^ (63 - M) % 18446744073709551616=aN*2 ^ (64 - M) % 18446744073709551616:=by
  rw [Nat.mod_mul_mod,Nat.mul_assoc,← Nat.pow_succ',show(63 - M).succ=64 - M by omega]
 have d:aN*2 ^ (64 - M) % 18446744073709551616=2 ^ (64 - M)*(aN % 2 ^ M):=by
  rw [← mY a,Nat.mul_comm aN,Nat.mul_comm (2 ^ M),Nat.mul_mod_mul_left]
 have dE:I / 2 ^ M < 2 ^ (64 - M):=by
  rw [Nat.div_lt_iff_lt_mul (Nat.pow_pos (by decide)),Nat.mul_comm,mY a];exact b
 rw [c,d,CW dE,Nat.add_comm]
theorem GB{M I aN:Nat}(a:M < 64)(b:I < 18446744073709551616):I / 2 ^ M+aN*2 ^ (64 - M) % 18446744073709551616 < 18446744073709551616:=by
 have d:aN*2 ^ (64 - M) % 18446744073709551616=2 ^ (64 - M)*(aN % 2 ^ M):=by
  rw [← mY a,Nat.mul_comm aN,Nat.mul_comm (2 ^ M),Nat.mul_mod_mul_left]
 have dE:I / 2 ^ M < 2 ^ (64 - M):=by
  rw [Nat.div_lt_iff_lt_mul (Nat.pow_pos (by decide)),Nat.mul_comm,mY a];exact b
 have a0:aN % 2 ^ M+1≤2 ^ M:=Nat.mod_lt _ (Nat.pow_pos (by decide))
 have c:=Nat.mul_le_mul_left (2 ^ (64 - M)) a0
 rw [Nat.mul_comm (2 ^ (64 - M)) (2 ^ M),mY a,Nat.mul_add,Nat.mul_one] at c
 omega
theorem GC{Y:K}{a:U}{L l m M b3 aA:Nat}{T:List Nat}{aB:V}{o:Nat}(s:bJ aB a L T)(i:l=T.length)(b:aB.size≤o)(K8:T.length≤8192)(e:M < 64)(K9:m < T.length)(La:b3=T.length - m)(Lb:aA=T.length - m)
  (eO:List Nat) (g:∀ v A,a4 aB A→fD aB A v (eS (val eO))→Y v A) :
  ∀ (C n:Nat) (aK:List Nat) (Z:V),m+n+C=T.length→aK.length=T.length - m→eM Z o aK→a4 aB Z→aK.take n ++ r5 (2 ^ M) (2 ^ (64 - M)) (T.drop (m+n))=eO→
   kY.bG.t Y (C+1) a l L (m:Int) (M:Int) (some ⟨o,0,none⟩) b3 aA (b3:Int) (n:Int) Z:=by
 subst i
 intro C
 induction C with
 | zero=>
  intro n aK Z j D c b1 J
  unfold kY.bG.t kY.b0.t
  refine cD (fun aP=>absurd aP (by omega)) fun _=>?_
  rw [List.drop_of_length_le (by omega)] at J
  have E:aK=eO:=by
   rw [← J];simp only [r5,List.append_nil]
   rw [List.take_of_length_le (by omega)]
  subst E
  unfold kY.aC.t
  refine bF (wL (c.oA (L:=aA) b (by omega)) (by omega)) fun v A ⟨G,H⟩=>?_
  subst G
  refine H.nU fun a L s Q=>?_
  exact g _ _ b1 (fD.back s Q)
 | succ C f=>
  intro n aK Z j D c b1 J
  have h:T.getD (m+n) 0 < 18446744073709551616:=s.word _
  have Lc:T.getD (m+n+1) 0 < 18446744073709551616:=s.word _
  have dE:=GB (M:=M) (aN:=T.getD (m+n+1) 0) e h
  have Ld:T.getD (m+n) 0 / 2 ^ M≤T.getD (m+n) 0:=Nat.div_le_self _ _
  rw [iI (T:=T) (C:=m+n) (by omega)] at J
  simp only [r5,xV] at J
  unfold kY.bG.t kY.b0.t
  refine cD (fun aP=>?_) fun aP=>absurd (by omega) aP
  refine cP ((m+n:Nat):Int) (by omega) (by omega) (by omega) ?_
  refine fG (s.B b1) (C:=m+n) rfl rfl (by omega) ?_
  refine lZ rfl M _ (by omega) rfl rfl ?_
  refine mX c (C:=n) rfl (by omega) (by omega) rfl (by omega) fun q=>?_
  have d:=b1.set (v:=g2 (T.getD (m+n) 0 / 2 ^ M)) (Q:=n) b
  refine cP ((m+n:Nat):Int) (by omega) (by omega) (by omega) ?_
  refine cP ((m+n+1:Nat):Int) (by omega) (by omega) (by omega) ?_
  refine cD (fun P=>?_) fun P=>?_
  ·refine fG (q.rd (L:=aA) (by rw [List.length_set];omega)) (C:=n) rfl (by rw [List.length_set];omega) (by rw [List.length_set];omega) ?_
   have K5:(aK.set n (T.getD (m+n) 0 / 2 ^ M)).getD n 0=T.getD (m+n) 0 / 2 ^ M:=by
    simp [List.getD,show n < aK.length by omega]
   rw [K5]
   refine cP ((m+n:Nat):Int) (by omega) (by omega) (by omega) ?_
   refine cP ((m+n+1:Nat):Int) (by omega) (by omega) (by omega) ?_
   refine fG (s.B d) (C:=m+n+1) rfl rfl (by omega) ?_
   refine rZ rfl 1 2 (by omega) (by decide) (by omega) ?_
   refine cP ((63 - M:Nat):Int) (by omega) (by omega) (by omega) ?_
   refine rZ rfl (63 - M) _ (by omega) rfl rfl ?_
   refine x9 rfl rfl (by omega) (Nat.mod_lt _ (by decide)) ?_
   rw [GA e h]
   refine mX q (C:=n) rfl (by rw [List.length_set];omega) (by rw [List.length_set];omega) rfl dE fun K6=>?_
   refine cP ((n+1:Nat):Int) (by omega) (by omega) (by omega) ?_
   refine f (n+1) _ _ (by omega) (by simp;omega) K6 (d.set b) ?_
   rw [← J,List.set_set,tJ (by omega)]
   simp [Nat.add_assoc]
  ·refine cP ((n+1:Nat):Int) (by omega) (by omega) (by omega) ?_
   refine f (n+1) _ _ (by omega) (by simp;omega) q d ?_
   have K7:T.getD (m+n+1) 0=0:=by simp [List.getD,show T.length≤m+n+1 by omega]
   rw [K7] at J
   rw [← J,tJ (by omega)]
   simp [Nat.add_assoc]
def qI(T:List Nat)(n:Int):List Nat × Int:=if n < 0 then([],1) else if gI T then eS (val T / 2 ^ n.toNat) else([],2)
theorem Dk{a:U}{L l:Nat}{T:List Nat}{Z:V}(s:bJ Z a L T)(b:l=T.length){n:Int}(h:n < 9223372036854775808):
  aF kY.id #[.slice a l L,.int .i64 n] Z fun v A=>a4 Z A∧fD Z A v (qI T n):=by
 refine kY.ok ?_
 unfold kY.t kY.F.t
 refine cD (fun aP=>⟨a4.refl _,?_⟩) fun aP=>?_
 ·unfold qI;rw [if_pos aP];exact fD.none
 unfold qI;rw [if_neg aP]
 obtain⟨bN,rfl⟩:∃ bN:Nat,n=(bN:Int):=⟨n.toNat,by omega⟩
 rw [Int.toNat_natCast]
 refine bF (oB s b) fun v A ⟨c,d⟩=>?_
 subst c;subst d;subst b
 refine aO rfl ?_
 refine h9 (fun dJ=>⟨a4.refl _,?_⟩) fun dJ=>?_
 ·rw [if_neg (of_decide_eq_false dJ)];exact fD.none
 have a9:=of_decide_eq_true dJ
 rw [if_pos a9]
 have e:=a9.1
 have f:bN=64*(bN / 64)+bN % 64:=by omega
 have cO:val T / 2 ^ bN=val (T.drop (bN / 64)) / 2 ^ (bN % 64):=by
  rw [kW s.words,Nat.div_div_eq_div_mul,← Nat.pow_add,← f]
 rw [cO]
 refine⟨by decide,cP ((bN / 64:Nat):Int) (oC bN 64) (by omega) (by omega) ?_⟩
 refine⟨by decide,jO (r0 bN 64) ?_⟩
 refine cD (fun i=>⟨a4.refl _,?_⟩) fun dE=>?_
 ·rw [List.drop_of_length_le (by omega)]
  have J:eS (val [] / 2 ^ (bN % 64))=([],0):=by simp [val,eS,dM]
  rw [J];exact fD.none
 ·refine cP ((T.length - bN / 64:Nat):Int) (by omega) (by omega) (by omega) ?_
  refine nQ (T.length - bN / 64) rfl rfl rfl rfl (by omega) fun a0 q M=>?_
  unfold kY.a7.t
  refine⟨T.length - bN / 64+1,?_⟩
  refine GC s rfl (Nat.le_refl _) e (Nat.mod_lt _ (by decide)) (by omega) rfl rfl (r5 (2 ^ (bN % 64)) (2 ^ (64 - bN % 64)) (T.drop (bN / 64))) ?_ (T.length - bN / 64) 0 _ a0 (by omega) (by simp) q M (by simp)
  rw [Dj (mY (Nat.mod_lt _ (by decide))) (Nat.pow_pos (by decide)) (Nat.pow_pos (by decide))]
  exact fun v A M g=>⟨M,g⟩
def yG(v:Value)(a N:Nat):Prop:=v=.tuple #[.int .u64 (a:Int),.int .u64 (N:Int)]
theorem yG.elim{v:Value}{a N:Nat}{p:Int→Int→Prop}(J:yG v a N)(g:p (a:Int) (N:Int)):
  c0 v fun aN=>bR aN fun b g4=>aV .u64 b fun I=>bR g4 fun c d=>aV .u64 c fun b3=>bC d (p I b3):=by
 subst J;exact g
theorem GD{I aN a3 aQ kM g4 a N L bH:Nat}(b:I=a3+4294967296*aQ)(c:aN=kM+4294967296*g4)(d:a=a3*kM)(aP:N=aQ*kM)(e:L=a3*g4)(aJ:bH=aQ*g4):I*aN=a+4294967296*(N+L)+18446744073709551616*bH:=by
 subst b;subst c;subst d;subst aP;subst e;subst aJ
 rw [Nat.add_mul,Nat.mul_add,Nat.mul_add]
 have f:a3*(4294967296*g4)=4294967296*(a3*g4):=Nat.mul_left_comm _ _ _
 have g:4294967296*aQ*kM=4294967296*(aQ*kM):=Nat.mul_assoc _ _ _
 have h:4294967296*aQ*(4294967296*g4)=18446744073709551616*(aQ*g4):=by
  rw [Nat.mul_assoc,Nat.mul_left_comm aQ,← Nat.mul_assoc]
 rw [f,g,h];omega
theorem Dl{I aN:Nat}(b:I < 18446744073709551616)(c:aN < 18446744073709551616)(Z:V):
  aF r6.id #[.int .u64 (I:Int),.int .u64 (aN:Int)] Z fun v A=>A=Z∧yG v (I*aN / 18446744073709551616) (I*aN % 18446744073709551616):=by
 refine r6.ok ?_
 unfold r6.t r6.F.t
 have f:=tQ (a:=I % 4294967296) (N:=aN % 4294967296) (by omega) (by omega)
 have aP:=tQ (a:=I / 4294967296) (N:=aN % 4294967296) (by omega) (by omega)
 have g:=tQ (a:=I % 4294967296) (N:=aN / 4294967296) (by omega) (by omega)
 have aJ:=tQ (a:=I / 4294967296) (N:=aN / 4294967296) (by omega) (by omega)
 have J:=GD (I:=I) (aN:=aN) (a3:=I % 4294967296) (aQ:=I / 4294967296) (kM:=aN % 4294967296) (g4:=aN / 4294967296) (by omega) (by omega) rfl rfl rfl rfl
 refine m3 rfl b ?_
 refine lZ rfl 32 4294967296 (by omega) (by decide) (by omega) ?_
 refine m3 rfl c ?_
 refine lZ rfl 32 4294967296 (by omega) (by decide) (by omega) ?_
 refine dR (I % 4294967296*(aN % 4294967296)) (by norm_cast) (by omega) ?_
 refine dR (I / 4294967296*(aN % 4294967296)) (by norm_cast) (by omega) ?_
 have a0:((I % 4294967296:Nat):Int)*((aN / 4294967296:Nat):Int)=((I % 4294967296*(aN / 4294967296):Nat):Int):=by norm_cast
 have d:((I / 4294967296:Nat):Int)*((aN / 4294967296:Nat):Int)=((I / 4294967296*(aN / 4294967296):Nat):Int):=by norm_cast
 have e:(I:Int)*(aN:Int)=((I*aN:Nat):Int):=by norm_cast
 rw [a0,d,e]
 generalize I % 4294967296*(aN % 4294967296)=a at *
 generalize I / 4294967296*(aN % 4294967296)=N at *
 generalize I % 4294967296*(aN / 4294967296)=L at *
 generalize I / 4294967296*(aN / 4294967296)=bH at *
 generalize I*aN=z at *
 refine lZ rfl 32 4294967296 (by omega) (by decide) (by omega) ?_
 refine dR (N+a / 4294967296) (by omega) (by omega) ?_
 refine m3 rfl (by omega) ?_
 refine lZ rfl 32 4294967296 (by omega) (by decide) (by omega) ?_
 refine dR L rfl (by omega) ?_
 refine dR ((N+a / 4294967296) % 4294967296+L) (by omega) (by omega) ?_
 refine dR bH rfl (by omega) ?_
 refine dR (bH+(N+a / 4294967296) / 4294967296) (by omega) (by omega) ?_
 refine lZ rfl 32 4294967296 (by omega) (by decide) (by omega) ?_
 refine dR (z / 18446744073709551616) (by omega) (by omega) ?_
 refine jO (aN:=((z % 18446744073709551616:Nat):Int)) (by rw [wrap_u64];omega) ?_
 exact⟨rfl,rfl⟩
theorem Dm{aA:Nat}(a:aA < 18446744073709551616)(Z:V):aF mI.id #[.int .u64 (aA:Int)] Z fun v A=>a4 Z A∧wJ Z A v (aE aA):=by
 refine mI.ok ?_
 unfold mI.t mI.F.t
 refine hU (fun aB=>⟨a4.refl _,?_⟩) fun aB=>?_
 ·have:aA=0:=by omega
  subst this;rw [dM];exact⟨none,0,rfl,cN.nil _ _⟩
 ·refine Cm [aA] (by rfl) (by simp) (by simpa using a) fun a0 q M=>⟨M,?_⟩
  have J:aE aA=[aA]:=by
   rw [lA (by omega),show aA / 18446744073709551616=0 by omega,dM,Nat.mod_eq_of_lt a]
  rw [J];exact⟨_,_,rfl,q.oA (Nat.le_refl _) (by simp)⟩
theorem Dn{I:Nat}(a:I < 18446744073709551616)(Z:V):aF r7.id #[.int .u64 (I:Int)] Z fun v A=>A=Z∧v=.int .i64 ((64 - eU I:Nat):Int):=by
 refine r7.ok ?_
 unfold r7.t r7.F.t
 refine bF (CU rfl a _) fun v A ⟨b,c⟩=>?_
 subst b;subst c
 refine bI rfl ?_
 have:eU I≤64:=j6.mpr a
 exact cP ((64 - eU I:Nat):Int) (by omega) (by omega) (by omega) ⟨rfl,rfl⟩
structure pI(fZ eE eN e2 o s:Nat):Prop where
 rest:o*eN+s=fZ
 up:fZ*4294967296+eE < (o+1)*(eN*4294967296+e2)
theorem pI.yH{fZ eE eN e2 o s:Nat}(g:pI fZ eE eN e2 o s)(c:fZ < eN*4294967296+e2)(d:eE < 4294967296)(aP:4294967296≤o∨o*e2 > 4294967296*s+eE):1≤o∧pI fZ eE eN e2 (o - 1) (s+eN):=by
 have b:1≤o:=by
  rcases aP with Z | Z
  ·omega
  ·exact Nat.pos_of_ne_zero fun J=>by subst J;simp at Z
 obtain⟨z,rfl⟩:∃ z,o=z+1:=⟨o - 1,by omega⟩
 refine⟨b,?_,?_⟩
 ·have:=g.rest
  rw [Nat.add_mul,Nat.one_mul] at this
  rw [Nat.add_sub_cancel];omega
 ·rw [Nat.add_sub_cancel]
  rcases aP with Z | Z
  ·have a0:4294967296*(eN*4294967296+e2)≤(z+1)*(eN*4294967296+e2):=Nat.mul_le_mul_right _ Z
   generalize (z+1)*(eN*4294967296+e2)=b3 at *;omega
  ·have a0:=g.rest
   rw [Nat.mul_add,← Nat.mul_assoc]
   generalize (z+1)*eN=a at *
   generalize (z+1)*e2=N at *
   omega
theorem pI.fits{fZ eE eN e2 o s:Nat}(g:pI fZ eE eN e2 o s)(aP:o*e2≤4294967296*s+eE):o=(fZ*4294967296+eE) / (eN*4294967296+e2):=by
 have a0:=g.rest
 have c:o*(eN*4294967296+e2)≤fZ*4294967296+eE:=by
  rw [Nat.mul_add,← Nat.mul_assoc]
  generalize o*eN=a at *;generalize o*e2=N at *;omega
 have b:=g.up
 have d:0 < eN*4294967296+e2:=Nat.pos_of_ne_zero fun J=>by rw [J] at b;simp at b
 refine(Nat.div_eq_of_lt_le ?_ ?_).symm
 ·exact c
 ·exact b
theorem GF{Y:K}{bA O eN e2 eE b7 fZ:Nat}{Z:V}(d:fZ < eN*4294967296+e2)(e:eE < 4294967296)(m:eN < 4294967296)(n:e2 < 4294967296)
  (a:gQ.b0.t Y (bA:Int) (O:Int) (eE:Int) (b7:Int) (fZ:Int) (((fZ*4294967296+eE) / (eN*4294967296+e2):Nat):Int) Z) :
  ∀ (M o s:Nat),pI fZ eE eN e2 o s→o≤4294967297→s < 4294967296→4294967296≤s+(M+1)*eN→
   gQ.gN.t Y (M+1) (bA:Int) (O:Int) (eN:Int) (e2:Int) (eE:Int) (b7:Int) (s:Int) (fZ:Int) (o:Int) Z:=by
 intro M
 induction M with
 | zero=>
  intro o s g i j f
  have step:(4294967296≤o∨o*e2 > 4294967296*s+eE)→gQ.eL.t Y (gQ.gN.t Y 0) (bA:Int) (O:Int) (eN:Int) (e2:Int) (eE:Int) (b7:Int) (s:Int) (fZ:Int) (o:Int) Z:=by
   intro aP
   obtain⟨a0,b⟩:=g.yH d e aP
   unfold gQ.eL.t
   refine dR (o - 1) (by omega) (by omega) ?_
   refine dR (s+eN) (by omega) (by omega) ?_
   refine cD (fun _=>?_) fun h=>absurd (by omega) h
   have c:(o - 1)*e2≤4294967296*4294967295:=Nat.mul_le_mul (by omega) (by omega)
   rw [← b.fits (by omega)] at a;exact a
  unfold gQ.gN.t gQ.eC.t
  refine cD (fun aP=>step (Or.inl (by omega))) fun aP=>?_
  have c:o*e2≤4294967295*4294967295:=Nat.mul_le_mul (by omega) (by omega)
  refine dR (o*e2) (by norm_cast) (by omega) ?_
  refine dR (4294967296*s) (by omega) (by omega) ?_
  refine dR (4294967296*s+eE) (by omega) (by omega) ?_
  refine cD (fun aP=>step (Or.inr (by omega))) fun aP=>?_
  rw [← g.fits (by omega)] at a;exact a
 | succ M l=>
  intro o s g i j f
  have step:(4294967296≤o∨o*e2 > 4294967296*s+eE)→gQ.eL.t Y (gQ.gN.t Y (M+1)) (bA:Int) (O:Int) (eN:Int) (e2:Int) (eE:Int) (b7:Int) (s:Int) (fZ:Int) (o:Int) Z:=by
   intro aP
   obtain⟨a0,b⟩:=g.yH d e aP
   unfold gQ.eL.t
   refine dR (o - 1) (by omega) (by omega) ?_
   refine dR (s+eN) (by omega) (by omega) ?_
   refine cD (fun _=>?_) fun h=>?_
   ·have c:(o - 1)*e2≤4294967296*4294967295:=Nat.mul_le_mul (by omega) (by omega)
    rw [← b.fits (by omega)] at a;exact a
   ·refine l _ _ b (by omega) (by omega) ?_
    rw [Nat.add_mul,Nat.one_mul] at f
    omega
  unfold gQ.gN.t gQ.eC.t
  refine cD (fun aP=>step (Or.inl (by omega))) fun aP=>?_
  have c:o*e2≤4294967295*4294967295:=Nat.mul_le_mul (by omega) (by omega)
  refine dR (o*e2) (by norm_cast) (by omega) ?_
  refine dR (4294967296*s) (by omega) (by omega) ?_
  refine dR (4294967296*s+eE) (by omega) (by omega) ?_
  refine cD (fun aP=>step (Or.inr (by omega))) fun aP=>?_
  rw [← g.fits (by omega)] at a;exact a
theorem GG{Y:K}{bA O eN e2 eE b fZ:Nat}{Z:V}(e:fZ < eN*4294967296+e2)(f:eE < 4294967296)(n:eN < 4294967296)(v:e2 < 4294967296)
  (a:gQ.cA.t Y (bA:Int) (O:Int) (eN:Int) (e2:Int) (fZ:Int) (eE:Int) (b:Int) (((fZ*4294967296+eE) / (eN*4294967296+e2):Nat):Int) Z) :
  ∀ (M o s:Nat),pI fZ eE eN e2 o s→o≤4294967297→s < 4294967296→4294967296≤s+(M+1)*eN→
   gQ.j2.t Y (M+1) (bA:Int) (O:Int) (eN:Int) (e2:Int) (fZ:Int) (eE:Int) (b:Int) (o:Int) (s:Int) Z:=by
 intro M
 induction M with
 | zero=>
  intro o s g j l h
  have step:(4294967296≤o∨o*e2 > 4294967296*s+eE)→gQ.kB.t Y (gQ.j2.t Y 0) (bA:Int) (O:Int) (eN:Int) (e2:Int) (fZ:Int) (eE:Int) (b:Int) (o:Int) (s:Int) Z:=by
   intro aP
   obtain⟨a0,c⟩:=g.yH e f aP
   unfold gQ.kB.t
   refine dR (o - 1) (by omega) (by omega) ?_
   refine dR (s+eN) (by omega) (by omega) ?_
   refine cD (fun _=>?_) fun i=>absurd (by omega) i
   have d:(o - 1)*e2≤4294967296*4294967295:=Nat.mul_le_mul (by omega) (by omega)
   rw [← c.fits (by omega)] at a;exact a
  unfold gQ.j2.t gQ.r8.t
  refine cD (fun aP=>step (Or.inl (by omega))) fun aP=>?_
  have d:o*e2≤4294967295*4294967295:=Nat.mul_le_mul (by omega) (by omega)
  refine dR (o*e2) (by norm_cast) (by omega) ?_
  refine dR (4294967296*s) (by omega) (by omega) ?_
  refine dR (4294967296*s+eE) (by omega) (by omega) ?_
  refine cD (fun aP=>step (Or.inr (by omega))) fun aP=>?_
  rw [← g.fits (by omega)] at a;exact a
 | succ M m=>
  intro o s g j l h
  have step:(4294967296≤o∨o*e2 > 4294967296*s+eE)→gQ.kB.t Y (gQ.j2.t Y (M+1)) (bA:Int) (O:Int) (eN:Int) (e2:Int) (fZ:Int) (eE:Int) (b:Int) (o:Int) (s:Int) Z:=by
   intro aP
   obtain⟨a0,c⟩:=g.yH e f aP
   unfold gQ.kB.t
   refine dR (o - 1) (by omega) (by omega) ?_
   refine dR (s+eN) (by omega) (by omega) ?_
   refine cD (fun _=>?_) fun i=>?_
   ·have d:(o - 1)*e2≤4294967296*4294967295:=Nat.mul_le_mul (by omega) (by omega)
    rw [← c.fits (by omega)] at a;exact a
   ·refine m _ _ c (by omega) (by omega) ?_
    rw [Nat.add_mul,Nat.one_mul] at h
    omega
  unfold gQ.j2.t gQ.r8.t
  refine cD (fun aP=>step (Or.inl (by omega))) fun aP=>?_
  have d:o*e2≤4294967295*4294967295:=Nat.mul_le_mul (by omega) (by omega)
  refine dR (o*e2) (by norm_cast) (by omega) ?_
  refine dR (4294967296*s) (by omega) (by omega) ?_
  refine dR (4294967296*s+eE) (by omega) (by omega) ?_
  refine cD (fun aP=>step (Or.inr (by omega))) fun aP=>?_
  rw [← g.fits (by omega)] at a;exact a
theorem pI.first{fZ eE eN e2:Nat}(a0:0 < eN)(b:eE < 4294967296):pI fZ eE eN e2 (fZ / eN) (fZ % eN):=by
 refine⟨by rw [Nat.mul_comm];exact Nat.div_add_mod _ _,?_⟩
 have c:fZ < (fZ / eN+1)*eN:=by
  rw [Nat.add_mul,Nat.one_mul,Nat.mul_comm]
  have:=Nat.div_add_mod fZ eN
  have:=Nat.mod_lt fZ a0
  omega
 rw [Nat.mul_add,← Nat.mul_assoc]
 generalize (fZ / eN+1)*eN=a at *
 omega
theorem Dp{fZ eN e2:Nat}(a0:2147483648≤eN)(a:fZ < eN*4294967296+e2)(b:e2 < 4294967296):fZ / eN≤4294967297:=by
 have:fZ / eN < 4294967298:=by
  rw [Nat.div_lt_iff_lt_mul (by omega)];omega
 omega
theorem AK{n aN o s:Nat}(J:o*aN+s=n)(l:s < aN):n / aN=o∧n % aN=s:=by
 have a:0 < aN:=Nat.lt_of_le_of_lt (Nat.zero_le _) l
 subst J
 rw [Nat.add_comm,Nat.mul_comm]
 exact⟨by rw [Nat.add_mul_div_left _ _ a,Nat.div_eq_of_lt l,Nat.zero_add],by rw [Nat.add_mul_mod_self_left,Nat.mod_eq_of_lt l]⟩
theorem GH{fZ eE d bA b e c f:Nat}(g:b*bA+e=fZ*4294967296+eE)(h:c*bA+f=e*4294967296+d):(b*4294967296+c)*bA+f=fZ*18446744073709551616+eE*4294967296+d:=by
 rw [Nat.add_mul,Nat.mul_right_comm]
 generalize b*bA=a at *;generalize c*bA=N at *;omega
theorem GI{Y:K}{bA O eN e2 eE d fZ b a c e:Nat}{Z:V}(i:bA=eN*4294967296+e2)(f:d < 4294967296)(j:eN < 4294967296)(l:2147483648≤eN)(h:e2 < 4294967296)(aY:O < 64)
  (E:b*bA+a=fZ*4294967296+eE) (G:a < bA) (H:b < 4294967296) (m:c*bA+e=a*4294967296+d) (n:e < bA) (P:c < 4294967296)
  (g:Y (.tuple #[.int .u64 ((b*4294967296+c:Nat):Int),.int .u64 ((e / 2 ^ O:Nat):Int)]) Z) :
  gQ.cA.t Y (bA:Int) (O:Int) (eN:Int) (e2:Int) (fZ:Int) (eE:Int) (d:Int) (b:Int) Z:=by
 have K5:bA < 18446744073709551616:=by omega
 have v:=(AK m n).1
 unfold gQ.cA.t
 refine jO (aN:=((fZ*4294967296 % 18446744073709551616:Nat):Int)) (by rw [wrap_u64];omega) ?_
 refine jO (aN:=(((fZ*4294967296+eE) % 18446744073709551616:Nat):Int)) (by rw [wrap_u64];omega) ?_
 refine jO (aN:=((b*bA % 18446744073709551616:Nat):Int)) (by rw [wrap_u64,← Int.natCast_mul];omega) ?_
 refine jO (aN:=(a:Int)) (by rw [wrap_u64];generalize b*bA=b3 at *;omega) ?_
 have D:a / eN≤4294967297:=Dp l (by omega) h
 refine⟨by omega,dR (a / eN) (oC _ _) (by omega) ?_⟩
 have K6:a / eN*eN≤a:=Nat.div_mul_le_self _ _
 have K7:a % eN=a - a / eN*eN:=by
  have:=Nat.div_add_mod a eN
  rw [Nat.mul_comm] at this;omega
 have dE:=Nat.mod_lt a (show 0 < eN by omega)
 refine dR (a / eN*eN) (by rw [Int.natCast_mul]) (by omega) ?_
 refine dR (a % eN) (by omega) (by omega) ?_
 refine⟨1+1,?_⟩
 refine GF (by omega) f j h ?_ 1 _ _ (pI.first (by omega) f) D (by omega) (by omega)
 rw [← i,v]
 unfold gQ.b0.t
 refine dR (b*4294967296) (by omega) (by omega) ?_
 refine dR (b*4294967296+c) (by omega) (by omega) ?_
 refine jO (aN:=((a*4294967296 % 18446744073709551616:Nat):Int)) (by rw [wrap_u64];omega) ?_
 refine jO (aN:=(((a*4294967296+d) % 18446744073709551616:Nat):Int)) (by rw [wrap_u64];omega) ?_
 refine jO (aN:=((c*bA % 18446744073709551616:Nat):Int)) (by rw [wrap_u64,← Int.natCast_mul];omega) ?_
 refine jO (aN:=(e:Int)) (by rw [wrap_u64];generalize c*bA=b3 at *;omega) ?_
 exact lZ rfl O _ (by omega) rfl rfl g
theorem GJ(dL hB:Nat):dL*18446744073709551616+hB / 4294967296*4294967296+hB % 4294967296=dL*18446744073709551616+hB:=by omega
theorem Dq{bE c5 aN:Nat}(K9:bE < aN)(h:c5 < 18446744073709551616)(i:aN < 18446744073709551616)(Z:V):
  aF gQ.id #[.int .u64 (bE:Int),.int .u64 (c5:Int),.int .u64 (aN:Int)] Z fun v A=>A=Z∧yG v ((bE*18446744073709551616+c5) / aN) ((bE*18446744073709551616+c5) % aN):=by
 refine gQ.ok ?_
 unfold gQ.t gQ.F.t
 refine hU (fun c=>absurd c (by omega)) fun c=>?_
 unfold gQ.aC.t
 refine cD (fun c=>absurd c (by omega)) fun c=>?_
 unfold gQ.a7.t
 refine hU (fun aB=>?_) fun aB=>?_
 ·have J:bE=0:=by omega
  subst J
  have Ll:=Nat.div_le_self c5 aN
  refine⟨by omega,dR (c5 / aN) (oC _ _) (by omega) ?_⟩
  refine⟨by omega,jO (r0 _ _) ?_⟩
  rw [Nat.zero_mul,Nat.zero_add];exact⟨rfl,rfl⟩
 ·refine bF (Dn i _) fun v A ⟨La,Lb⟩=>?_
  subst La;subst Lb
  refine bI rfl ?_
  have Lm:eU aN≤64:=j6.mpr i
  have Ln:=q3 (show aN ≠ 0 by omega)
  obtain⟨O,aY⟩:∃ O,O=64 - eU aN:=⟨_,rfl⟩
  rw [← aY]
  have Lo:O≤63:=by omega
  refine dR O rfl (by omega) ?_
  have e:0 < 2 ^ O:=Nat.pow_pos (by decide)
  have j:aN*2 ^ O < 18446744073709551616:=by
   have:=j6 (n:=aN*2 ^ O) (M:=64)
   rw [wC O (by omega)] at this
   exact this.mp (by omega)
  have Lp:9223372036854775808≤aN*2 ^ O:=Nat.le_of_not_lt fun dE=>by
   have:=(j6 (n:=aN*2 ^ O) (M:=63)).mpr dE
   rw [wC O (by omega)] at this;omega
  have l:2 ^ O*2 ^ (64 - O)=18446744073709551616:=mY (by omega)
  have Lq:bE*2 ^ O+2 ^ O≤aN*2 ^ O:=by
   have:=Nat.mul_le_mul_right (2 ^ O) K9
   rw [Nat.succ_mul] at this;exact this
  have Lc:c5 / 2 ^ (64 - O) < 2 ^ O:=by
   rw [Nat.div_lt_iff_lt_mul (Nat.pow_pos (by decide)),l];exact h
  have Lr:c5*2 ^ O=c5 / 2 ^ (64 - O)*18446744073709551616+c5*2 ^ O % 18446744073709551616:=by
   have J:c5*2 ^ O / 18446744073709551616=c5 / 2 ^ (64 - O):=by
    rw [← l,Nat.mul_comm c5,Nat.mul_div_mul_left _ _ e]
   have:=Nat.div_add_mod (c5*2 ^ O) 18446744073709551616
   rw [J] at this;omega
  have m:(bE*18446744073709551616+c5)*2 ^ O=(bE*2 ^ O+c5 / 2 ^ (64 - O))*18446744073709551616+c5*2 ^ O % 18446744073709551616:=by
   rw [Nat.add_mul,Nat.mul_right_comm]
   generalize bE*2 ^ O=a at *
   generalize c5*2 ^ O=N at *
   omega
  have Ld:bE*2 ^ O ||| c5 / 2 ^ (64 - O)=bE*2 ^ O+c5 / 2 ^ (64 - O):=by
   rw [Nat.mul_comm,← Nat.two_pow_add_eq_or_of_lt Lc]
  refine rZ rfl O _ (by omega) rfl rfl ?_
  rw [Nat.mod_eq_of_lt j]
  refine lZ rfl 32 4294967296 (by omega) (by decide) (by omega) ?_
  refine m3 rfl j ?_
  refine rZ rfl O _ (by omega) rfl rfl ?_
  rw [Nat.mod_eq_of_lt (show bE*2 ^ O < 18446744073709551616 by omega)]
  refine dR (64 - O) (by omega) (by omega) ?_
  refine lZ rfl (64 - O) _ (by omega) rfl rfl ?_
  have Le:c5 / 2 ^ (64 - O) < 18446744073709551616:=Nat.lt_of_le_of_lt (Nat.div_le_self _ _) h
  refine x9 rfl rfl (by omega) Le ?_
  rw [Ld]
  refine rZ rfl O _ (by omega) rfl rfl ?_
  have Lf:c5*2 ^ O % 18446744073709551616 < 18446744073709551616:=Nat.mod_lt _ (by decide)
  refine lZ rfl 32 4294967296 (by omega) (by decide) (by omega) ?_
  refine m3 rfl Lf ?_
  have Lg:(bE*18446744073709551616+c5) / aN=((bE*2 ^ O+c5 / 2 ^ (64 - O))*18446744073709551616+c5*2 ^ O % 18446744073709551616) / (aN*2 ^ O):=by
   rw [← m,Nat.mul_div_mul_right _ _ e]
  have Lh:(bE*18446744073709551616+c5) % aN=((bE*2 ^ O+c5 / 2 ^ (64 - O))*18446744073709551616+c5*2 ^ O % 18446744073709551616) % (aN*2 ^ O) / 2 ^ O:=by
   rw [← m,Nat.mul_mod_mul_right,Nat.mul_div_cancel _ e]
  have Li:bE*2 ^ O+c5 / 2 ^ (64 - O) < aN*2 ^ O:=by omega
  rw [Lg,Lh]
  generalize bE*2 ^ O+c5 / 2 ^ (64 - O)=dL at *
  generalize c5*2 ^ O % 18446744073709551616=hB at *
  generalize aN*2 ^ O=bA at *
  have D:2147483648≤bA / 4294967296:=by omega
  have Lj:dL / (bA / 4294967296)≤4294967297:=Dp (e2:=bA % 4294967296) D (by omega) (by omega)
  refine⟨by omega,dR (dL / (bA / 4294967296)) (oC _ _) (by omega) ?_⟩
  have Ls:dL / (bA / 4294967296)*(bA / 4294967296)≤dL:=Nat.div_mul_le_self _ _
  have Lt:dL % (bA / 4294967296)=dL - dL / (bA / 4294967296)*(bA / 4294967296):=by
   have:=Nat.div_add_mod dL (bA / 4294967296)
   rw [Nat.mul_comm] at this;omega
  have dE:=Nat.mod_lt dL (show 0 < bA / 4294967296 by omega)
  refine dR (dL / (bA / 4294967296)*(bA / 4294967296)) (by rw [Int.natCast_mul]) (by omega) ?_
  refine dR (dL % (bA / 4294967296)) (by omega) (by omega) ?_
  refine⟨1+1,?_⟩
  refine GG (by omega) (by omega) (by omega) (by omega) ?_ 1 _ _ (pI.first (by omega) (by omega)) Lj (by omega) (by omega)
  have E:bA / 4294967296*4294967296+bA % 4294967296=bA:=by omega
  rw [E]
  have d:0 < bA:=Nat.lt_of_le_of_lt (Nat.zero_le _) Li
  have f:(dL*4294967296+hB / 4294967296) / bA*bA+(dL*4294967296+hB / 4294967296) % bA=dL*4294967296+hB / 4294967296:=by rw [Nat.mul_comm];exact Nat.div_add_mod _ _
  have G:=Nat.mod_lt (dL*4294967296+hB / 4294967296) d
  have H:(dL*4294967296+hB / 4294967296) / bA < 4294967296:=by
   rw [Nat.div_lt_iff_lt_mul d];omega
  obtain⟨P,K5⟩:∃ P,P=(dL*4294967296+hB / 4294967296) / bA:=⟨_,rfl⟩
  obtain⟨b,K6⟩:∃ b,b=(dL*4294967296+hB / 4294967296) % bA:=⟨_,rfl⟩
  rw [← K5,← K6] at f
  rw [← K6] at G
  rw [← K5] at H ⊢
  have K7:(b*4294967296+hB % 4294967296) / bA*bA+(b*4294967296+hB % 4294967296) % bA=b*4294967296+hB % 4294967296:=by rw [Nat.mul_comm];exact Nat.div_add_mod _ _
  have K8:=Nat.mod_lt (b*4294967296+hB % 4294967296) d
  have Lk:(b*4294967296+hB % 4294967296) / bA < 4294967296:=by
   rw [Nat.div_lt_iff_lt_mul d];omega
  refine GI E.symm (by omega) (by omega) D (by omega) (by omega) f G H K7 K8 Lk ?_
  have g:=AK (GH f K7) K8
  rw [GJ] at g
  rw [g.1,g.2];exact⟨rfl,rfl⟩
def wM(T:List Nat)(aA:Nat):List Nat × Int × Int:=if gI T then(if aA=0 then([],0,4) else(aE (val T / aA),((val T % aA:Nat):Int),0)) else([],0,2)
abbrev wN:jZ (List Nat × Int × Int):=wH qB (c3 .u64) (c3 .i64)
theorem wN.elim{aB Z:V}{v:Value}{z:List Nat × Int × Int}{p:U→Nat→Nat→Int→Int→Prop}(a:wN aB Z v z)(g:∀ a L,cN dQ aB Z a L z.1→p a z.1.length L z.2.1 z.2.2):
  c0 v fun aN=>bR aN fun b g4=>aG b fun a l L=>bR g4 fun c d=>aV .u64 c fun I=>bR d fun e f=>aV .i64 e fun b3=>bC f (p a l L I b3):=by
 obtain⟨I,aN,b3,J,⟨a,L,h,s⟩,⟨i,_⟩,j,_⟩:=a
 subst J;subst h;subst i;subst j;exact g a L s
theorem GK{Y:K}{a:U}{L l aA b3 aN:Nat}{T:List Nat}{aB:V}{o:Nat}(s:bJ aB a L T)(i:l=T.length)(f:aB.size≤o)(K8:T.length≤8192)(j:aA < 18446744073709551616)(K9:b3=T.length)(La:aN=T.length)
  (g:∀ v A,a4 aB A→wN aB A v (aE (val T / aA),((val T % aA:Nat):Int),0)→Y v A) :
  ∀ (n le:Nat) (aK:List Nat) (Z:V),n≤T.length→aK.length=T.length→le < aA→eM Z o aK→a4 aB Z→val (aK.drop n)*aA+le=val (T.drop n)→
   m5.bG.t Y (n+1) a l L (aA:Int) (some ⟨o,0,none⟩) b3 aN (le:Int) ((n:Int) - 1) Z:=by
 subst i
 intro n
 induction n with
 | zero=>
  intro le aK Z m D b c b1 J
  unfold m5.bG.t m5.b0.t
  refine cD (fun aP=>absurd aP (by omega)) fun _=>?_
  rw [List.drop_zero,List.drop_zero] at J
  have aJ:=AK J b
  unfold m5.aC.t
  refine bF (wL (c.oA (L:=aN) f (by omega)) (by omega)) fun v A ⟨e,d⟩=>?_
  subst e
  have E:(aE (val aK)).length≤8192:=by
   rw [mC c.words]
   have:=u9 aK;omega
  have G:eS (val aK)=(aE (val aK),0):=by unfold eS;rw [if_pos E]
  rw [G] at d
  refine d.nU fun a L s _=>?_
  refine g _ _ b1 ?_
  rw [aJ.1,aJ.2];exact⟨_,_,_,rfl,⟨_,_,rfl,s⟩,⟨rfl,by rw [pB];show 0≤(le:Int)∧(le:Int) < 18446744073709551616;omega⟩,rfl,(by decide:In .i64 0)⟩
 | succ n H=>
  intro le aK Z m D b c b1 J
  have P:T.getD n 0 < 18446744073709551616:=s.word n
  unfold m5.bG.t m5.b0.t
  refine cD (fun aP=>?_) fun aP=>absurd (by omega) aP
  refine fG (s.B b1) (C:=n) (by omega) rfl (by omega) ?_
  refine bF (Dq b P j _) fun v A ⟨e,d⟩=>?_
  subst e
  refine d.elim ?_
  have h:0 < aA:=Nat.lt_of_le_of_lt (Nat.zero_le _) b
  have K5:(le*18446744073709551616+T.getD n 0) / aA < 18446744073709551616:=by
   rw [Nat.div_lt_iff_lt_mul h];omega
  have Lb:=Nat.div_add_mod (le*18446744073709551616+T.getD n 0) aA
  have K6:=Nat.mod_lt (le*18446744073709551616+T.getD n 0) h
  refine mX c (C:=n) (by omega) (by omega) (by omega) rfl K5 fun q=>?_
  refine cP ((n:Int) - 1) (by omega) (by omega) (by omega) ?_
  refine H _ _ _ (by omega) (by simp;omega) K6 q (b1.set f) ?_
  have K7:(aK.set n ((le*18446744073709551616+T.getD n 0) / aA)).drop n=(le*18446744073709551616+T.getD n 0) / aA :: aK.drop (n+1):=by
   rw [iI (by simp;omega),List.drop_set_of_lt (by omega)]
   simp [List.getD,show n < aK.length by omega]
  rw [K7,iI (T:=T) (by omega)]
  simp only [val]
  rw [Nat.add_mul,Nat.mul_assoc,Nat.mul_comm _ aA]
  generalize aA*((le*18446744073709551616+T.getD n 0) / aA)=bD at *
  generalize (le*18446744073709551616+T.getD n 0) % aA=aX at *
  generalize val (aK.drop (n+1))*aA=r at *
  omega
theorem GL{a:U}{L l aA:Nat}{T:List Nat}{Z:V}(s:bJ Z a L T)(b:l=T.length)(d:aA < 18446744073709551616):
  aF m5.id #[.slice a l L,.int .u64 (aA:Int)] Z fun v A=>a4 Z A∧wN Z A v (wM T aA):=by
 refine m5.ok ?_
 unfold m5.t m5.F.t
 refine bF (oB s b) fun v A ⟨e,f⟩=>?_
 subst e;subst f;subst b
 refine aO rfl ?_
 have nil:∀ I:Int,In .i64 I→wN A A (.tuple #[.slice none 0 0,.int .u64 0,.int .i64 I]) ([],0,I):=fun I Q=>⟨_,_,_,rfl,⟨none,0,rfl,cN.nil _ _⟩,⟨rfl,(by decide:In .u64 0)⟩,rfl,Q⟩
 refine h9 (fun dJ=>⟨a4.refl _,?_⟩) fun dJ=>?_
 ·unfold wM;rw [if_neg (of_decide_eq_false dJ)];exact nil 2 (by decide)
 have c:=of_decide_eq_true dJ
 have g:=c.1
 unfold wM;rw [if_pos c]
 refine hU (fun aB=>⟨a4.refl _,?_⟩) fun aB=>?_
 ·rw [if_pos (by omega)];exact nil 4 (by decide)
 have h:¬ aA=0:=by omega
 simp only [if_neg h]
 refine nQ T.length rfl rfl rfl rfl (by omega) fun a0 q M=>?_
 unfold m5.a7.t
 refine cP ((T.length:Int) - 1) rfl (by omega) (by omega) ?_
 refine⟨T.length+1,?_⟩
 refine GK s rfl (Nat.le_refl _) g d rfl rfl (fun v A M i=>⟨M,i⟩) T.length 0 _ a0 (Nat.le_refl _) (by simp) (by omega) q M ?_
 rw [List.drop_length,List.drop_of_length_le (by simp)];simp [val]
section
variable {a N:U} {L bH l m:Nat} {T u:List Nat} {Z:V}
end
def ctz(n:Nat):Nat:=if Z:n=0 then 0 else if n % 2=0 then ctz (n / 2)+1 else 0
 termination_by n
 decreasing_by omega
theorem GM(m:Nat):ctz (2*m+1)=0:=by unfold ctz;rw [dif_neg (by omega),if_neg (by omega)]
theorem GN{n:Nat}(Z:n ≠ 0):ctz (2*n)=ctz n+1:=by
 rw [ctz,dif_neg (by omega),if_pos (by omega),show 2*n / 2=n by omega]
theorem yI(M m:Nat):ctz (2 ^ M*(2*m+1))=M:=by
 induction M with
 | zero=>simp [GM]
 | succ M b=>
  rw [Nat.pow_succ,Nat.mul_comm (2 ^ M),Nat.mul_assoc,GN,b]
  have:=Nat.pow_pos (a:=2) (n:=M) (by decide)
  exact Nat.mul_ne_zero (by omega) (by omega)
theorem vI:∀ {n:Nat},n ≠ 0→∃ m,n=2 ^ ctz n*(2*m+1):=by
 intro n
 induction n using Nat.strongRecOn with
 | _ n a=>
  intro Z
  by_cases J:n % 2=0
  ·obtain⟨m,b⟩:=a (n / 2) (by omega) (by omega)
   refine⟨m,?_⟩
   rw [ctz,dif_neg Z,if_pos J,Nat.pow_succ,Nat.mul_comm (2 ^ ctz (n / 2)) 2,Nat.mul_assoc,← b];omega
  ·refine⟨n / 2,?_⟩
   rw [ctz,dif_neg Z,if_neg J];omega
theorem GO{n:Nat}(M:Nat)(Z:n ≠ 0):ctz (2 ^ M*n)=M+ctz n:=by
 obtain⟨m,a⟩:=vI Z
 conv=>lhs;rw [a,← Nat.mul_assoc,← Nat.pow_add]
 exact yI _ _
theorem wO{a aA:Nat}(aB:a ≠ 0)(Z:a < 2 ^ aA):ctz a < aA:=by
 obtain⟨m,c⟩:=vI aB
 refine Nat.lt_of_not_le fun b=>?_
 have a0:2 ^ aA≤2 ^ ctz a:=Nat.pow_le_pow_right (by decide) b
 have d:2 ^ ctz a*1≤2 ^ ctz a*(2*m+1):=Nat.mul_le_mul_left _ (by omega)
 omega
theorem GP{a aA s:Nat}(aB:a ≠ 0)(Z:a < 2 ^ aA):ctz (a+2 ^ aA*s)=ctz a:=by
 have c:=wO aB Z
 obtain⟨m,b⟩:=vI aB
 generalize ctz a=M at *
 have J:a+2 ^ aA*s=2 ^ M*(2*(m+2 ^ (aA - M - 1)*s)+1):=by
  rw [b,show 2 ^ aA=2 ^ M*(2*2 ^ (aA - M - 1)) by rw [← Nat.pow_succ',← Nat.pow_add,show M+(aA - M - 1+1)=aA by omega],Nat.mul_assoc,← Nat.mul_add]
  congr 1;rw [Nat.mul_assoc];omega
 rw [J,yI]
theorem GQ{aL n:Nat}(a0:aL % 2 ^ n=0)(a:aL / 2 ^ n % 2=1):ctz aL=n:=by
 have J:aL=2 ^ n*(2*(aL / 2 ^ n / 2)+1):=by
  have:=Nat.div_add_mod aL (2 ^ n)
  rw [a0,Nat.add_zero] at this
  rw [show 2*(aL / 2 ^ n / 2)+1=aL / 2 ^ n by omega];exact this.symm
 rw [J,yI]
def r9:List Nat:=[0,1,56,2,57,49,28,3,61,58,42,50,38,29,17,4,62,47,59,36,45,43,51,22,53,39,33,30,24,18,12,5,63,55,48,27,60,41,37,16,46,35,44,21,52,32,23,11,54,26,40,15,34,20,31,10,25,14,19,9,13,8,7,6]
def gK(Z:V):Prop:=∀ Q,Q < 64→fQ Z ⟨0,Q,none⟩=some (.int .u8 ((r9.getD Q 0:Nat):Int))
theorem gK.B{Z A:V}(t:gK Z)(M:a4 Z A):gK A:=fun Q bE=>M.cell (t Q bE)
theorem GR:(List.range 64).all (fun M=>decide (r9.getD (2 ^ M*285870213051353865 % 18446744073709551616 / 288230376151711744) 0=M∧2 ^ M*285870213051353865 % 18446744073709551616 / 288230376151711744 < 64))=true:=by decide +kernel
theorem GS{I:Nat}(aB:I ≠ 0)(Z:I < 18446744073709551616):I &&& (18446744073709551616 - I)=2 ^ ctz I:=by
 have e:ctz I < 64:=wO aB Z
 obtain⟨m,a⟩:=vI aB
 generalize ctz I=M at *
 have b:18446744073709551616=2 ^ M*(2*2 ^ (63 - M)):=by
  rw [← Nat.pow_succ',← Nat.pow_add,show M+(63 - M+1)=64 by omega]
 have c:m < 2 ^ (63 - M):=by
  rw [a,b] at Z
  have:=Nat.lt_of_mul_lt_mul_left Z
  omega
 have J:18446744073709551616 - I=2 ^ M*(2*(2 ^ (63 - M) - (m+1))+1):=by
  rw [a]
  conv=>lhs;rw [b]
  rw [← Nat.mul_sub];congr 1;omega
 rw [J]
 conv=>lhs;rw [a]
 refine Nat.eq_of_testBit_eq fun Q=>?_
 rw [Nat.testBit_and,Nat.testBit_two_pow_mul,Nat.testBit_two_pow_mul,Nat.testBit_two_pow]
 by_cases bE:M≤Q
 ·simp only [bE,decide_true,Bool.true_and]
  obtain⟨C,d⟩:∃ C,C=Q - M:=⟨_,rfl⟩
  rw [← d]
  cases C with
  | zero=>
   have:M=Q:=by omega
   simp [this,Nat.testBit_zero]
  | succ C=>
   rw [Nat.testBit_succ,Nat.testBit_succ,show(2*m+1) / 2=m by omega,show(2*(2 ^ (63 - M) - (m+1))+1) / 2=2 ^ (63 - M) - (m+1) by omega,Nat.testBit_two_pow_sub_succ c]
   have:¬ M=Q:=by omega
   cases m.testBit C <;> simp [this]
 ·have:¬ M=Q:=by omega
  simp [bE,this]
theorem GU{I:Int}{n:Nat}(d:I=(n:Int))(b:n < 18446744073709551616)(aB:n ≠ 0){Z:V}(dX:gK Z):
  aF sA.id #[.int .u64 I] Z fun v A=>A=Z∧v=.int .i64 ((ctz n:Nat):Int):=by
 subst d
 have c:ctz n < 64:=wO aB b
 refine sA.ok ?_
 unfold sA.t sA.F.t
 refine hU (fun e=>absurd e (by omega)) fun _=>?_
 unfold sA.aC.t
 refine jO (aN:=((18446744073709551616 - n:Nat):Int)) (by rw [wrap_u64];omega) ?_
 refine AC rfl rfl b (by omega) ?_
 rw [GS aB b]
 have g:2 ^ ctz n < 18446744073709551616:=An c
 have em:((2 ^ ctz n:Nat):Int)*285870213051353865=((2 ^ ctz n*285870213051353865:Nat):Int):=by rw [Int.natCast_mul];rfl
 refine jO (aN:=((2 ^ ctz n*285870213051353865 % 18446744073709551616:Nat):Int)) (by rw [wrap_u64,em];exact(Int.natCast_emod _ _).symm) ?_
 refine lZ rfl 58 288230376151711744 (by decide) (by decide) rfl ?_
 have a:=List.all_eq_true.mp GR (ctz n) (List.mem_range.mpr c)
 have a:=of_decide_eq_true a
 obtain⟨Q,bE⟩:∃ Q,Q=2 ^ ctz n*285870213051353865 % 18446744073709551616 / 288230376151711744:=⟨_,rfl⟩
 rw [← bE] at a ⊢
 refine⟨⟨by omega,by omega⟩,?_⟩
 show e7 Z ((⟨0,0,none⟩:Addr).add ((Q:Int).toNat*1)) _
 have f:(Q:Int).toNat*1=Q:=by omega
 rw [f,w]
 unfold e7
 rw [dX Q a.2,a.1]
 refine bI rfl ?_
 refine cP ((ctz n:Nat):Int) rfl (by omega) (by omega) ?_
 exact⟨rfl,rfl⟩
theorem Dr{T:List Nat}{Q:Nat}(Z:∀ C,C < Q→T.getD C 0=0):val T=2 ^ (64*Q)*val (T.drop Q):=by
 induction Q with
 | zero=>simp
 | succ Q a=>
  rw [a (fun C b=>Z C (by omega)),j7,Z Q (by omega),jY,Nat.zero_add]
  rw [Nat.mul_left_comm,Nat.mul_assoc]
theorem GV{Y:K}{a:U}{L:Nat}{T:List Nat}{Z:V}(s:bJ Z a L T)(dX:gK Z)(g:Y (.int .i64 ((ctz (val T):Nat):Int)) Z):
  ∀ (M Q:Nat),Q+M=T.length→(∀ C,C < Q→T.getD C 0=0)→kN.bG.t Y (M+1) a T.length L (T.length:Int) (Q:Int) Z:=by
 have a0:=s.len
 intro M
 induction M with
 | zero=>
  intro Q bE b
  unfold kN.bG.t kN.b0.t
  refine cD (fun aP=>absurd aP (by omega)) fun _=>?_
  unfold kN.aC.t
  have J:=Dr b
  rw [List.drop_of_length_le (by omega)] at J
  have e:val T=0:=by rw [J];simp [val]
  rw [e] at g
  have:ctz 0=0:=by unfold ctz;simp
  rw [this] at g;exact g
 | succ M f=>
  intro Q bE b
  have c:=s.word Q
  unfold kN.bG.t kN.b0.t
  refine cD (fun _=>?_) fun aP=>absurd (by omega) aP
  refine fG s (C:=Q) rfl rfl (by omega) ?_
  refine mZ (fun aP=>?_) fun aP=>?_
  ·have aB:T.getD Q 0 ≠ 0:=by omega
   refine cP ((64*Q:Nat):Int) (by omega) (by omega) (by omega) ?_
   refine fG s (C:=Q) rfl rfl (by omega) ?_
   refine bF (GU rfl c aB dX) fun v A ⟨h,i⟩=>?_
   subst h;subst i
   refine bI rfl ?_
   have j:ctz (T.getD Q 0) < 64:=wO aB c
   refine cP ((64*Q+ctz (T.getD Q 0):Nat):Int) (by omega) (by omega) (by omega) ?_
   have J:ctz (val T)=64*Q+ctz (T.getD Q 0):=by
    rw [Dr b,GO,j7]
    ·congr 1
     exact GP (aA:=64) aB c
    ·rw [j7];omega
   rw [← J];exact g
  ·refine cP ((Q+1:Nat):Int) (by omega) (by omega) (by omega) ?_
   refine f (Q+1) (by omega) fun C l=>?_
   rcases Nat.lt_or_ge C Q with d | d
   ·exact b C d
   ·rw [show C=Q by omega];omega
theorem GW{a:U}{L l:Nat}{T:List Nat}{Z:V}(s:bJ Z a L T)(b:l=T.length)(dX:gK Z):
  aF kN.id #[.slice a l L] Z fun v A=>A=Z∧v=.int .i64 ((ctz (val T):Nat):Int):=by
 subst b
 refine kN.ok ?_
 unfold kN.t kN.F.t kN.a7.t
 refine⟨T.length+1,?_⟩
 exact GV s dX ⟨rfl,rfl⟩ T.length 0 (by omega) (by omega)
theorem nat_bit{T:List Nat}(a:Words T)(n:Nat):val T / 2 ^ n % 2=T.getD (n / 64) 0 / 2 ^ (n % 64) % 2:=by
 have b:val T / 2 ^ n=val (T.drop (n / 64)) / 2 ^ (n % 64):=by
  rw [kW a,Nat.div_div_eq_div_mul,← Nat.pow_add,Nat.div_add_mod]
 rw [b,j7]
 have J:(18446744073709551616:Nat)=2 ^ (n % 64)*(2*2 ^ (63 - n % 64)):=by
  rw [← Nat.pow_succ',← Nat.pow_add,show n % 64+(63 - n % 64+1)=64 by omega]
 rw [J,Nat.mul_assoc,Nat.add_mul_div_left _ _ (Nat.pow_pos (by decide)),Nat.mul_assoc]
 omega
theorem GX{a:U}{L l:Nat}{T:List Nat}{Z:V}(s:bJ Z a L T)(c:l=T.length){I:Int}(d:In .i64 I):
  aF nX.id #[.slice a l L,.int .i64 I] Z fun v A=>A=Z∧v=.bool (jQ (val T) I == 1):=by
 subst c
 rw [mF] at d
 have a0:=s.len
 refine nX.ok ?_
 unfold nX.t nX.F.t
 refine cD (fun aB=>⟨rfl,by unfold jQ;rw [if_pos aB];rfl⟩) fun aB=>?_
 obtain⟨n,rfl⟩:∃ n:Nat,I=(n:Int):=⟨I.toNat,by omega⟩
 unfold jQ
 rw [if_neg aB,Int.toNat_natCast,nat_bit s.words]
 have b:Int.tdiv (n:Int) 64=((n / 64:Nat):Int):=oC n 64
 have e:Int.tmod (n:Int) 64=((n % 64:Nat):Int):=r0 n 64
 refine⟨by decide,?_⟩
 rw [b]
 refine cP ((n / 64:Nat):Int) rfl (by omega) (by omega) ?_
 refine cD (fun aP=>⟨rfl,?_⟩) fun aP=>?_
 ·have:T.getD (n / 64) 0=0:=by simp [List.getD,show T.length≤n / 64 by omega]
  rw [this];simp
 ·unfold nX.aC.t
  refine⟨by decide,?_⟩
  rw [b]
  refine cP ((n / 64:Nat):Int) rfl (by omega) (by omega) ?_
  refine fG s (C:=n / 64) rfl rfl (by omega) ?_
  have f:=s.word (n / 64)
  refine⟨by decide,?_⟩
  rw [e]
  refine jO rfl ?_
  refine lZ rfl (n % 64) _ (by omega) rfl rfl ?_
  have g:T.getD (n / 64) 0 / 2 ^ (n % 64)≤T.getD (n / 64) 0:=Nat.div_le_self _ _
  refine AC (N:=1) rfl rfl (by omega) (by decide) ?_
  have:(T.getD (n / 64) 0 / 2 ^ (n % 64)) &&& 1=T.getD (n / 64) 0 / 2 ^ (n % 64) % 2:=Nat.and_two_pow_sub_one_eq_mod _ 1
  rw [this]
  exact⟨rfl,rfl⟩
theorem q7{a9:FuncId}{args:Array Value}{Z:V}{dK:Value→Prop}(a:aF a9 args Z fun v A=>A=Z∧dK v){dF:Value→V→Prop}(g:∀ v,dK v→dF v Z):aF a9 args Z fun v A=>a4 Z A∧dF v A:=
 bF a fun v A ⟨J,O⟩=>by subst J;exact⟨a4.refl _,g v O⟩
theorem AL{I:Int}(Q:In .u64 I):I=((I.toNat:Nat):Int)∧I.toNat < 18446744073709551616:=by
 rw [pB] at Q;omega
section
variable {a N:U} {L bH l m:Nat} {T u:List Nat} {Z:V} {I:Int}
theorem nV.aU(s:bJ Z a L T)(J:l=T.length):aF nV.id #[.slice a l L] Z fun v A=>a4 Z A∧fD Z A v (eS (val T)):=x6 s J
theorem mI.aU(Q:In .u64 I):aF mI.id #[.int .u64 I] Z fun v A=>a4 Z A∧qB Z A v (aE I.toNat):=by
 have:=AL Q
 rw [this.1,Int.toNat_natCast];exact Dm this.2 Z
theorem j0.aU(s:bJ Z a L T)(J:l=T.length):aF j0.id #[.slice a l L] Z fun v A=>a4 Z A∧h0 Z A v (decide (gI T)):=q7 (oB s J) fun v O=>O
theorem pE.aU(s:bJ Z a L T)(J:l=T.length):aF pE.id #[.slice a l L] Z fun v A=>a4 Z A∧c3 .i64 Z A v ((eU (val T):Nat):Int):=by
 refine q7 (CV s J) fun v O=>⟨O,?_⟩
 have a0:=s.len
 have:eU (val T)≤64*T.length:=j6.mpr (hS s.words)
 rw [mF];omega
theorem GY{T:List Nat}(a:Words T)(b:T.length≤35184372088828):In .i64 ((ctz (val T):Nat):Int):=by
 rw [mF]
 rcases Nat.eq_zero_or_pos (val T) with J | J
 ·rw [J];have:ctz 0=0:=by unfold ctz;simp
  rw [this];omega
 ·have:=wO (by omega) (hS a);omega
theorem kN.aU(s:bJ Z a L T)(J:l=T.length)(dX:gK Z):aF kN.id #[.slice a l L] Z fun v A=>a4 Z A∧c3 .i64 Z A v ((ctz (val T):Nat):Int):=
 q7 (GW s J dX) fun v O=>⟨O,GY s.words s.len⟩
theorem nX.aU(s:bJ Z a L T)(J:l=T.length)(Q:In .i64 I):aF nX.id #[.slice a l L,.int .i64 I] Z fun v A=>a4 Z A∧h0 Z A v (jQ (val T) I == 1):=q7 (GX s J Q) fun v O=>O
theorem Ds(aL bA:Nat):In .i64 (e6 aL bA):=by unfold e6;split <;> (try split) <;> decide
theorem hL.aU(s:bJ Z a L T)(J:l=T.length)(O:bJ Z N bH u)(a9:m=u.length):aF hL.id #[.slice a l L,.slice N m bH] Z fun v A=>a4 Z A∧c3 .i64 Z A v (e6 (val T) (val u)):=q7 (AJ s O J a9) fun v O=>⟨O,Ds _ _⟩
theorem jR.aU(s:bJ Z a L T)(J:l=T.length)(O:bJ Z N bH u)(a9:m=u.length):aF jR.id #[.slice a l L,.slice N m bH] Z fun v A=>a4 Z A∧fD Z A v (qH T u):=Gt s O J a9
theorem jS.aU(s:bJ Z a L T)(J:l=T.length)(O:bJ Z N bH u)(a9:m=u.length):aF jS.id #[.slice a l L,.slice N m bH] Z fun v A=>a4 Z A∧fD Z A v (lH T u):=Gw s O J a9
theorem lI.aU(s:bJ Z a L T)(J:l=T.length)(Q:In .i64 I):aF lI.id #[.slice a l L,.int .i64 I] Z fun v A=>a4 Z A∧fD Z A v (r4 T I):=Gz s J (mF.mp Q).2
theorem kY.aU(s:bJ Z a L T)(J:l=T.length)(Q:In .i64 I):aF kY.id #[.slice a l L,.int .i64 I] Z fun v A=>a4 Z A∧fD Z A v (qI T I):=Dk s J (mF.mp Q).2
theorem qE.aU(s:bJ Z a L T)(J:l=T.length):aF qE.id #[.slice a l L] Z fun v A=>a4 Z A∧qB Z A v T:=FJ s J
theorem qG.aU(s:bJ Z a L T)(J:l=T.length):aF qG.id #[.slice a l L] Z fun v A=>a4 Z A∧h0 Z A v (decide (gI T)):=q7 (Gp s J) fun v O=>O
end
end Go.Proofs.YtllhckjfhefcdaaGreatDoor.G
