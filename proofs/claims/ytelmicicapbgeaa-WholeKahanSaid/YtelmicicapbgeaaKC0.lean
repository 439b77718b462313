import Derived.Test.YtelmicicapbgeaaKF
import Derived.Test.YtelmicicapbgeaaKB
namespace Go.Proofs.Ytelmicicapbgeaa.G
open Go.Gv
theorem DR{Y:J}{a:R}{c l:Nat}{S:List Nat}{Z:V}(C:bU Z a c S)(f:l=S.length)(g:Y (.slice a (cV S).length c) Z):
  ∀ n:Nat,n≤S.length→cV (S.take n)=cV S→jR.bZ.t Y (n+1) a l c (n:Int) Z:=by
 have aI:=C.len
 intro n
 have fin:∀ n:Nat,n≤S.length→cV S=S.take n→jR.aD.t Y a l c (n:Int) Z:=by
  intro n b O
  refine rX rfl (Nat.le_trans b C.cap) ?_
  have h:(cV S).length=n:=by rw [O,List.length_take];omega
  rw [← h];exact g
 induction n with
 | zero=>
  intro b d
  unfold jR.bZ.t jR.bP.t
  refine b1 (fun Z=>absurd Z (by omega)) fun _=>fin 0 b ?_
  rw [← d];rfl
 | succ n bD=>
  intro b d
  refine b1 (fun _=>?_) fun Z=>absurd (by omega) Z
  refine b9 (n:Int) (by omega) (by omega) (by omega) ?_
  refine eW C (M:=n) rfl f (by omega) ?_
  have e:=lV (S:=S) (n:=n) (by omega)
  refine fP (fun i=>?_) fun i=>?_
  ·refine b9 (n:Int) (by omega) (by omega) (by omega) ?_
   refine bD (by omega) ?_
   rw [← d,e,show S.getD n 0=0 by omega,qK]
  ·refine fin (n+1) b ?_
   rw [← d,e,rZ _ (by omega)]
theorem r7{a:R}{c l:Nat}{S:List Nat}{Z:V}(C:bU Z a c S)(d:l=S.length):
  aG jR.id #[.slice a l c] Z fun v K=>K=Z∧v=.slice a (cV S).length c∧bU Z a c (cV S):=by
 have e:bU Z a c (cV S):=by
  have:∀ n:Nat,n≤S.length→cV (S.take n)=cV S→∃ m,cV S=S.take m:=by
   intro n
   induction n with
   | zero=>intro _ O;exact⟨0,by rw [← O];rfl⟩
   | succ n bD=>
    intro f O
    have b:=lV (S:=S) (n:=n) (by omega)
    by_cases o:S.getD n 0=0
    ·refine bD (by omega) ?_;rw [← O,b,o,qK]
    ·refine⟨n+1,?_⟩;rw [← O,b,rZ _ o]
  obtain⟨m,O⟩:=this S.length (Nat.le_refl _) (by rw [List.take_length])
  rw [O];exact C.take m
 refine jR.ok ?_
 unfold jR.t jR.u.t
 refine⟨S.length+1,?_⟩
 subst d
 exact DR C rfl ⟨rfl,rfl,e⟩ S.length (Nat.le_refl _) (by rw [List.take_length])
theorem pA{a:R}{c l:Nat}{S:List Nat}{o Z:V}(g:cH dB o Z a c S)(b:l=S.length):
  aG kX.id #[.slice a l c] Z fun v K=>K=Z∧dS o Z v (eF (val S)):=by
 have C:=g.dL
 refine kX.ok ?_
 unfold kX.t kX.u.t
 refine bE (r7 C b) fun v K ⟨d,e,h⟩=>?_
 subst d;subst e
 have O:=kT C.words
 refine b1 (fun f=>?_) fun f=>?_
 ·refine⟨rfl,?_⟩
  unfold eF;rw [O,if_neg (by omega)];exact dS.none
 ·refine⟨rfl,?_⟩
  unfold eF;rw [O,if_pos (by omega)];exact dS.mk rfl rfl g.trim (show In .i64 0 by decide)
theorem kY{a:R}{c l:Nat}{S:List Nat}{Z:V}(C:bU Z a c S)(e:l=S.length):
  aG iG.id #[.slice a l c] Z fun v K=>K=Z∧v=.bool (decide (g5 S)):=by
 subst e
 have aI:=C.len
 refine iG.ok ?_
 unfold iG.t iG.u.t
 refine b1 (fun f=>?_) fun f=>?_
 ·refine fP (fun o=>?_) fun o=>?_
  ·refine⟨rfl,?_⟩
   have O:S=[]:=List.length_eq_zero_iff.mp (by omega)
   subst O;rfl
  ·refine b9 ((S.length - 1:Nat):Int) (by omega) (by omega) (by omega) ?_
   refine eW C (M:=S.length - 1) rfl rfl (by omega) ⟨rfl,?_⟩
   have d:=@qL S
   by_cases b:S.getD (S.length - 1) 0=0
   ·rw [b]
    have:¬ g5 S:=fun a3=>by
     rcases d.mp a3.2 with O | O
     ·subst O;simp at o
     ·exact O b
    simp [this]
   ·have:g5 S:=⟨by omega,d.mpr (Or.inr b)⟩
    simp only [this,decide_true]
    congr 1
    exact bne_iff_ne.mpr (by omega)
 ·refine⟨rfl,?_⟩
  have:¬ g5 S:=fun a3=>by have:=a3.1;omega
  simp [this]
theorem wW{a:R}{c l:Nat}{S:List Nat}{Z:V}(C:bU Z a c S)(e:l=S.length):
  aG nB.id #[.slice a l c] Z fun v K=>a2 Z K∧dS Z K v (eF (val S)):=by
 refine nB.ok ?_
 unfold nB.t nB.u.t
 refine bE (r7 C e) fun v K ⟨f,g,b⟩=>?_
 subst f;subst g
 have O:=kT C.words
 refine b1 (fun h=>?_) fun h=>?_
 ·refine⟨a2.refl _,?_⟩
  unfold eF;rw [O,if_neg (by omega)];exact dS.none
 ·have aI:=b.len
  refine k8 (cV S).length rfl rfl rfl rfl aI fun aI s U=>?_
  refine tU s (b.I U) (by simp) rfl (Nat.le_refl _) U fun m d i=>?_
  refine⟨i,?_⟩
  unfold eF;rw [O,if_pos (by omega)]
  have j:List.take (List.replicate (cV S).length 0).length (cV S) ++ List.drop (cV S).length (List.replicate (cV S).length 0)=cV S:=by simp
  rw [j] at d
  exact dS.mk (by simp) rfl (d.j9 (Nat.le_refl _) (by simp)) (show In .i64 0 by decide)
theorem uG{Q:Int}{k:Int}{n:Nat}(a:Q=(n:Int))(F y:Nat)(aZ:F≤64)(b:y=2 ^ F)(c:k=(F:Int)){A:Int→Prop}(g:A ((n / y:Nat):Int)):aN (fC .u64 Q k) A:=by
 subst a;subst c;subst b
 refine⟨?_⟩
 show A (Int.fdiv (n:Int) (2 ^ (min (F:Int).toNat 64)))
 have O:min (F:Int).toNat 64=F:=by omega
 rw [O]
 have d:Int.fdiv (n:Int) (2 ^ F)=((n / 2 ^ F:Nat):Int):=by
  rw [Int.fdiv_eq_ediv_of_nonneg _ (Int.le_of_lt (Int.pow_pos (by decide)))]
  norm_cast
 rw [d];exact g
theorem iH{Q k:Int}(O:Q=k){A:Int→Prop}(g:A k):aN Q A:=by subst O;exact⟨g⟩
theorem DS{F:ByteArray}{Q:Int}{n:Nat}{N:UInt8}(a:Q=(n:Int))(O:F[n]?=some N){A:Int→Prop}(g:A (N.toNat:Int)):rJ F Q A:=by
 subst a
 refine⟨by omega,?_⟩
 rw [Int.toNat_natCast,O];exact g
theorem DT:(List.range 256).all (fun Q=>decide ((⟨#[0,1,2,2,3,3,3,3,4,4,4,4,4,4,4,4,5,5,5,5,5,5,5,5,5,5,5,5,5,5,5,5,6,6,6,6,6,6,6,6,6,6,6,6,6,6,6,6,6,6,6,6,6,6,6,6,6,6,6,6,6,6,6,6,7,7,7,7,7,7,7,7,7,7,7,7,7,7,7,7,7,7,7,7,7,7,7,7,7,7,7,7,7,7,7,7,7,7,7,7,7,7,7,7,7,7,7,7,7,7,7,7,7,7,7,7,7,7,7,7,7,7,7,7,7,7,7,7,8,8,8,8,8,8,8,8,8,8,8,8,8,8,8,8,8,8,8,8,8,8,8,8,8,8,8,8,8,8,8,8,8,8,8,8,8,8,8,8,8,8,8,8,8,8,8,8,8,8,8,8,8,8,8,8,8,8,8,8,8,8,8,8,8,8,8,8,8,8,8,8,8,8,8,8,8,8,8,8,8,8,8,8,8,8,8,8,8,8,8,8,8,8,8,8,8,8,8,8,8,8,8,8,8,8,8,8,8,8,8,8,8,8,8,8,8,8,8,8,8,8,8,8,8,8,8,8]⟩:ByteArray)[Q]?=some (UInt8.ofNat (dK Q))))=true:=by decide +kernel
theorem Aj{Y:J}{n F:Nat}{Q k:Int}(b:Q=(n:Int))(c:k=(F:Int))(d:n < 256)(aZ:F≤64){Z:V}(g:Y (.int .i64 ((F+dK n:Nat):Int)) Z):kC.bP.t Y Q k Z:=by
 subst b;subst c
 unfold kC.bP.t
 have h:dK n≤8:=hH.mpr (by omega)
 have a:=List.all_eq_true.mp DT n (by simpa using d)
 have a:=of_decide_eq_true a
 have e:IntKind.u8.wrap (n:Int)=(n:Int):=by
  simp only [IntKind.wrap,IntKind.bits,IntKind.signed,Bool.false_and,Bool.false_eq_true,if_false];omega
 refine iH e ?_
 refine DS rfl a ?_
 have f:((UInt8.ofNat (dK n)).toNat:Int)=(dK n:Int):=by
  rw [UInt8.toNat_ofNat'];omega
 refine b9 (dK n:Int) f (by omega) (by omega) ?_
 refine b9 ((F+dK n:Nat):Int) (by omega) (by omega) (by omega) ?_
 exact g
theorem Ak{Q:Int}{n:Nat}(a:Q=(n:Int))(h:n < 18446744073709551616)(Z:V):
  aG kC.id #[.int .u64 Q] Z fun v K=>K=Z∧v=.int .i64 (dK n:Int):=by
 subst a
 refine kC.ok ?_
 unfold kC.t kC.u.t
 have low:∀ (m F:Nat) (Q k:Int),Q=(m:Int)→k=(F:Int)→m < 65536→F≤48→F+dK m=dK n→kC.a4.t (fun v K=>K=Z∧v=.int .i64 (dK n:Int)) Q k Z:=by
  intro m F Q k a d g aZ O
  subst a;subst d
  unfold kC.a4.t
  refine b1 (fun b=>⟨by omega,?_⟩) fun b=>?_
  ·refine uG rfl 8 256 (by omega) (by omega) rfl ?_
   refine b9 ((F+8:Nat):Int) (by omega) (by omega) (by omega) ?_
   have:=o5 m 8
   have e:8 < dK m:=Nat.lt_of_not_le fun c=>by have:=hH.mp c;omega
   refine Aj rfl rfl (by omega) (by omega) ⟨rfl,?_⟩
   rw [← O,show(256:Nat)=2 ^ 8 by decide,this]
   congr 2;omega
  ·refine Aj rfl rfl (by omega) (by omega) ⟨rfl,by rw [O]⟩
 have f:∀ (m F:Nat) (Q k:Int),Q=(m:Int)→k=(F:Int)→m < 4294967296→F≤32→F+dK m=dK n→kC.aD.t (fun v K=>K=Z∧v=.int .i64 (dK n:Int)) Q k Z:=by
  intro m F Q k a d g aZ O
  subst a;subst d
  unfold kC.aD.t
  refine b1 (fun b=>⟨by omega,?_⟩) fun b=>?_
  ·refine uG rfl 16 65536 (by omega) (by omega) rfl ?_
   refine b9 ((F+16:Nat):Int) (by omega) (by omega) (by omega) ?_
   have:=o5 m 16
   have e:16 < dK m:=Nat.lt_of_not_le fun c=>by have:=hH.mp c;omega
   refine low _ _ _ _ rfl rfl (by omega) (by omega) ?_
   rw [← O,show(65536:Nat)=2 ^ 16 by decide,this];omega
  ·exact low _ _ _ _ rfl rfl (by omega) (by omega) O
 refine b1 (fun b=>⟨by omega,?_⟩) fun b=>?_
 ·refine uG rfl 32 4294967296 (by omega) (by omega) rfl ?_
  have:=o5 n 32
  have e:32 < dK n:=Nat.lt_of_not_le fun c=>by have:=hH.mp c;omega
  refine f _ 32 _ _ rfl rfl (by omega) (by omega) ?_
  rw [show(4294967296:Nat)=2 ^ 32 by decide,this];omega
 ·exact f _ 0 _ _ rfl rfl (by omega) (by omega) (by omega)
theorem Al{a:R}{c l:Nat}{S:List Nat}{Z:V}(C:bU Z a c S)(g:l=S.length):
  aG lZ.id #[.slice a l c] Z fun v K=>K=Z∧v=.int .i64 (dK (val S):Int):=by
 refine lZ.ok ?_
 unfold lZ.t lZ.u.t
 refine bE (r7 C g) fun v K ⟨e,f,d⟩=>?_
 subst e;subst f
 refine aQ rfl ?_
 rw [← nV S]
 have aI:=d.len
 refine fP (fun o=>⟨rfl,?_⟩) fun o=>?_
 ·have O:cV S=[]:=List.length_eq_zero_iff.mp (by omega)
  rw [O];rfl
 ·obtain⟨n,b⟩:∃ n,(cV S).length=n+1:=⟨(cV S).length - 1,by omega⟩
  rw [b]
  refine b9 (n:Int) (by omega) (by omega) (by omega) ?_
  refine b9 ((64*n:Nat):Int) (by omega) (by omega) (by omega) ?_
  refine b9 (n:Int) (by omega) (by omega) (by omega) ?_
  refine eW d (M:=n) rfl b.symm (by omega) ?_
  have h:(cV S).getD n 0 ≠ 0:=by
   rcases qL.mp (wG S) with O | O
   ·rw [O] at b;simp at b
   ·rwa [b] at O
  have i:=r0 d.words b h
  have j:dK ((cV S).getD n 0)≤64:=hH.mpr (d.word n)
  refine bE (Ak rfl (d.word n) _) fun v K ⟨e,f⟩=>?_
  subst e;subst f
  refine bJ rfl ?_
  refine b9 (dK (val (cV S)):Int) (by omega) (by omega) (by omega) ⟨rfl,rfl⟩
theorem nC{Q k:Int}{n:Nat}(a:Q=(n:Int))(F y:Nat)(aZ:F≤64)(b:y=2 ^ F)(c:k=(F:Int)){A:Int→Prop}(g:A ((n*y % 18446744073709551616:Nat):Int)):0≤k∧aN (e7 .u64 Q k) A:=by
 subst a;subst c;subst b
 refine⟨by omega,⟨?_⟩⟩
 show A (IntKind.u64.wrap ((n:Int)*2 ^ (min (F:Int).toNat 64)))
 have O:min (F:Int).toNat 64=F:=by omega
 rw [O,wrap_u64]
 have d:((n:Int)*2 ^ F) % 18446744073709551616=((n*2 ^ F % 18446744073709551616:Nat):Int):=by
  have e:(2:Int) ^ F=((2 ^ F:Nat):Int):=by rw [Int.natCast_pow];rfl
  rw [e,← Int.natCast_mul];omega
 rw [d];exact g
theorem jS{Q k:Int}{n:Nat}(a:Q=(n:Int))(F y:Nat)(aZ:F≤64)(b:y=2 ^ F)(c:k=(F:Int)){A:Int→Prop}(g:A ((n / y:Nat):Int)):0≤k∧aN (fC .u64 Q k) A:=
 ⟨by omega,uG a F y aZ b c g⟩
theorem uH(a:Nat):BitVec.ofInt 64 (a:Int)=BitVec.ofNat 64 a:=BitVec.ofInt_natCast 64 a
theorem uI{Q k:Int}{a N:Nat}(b:Q=(a:Int))(c:k=(N:Int))(d:a < 18446744073709551616)(e:N < 18446744073709551616){A:Int→Prop}(g:A ((a ||| N:Nat):Int)):aN (iX .u64 Q k) A:=by
 subst b;subst c
 refine⟨?_⟩
 show A (IntKind.u64.wrap (BitVec.ofInt 64 (a:Int) ||| BitVec.ofInt 64 (N:Int)).toNat)
 have O:(BitVec.ofInt 64 (a:Int) ||| BitVec.ofInt 64 (N:Int)).toNat=a ||| N:=by
  rw [uH,uH,BitVec.toNat_or,BitVec.toNat_ofNat,BitVec.toNat_ofNat,Nat.mod_eq_of_lt (by omega),Nat.mod_eq_of_lt (by omega)]
 have f:a ||| N < 18446744073709551616:=Nat.or_lt_two_pow (n:=64) d e
 rw [O,wB (by omega) (by omega)];exact g
theorem Am{Q k:Int}{a N:Nat}(b:Q=(a:Int))(c:k=(N:Int))(d:a < 18446744073709551616)(e:N < 18446744073709551616){A:Int→Prop}(g:A ((a &&& N:Nat):Int)):aN (fK .u64 Q k) A:=by
 subst b;subst c
 refine⟨?_⟩
 show A (IntKind.u64.wrap (BitVec.ofInt 64 (a:Int) &&& BitVec.ofInt 64 (N:Int)).toNat)
 have O:(BitVec.ofInt 64 (a:Int) &&& BitVec.ofInt 64 (N:Int)).toNat=a &&& N:=by
  rw [uH,uH,BitVec.toNat_and,BitVec.toNat_ofNat,BitVec.toNat_ofNat,Nat.mod_eq_of_lt (by omega),Nat.mod_eq_of_lt (by omega)]
 have f:a &&& N≤a:=Nat.and_le_left
 rw [O,wB (by omega) (by omega)];exact g
theorem An{T a N:Nat}(Z:N < 2 ^ T):N ||| (2 ^ T*a)=2 ^ T*a+N:=by
 rw [Nat.or_comm,Nat.two_pow_add_eq_or_of_lt Z]
theorem cK{Q:Int}(k:Nat)(O:Q=(k:Int))(Z:k < 18446744073709551616){A:Int→Prop}(g:A (k:Int)):aN (IntKind.u64.wrap Q) A:=by
 subst O;refine⟨?_⟩;show A _;rw [wB (by omega) (by omega)];exact g
theorem l0(n m:Nat):Int.tdiv (n:Int) (m:Int)=((n / m:Nat):Int):=by
 rw [Int.tdiv_eq_ediv_of_nonneg (by omega)];norm_cast
theorem qR(n m:Nat):Int.tmod (n:Int) (m:Int)=((n % m:Nat):Int):=by
 rw [Int.tmod_eq_emod_of_nonneg (by omega)];norm_cast
theorem pB{a N:Nat}(b:a < 4294967296)(b:N < 4294967296):a*N≤18446744065119617025:=Nat.mul_le_mul (show a≤4294967295 by omega) (show N≤4294967295 by omega)
theorem kD{Q:Int}{n:Nat}(a:Q=(n:Int))(b:n < 18446744073709551616){A:Int→Prop}(g:A ((n % 4294967296:Nat):Int)):aN (fK .u64 Q 4294967295) A:=by
 refine Am (N:=4294967295) a rfl b (by decide) ?_
 have:n &&& 4294967295=n % 4294967296:=Nat.and_two_pow_sub_one_eq_mod n 32
 rw [this];exact g
theorem iI{Q:Int}(k:Nat)(O:Q=(k:Int))(Z:k < 4294967296){A:Int→Prop}(g:A (k:Int)):aN (IntKind.u32.wrap Q) A:=by
 subst O;refine⟨?_⟩;show A _
 have:IntKind.u32.wrap (k:Int)=(k:Int):=by
  simp only [IntKind.wrap,IntKind.bits,IntKind.signed,Bool.false_and,Bool.false_eq_true,if_false];omega
 rw [this];exact g
theorem nD{Q:Int}{n:Nat}(a:Q=(n:Int)){A:Int→Prop}(g:A ((n / 4294967296:Nat):Int)):0≤(32:Int)∧aN (fC .u64 Q 32) A:=
 jS a 32 4294967296 (by decide) (by decide) rfl g
theorem Ao{Q:Int}{n:Nat}(a:Q=(n:Int))(b:n < 4294967296){A:Int→Prop}(g:A ((n*4294967296:Nat):Int)):0≤(32:Int)∧aN (e7 .u64 Q 32) A:=by
 refine nC a 32 4294967296 (by decide) (by decide) rfl ?_
 rw [Nat.mod_eq_of_lt (by omega)];exact g
theorem qS{o Z:V}{a:R}{l c n:Nat}{Q:Int}{S:List Nat}(g:cH bR o Z a c S)(e:a2 o Z)(f:l=S.length)(h:Q=(n:Int))(i:n < 4294967296)(j:S.length+1≤70368744177656)(m:c < S.length+1→S.length+1≤35184372088832){A:R→Nat→Nat→V→Prop}
  (t:∀ b c1 K,cH bR o K b c1 (S ++ [n])→a2 o K→(S.length+1≤c→c1=c)→A b (S.length+1) c1 K):cU Z 78 [.int .u32 Q] fun x v=>g2 v 78 gP a l c (.slice (some x) 1 1) A:=
 Ad bR g e [n] (by rw [h];rfl) (fun k d=>by rw [List.mem_singleton] at d;subst d;exact i) f rfl rfl 0 rfl k9 4 rfl (by decide) j (fun Z=>by have:=m (by simpa using Z);simp;omega) t
theorem Ap{Y:J}{a:R}{c l:Nat}{S:List Nat}{Z:V}(C:b4 bR Z a c S)(j:l=S.length)(n:Nat)(e:n≤S.length)(O:cV S=S.take n)(g:∀ v K,a2 Z K→fF Z K v (D.val S)→Y v K):fV.aD.t Y a l c (n:Int) Z:=by
 have aI:=C.mS
 unfold fV.aD.t
 refine m9 bR 0 n n rfl k9 4 rfl (by decide) rfl rfl (Nat.le_refl _) (by omega) fun m s U=>?_
 refine rX rfl (Nat.le_trans e C.cap) ?_
 have f:=(C.take n).I U
 have b:(S.take n).length=n:=by rw [List.length_take];omega
 refine DI s f (by simp) b.symm fun E d h=>?_
 have i:(S.take n).take (min (S.take n).length n) ++ (List.replicate n 0).drop (min (S.take n).length n)=D.z (D.val S):=by
  rw [D.kT C.ok,O,b,Nat.min_self,List.take_take];simp
 rw [Int.toNat_natCast] at d ⊢
 rw [i] at d
 refine g _ _ (h.I U (Nat.le_refl _)) ⟨some ⟨Z.size,0,none⟩,n,?_,d.j9 (Nat.le_refl _) (by rw [D.kT C.ok,O,b];show n≤70368744177656;omega) ?_⟩
 ·rw [D.kT C.ok,O,b]
 ·rw [D.kT C.ok,O,b]
theorem DU{Y:J}{a:R}{c l:Nat}{S:List Nat}{Z:V}(C:b4 bR Z a c S)(d:l=S.length)(g:∀ v K,a2 Z K→fF Z K v (D.val S)→Y v K):
  ∀ n:Nat,n≤S.length→cV (S.take n)=cV S→fV.bZ.t Y (n+1) a l c (n:Int) Z:=by
 have aI:=C.mS
 intro n
 induction n with
 | zero=>
  intro e b
  unfold fV.bZ.t fV.bP.t
  refine b1 (fun Z=>absurd Z (by omega)) fun _=>Ap C d 0 e ?_ g
  rw [← b];rfl
 | succ n bD=>
  intro e b
  refine b1 (fun _=>?_) fun Z=>absurd (by omega) Z
  refine b9 (n:Int) (by omega) (by omega) (by omega) ?_
  refine hM C (M:=n) rfl d (by omega) ?_
  have f:=lV (S:=S) (n:=n) (by omega)
  refine fP (fun h=>?_) fun h=>?_
  ·refine b9 (n:Int) (by omega) (by omega) (by omega) ?_
   refine bD (by omega) ?_
   rw [← b,f,show S.getD n 0=0 by omega,qK]
  ·refine Ap C d (n+1) e ?_ g
   rw [← b,f,rZ _ (by omega)]
theorem nE{a:R}{c l:Nat}{S:List Nat}{Z:V}(C:b4 bR Z a c S)(b:l=S.length):
  aG fV.id #[.slice a l c] Z fun v K=>a2 Z K∧fF Z K v (D.val S):=by
 refine fV.ok ?_
 unfold fV.t fV.u.t
 refine⟨S.length+1,?_⟩
 subst b
 exact DU C rfl (fun v K U F=>⟨U,F⟩) S.length (Nat.le_refl _) (by rw [List.take_length])
theorem nZ{o Z:V}{a:R}{c l aH:Nat}{S:List Nat}(g:cH bR o Z a c S)(b:l=S.length)(d:D.val S=aH)(U:a2 o Z){Y:J}(e:∀ v K,a2 o K→fF o K v aH→Y v K):
  aG fV.id #[.slice a l c] Z fun v K=>aE v fun a l c=>Y (.slice a l c) K:=by
 subst d
 refine bE (nE g.rd b) fun v K ⟨f,F⟩=>?_
 refine F.elim fun i bA h=>?_
 exact e _ _ (U.trans f) ⟨_,_,rfl,h.from U.le⟩
theorem DV{Y:J}{a:R}{c l:Nat}{S:List Nat}{o:V}(C:bU o a c S)(j:l=S.length)(m:∀ v K,a2 o K→fF o K v (val S)→Y v K):
  ∀ (U T:Nat) (e:R) (Z:V),T+U=S.length→cH bR o Z e (2*S.length) (split (S.take T))→a2 o Z→
   jD.a8.t Y (U+1) a l c e (2*T) (2*S.length) (T:Int) Z:=by
 subst j
 have aI:=C.len
 intro U
 induction U with
 | zero=>
  intro T e Z aK g b
  unfold jD.a8.t jD.bS.t
  refine b1 (fun f=>absurd f (by omega)) fun _=>?_
  unfold jD.aD.t
  refine nZ g ?_ ?_ b m
  ·rw [Af,List.length_take];omega
  ·rw [DM,List.take_of_length_le (by omega)]
 | succ U bD=>
  intro T e Z aK g b
  have n:=C.word T
  unfold jD.a8.t jD.bS.t
  refine b1 (fun _=>?_) fun f=>absurd (by omega) f
  refine eW (C.I b) (M:=T) rfl rfl (by omega) ?_
  refine kD rfl n ?_
  refine iI (S.getD T 0 % 4294967296) rfl (by omega) ?_
  refine eW (C.I b) (M:=T) rfl rfl (by omega) ?_
  refine nD rfl ?_
  refine iI (S.getD T 0 / 4294967296) rfl (by omega) ?_
  have d:(split (S.take T)).length=2*T:=by rw [Af,List.length_take];omega
  refine Ad bR g b [S.getD T 0 % 4294967296,S.getD T 0 / 4294967296] rfl (fun k h=>?_) d.symm rfl rfl 0 rfl k9 4 rfl (by decide) ?_ ?_ fun D c1 K i cD E=>?_
  ·simp only [List.mem_cons,List.not_mem_nil,or_false] at h
   show k < 4294967296
   rcases h with O | O <;> omega
  ·rw [d];show 2*T+2≤70368744177656;omega
  ·rw [d];intro G;simp at G;omega
  ·have H:=E (by rw [d];simp;omega)
   subst H
   refine b9 ((T+1:Nat):Int) (by omega) (by omega) (by omega) ?_
   rw [d]
   have O:split (S.take (T+1))=split (S.take T) ++ [S.getD T 0 % 4294967296,S.getD T 0 / 4294967296]:=by
    rw [lV (by omega),DN];rfl
   rw [← O] at i
   exact bD (T+1) D K (by omega) i cD
theorem DW{a:R}{c l:Nat}{S:List Nat}{Z:V}(C:bU Z a c S)(b:l=S.length):
  aG jD.id #[.slice a l c] Z fun v K=>a2 Z K∧fF Z K v (val S):=by
 refine jD.ok ?_
 unfold jD.t jD.u.t
 subst b
 have aI:=C.len
 refine b9 ((2*S.length:Nat):Int) (by omega) (by omega) (by omega) ?_
 refine m9 bR 0 0 (2*S.length) rfl k9 4 rfl (by decide) rfl rfl (by omega) (by omega) fun d s U=>?_
 unfold jD.a4.t
 refine⟨S.length+1,?_⟩
 rw [Int.toNat_natCast]
 refine DV C rfl (fun v K U F=>⟨U,F⟩) S.length 0 _ d (by omega) ?_ U
 exact c0.iO (S:=split (S.take 0)) (rest:=List.replicate (2*S.length) 0) (by simpa [split] using s) (Nat.le_refl _) (by simp [split]) (by simp [split]) (by simp [split])
theorem mT{Q:Int}{L:Nat}(a:Q=(L:Int))(d:L < 18446744073709551616)(Z:V):aG gV.id #[.int .u64 Q] Z fun v K=>a2 Z K∧fF Z K v L:=by
 refine gV.ok ?_
 unfold gV.t gV.u.t
 refine kD a d ?_
 refine iI (L % 4294967296) rfl (by omega) ?_
 refine nD a ?_
 refine iI (L / 4294967296) rfl (by omega) ?_
 refine uC bR [L % 4294967296,L / 4294967296] rfl (fun k b=>?_) fun aI s U=>?_
 ·simp only [List.mem_cons,List.not_mem_nil,or_false] at b
  show k < 4294967296
  rcases b with O | O <;> omega
 ·refine nZ (o:=Z) (Y:=fun v K=>a2 Z K∧fF Z K v L) (s.j9 (c:=2) (Nat.le_refl _) (show 2≤70368744177656 by decide) rfl) (by rfl) (aH:=L) ?_ U (fun v K U F=>⟨U,F⟩)
  simp only [D.val];omega
theorem DX{Y:J}{a N:R}{c aB:Nat}{S w:List Nat}{Z:V}(C:b4 bR Z a c S)(F:b4 bR Z N aB w)(e:S.length=w.length)(g:Y (.int .i64 (e4 (D.val S) (D.val w))) Z):
  ∀ n:Nat,n≤S.length→S.drop n=w.drop n→iJ.a8.t Y (n+1) a S.length c N w.length aB ((n:Int) - 1) Z:=by
 have aI:=C.mS
 intro n
 induction n with
 | zero=>
  intro f b
  unfold iJ.a8.t iJ.bS.t
  refine b1 (fun d=>absurd d (by omega)) fun _=>?_
  unfold iJ.aD.t
  rw [List.drop_zero,List.drop_zero] at b
  rw [b] at g
  simpa [e4] using g
 | succ n bD=>
  intro f b
  unfold iJ.a8.t iJ.bS.t
  refine b1 (fun d=>?_) fun d=>absurd (by omega) d
  refine hM C (M:=n) (by omega) rfl (by omega) ?_
  refine hM F (M:=n) (by omega) rfl (by omega) ?_
  refine b1 (fun d=>?_) fun d=>?_
  ·have a1:=D.o4 C.ok F.ok e (M:=n) (by omega) b (by omega)
   unfold e4 at g;rw [if_pos a1] at g;exact g
  ·refine hM C (M:=n) (by omega) rfl (by omega) ?_
   refine hM F (M:=n) (by omega) rfl (by omega) ?_
   refine b1 (fun h=>?_) fun h=>?_
   ·have a1:=D.o4 F.ok C.ok e.symm (M:=n) (by omega) b.symm (by omega)
    unfold e4 at g;rw [if_neg (by omega),if_neg (by omega)] at g;exact g
   ·refine b9 ((n:Int) - 1) (by omega) (by omega) (by omega) ?_
    refine bD (by omega) ?_
    rw [gU (S:=S) (by omega),gU (S:=w) (by omega),b,show S.getD n 0=w.getD n 0 by omega]
theorem wX{a N:R}{c aB l m aH aY:Nat}{Z:V}(C:b4 bR Z a c (D.z aH))(F:b4 bR Z N aB (D.z aY))(e:l=(D.z aH).length)(f:m=(D.z aY).length):
  aG iJ.id #[.slice a l c,.slice N m aB] Z fun v K=>K=Z∧v=.int .i64 (e4 aH aY):=by
 subst e;subst f
 have aI:=C.mS
 refine iJ.ok ?_
 unfold iJ.t iJ.u.t
 have b:D.val (D.z aH)=aH:=D.dZ aH
 have d:D.val (D.z aY)=aY:=D.dZ aY
 refine r1 (fun h=>?_) fun i=>?_
 ·refine b1 (fun g=>⟨rfl,?_⟩) fun g=>⟨rfl,?_⟩
  ·have:=D.nW C.ok (D.o3 aY) (by omega)
   rw [b,d] at this
   unfold e4;rw [if_pos this]
  ·have:=D.nW F.ok (D.o3 aH) (by omega)
   rw [b,d] at this
   unfold e4;rw [if_neg (by omega),if_neg (by omega)]
 ·unfold iJ.a4.t
  refine b9 (((D.z aH).length:Int) - 1) rfl (by omega) (by omega) ?_
  refine⟨(D.z aH).length+1,?_⟩
  refine DX C F (by omega) ?_ _ (Nat.le_refl _) ?_
  ·rw [b,d];exact⟨rfl,rfl⟩
  ·rw [List.drop_length,List.drop_of_length_le (by omega)]
theorem uJ{Y:J}{a N:R}{c aB U m cG:Nat}{S w:List Nat}{o:V}(T:Nat)(aF:List Nat)(b:Nat)(d:R)(Z:V)(Q:Int)(e:Q=(b:Int))(h:b < 18446744073709551616)(aK:T < m)(Iz:m≤35184372088832)(g:cH bR o Z d m aF)(i:a2 o Z)(f:aF.length=T)
  (bD:∀ d Z,cH bR o Z d m (aF ++ [b % 4294967296])→a2 o Z→gW.a8.t Y U a S.length c N w.length aB d (T+1) m ((b / 4294967296:Nat):Int) ((T+1:Nat):Int) Z) :
  aN (fK .u64 Q 4294967295) fun j=>aN (IntKind.u32.wrap j) fun l=>cU Z 78 [.int .u32 l] fun n v=>g2 v 78 gP d T m (.slice (some n) 1 1) fun D E G H=>
   0≤(32:Int)∧aN (fC .u64 Q 32) fun P=>aN (IntKind.i64.wrap ((T:Int)+1)) fun Iv=>gW.a8.t Y U a S.length c N w.length aB D E G P Iv H:=by
 refine kD e h ?_
 refine iI (b % 4294967296) rfl (by omega) ?_
 refine qS g i f.symm rfl (by omega) (by omega) (by omega) fun Iw c1 K Ix cD Iy=>?_
 obtain rfl:=Iy (by omega)
 refine nD e ?_
 refine b9 ((T+1:Nat):Int) (by omega) (by omega) (by omega) ?_
 rw [f]
 exact bD Iw K Ix cD
theorem DY{Y:J}{a N:R}{c aB m cG:Nat}{S w:List Nat}{o:V}(C:b4 bR o a c S)(F:b4 bR o N aB w)(Ix:S.length < m)(Iy:w.length < m)(l:m≤35184372088832)(H:∀ v K,a2 o K→fF o K v cG→Y v K):
  ∀ (U T b:Nat) (aF:List Nat) (h:R) (Z:V),T+U=m→aF.length=T→b≤1→(m≤T→b=0)→D.val aF+(D.val (S.drop T)+D.val (w.drop T)+b)*2 ^ (32*T)=cG→cH bR o Z h m aF→a2 o Z→
   gW.a8.t Y (U+1) a S.length c N w.length aB h T m (b:Int) (T:Int) Z:=by
 intro U
 induction U with
 | zero=>
  intro T b aF h Z aK d Iv P O g f
  unfold gW.a8.t gW.bS.t
  refine b1 (fun e=>absurd e (by omega)) fun _=>?_
  refine b1 (fun e=>absurd e (by omega)) fun _=>?_
  rw [List.drop_of_length_le (by omega),List.drop_of_length_le (by omega)] at O
  have E:=P (by omega)
  refine b1 (fun e=>absurd e (by omega)) fun _=>?_
  unfold gW.aD.t
  refine nZ g d.symm ?_ f H
  rw [E] at O
  simpa [D.val] using O
 | succ U bD=>
  intro T b aF h Z aK d Iv P O g f
  have Iz:=C.kB T
  have IA:=F.kB T
  have cI:∀ t c1,(S.getD T 0+w.getD T 0+b)=t+4294967296*c1→D.val (aF ++ [t])+(D.val (S.drop (T+1))+D.val (w.drop (T+1))+c1)*2 ^ (32*(T+1))=cG:=by
   intro t c1 IB
   have aI:=D.jI S T
   have IC:=D.jI w T
   rw [← O]
   exact D.Ah (F:=S.getD T 0+w.getD T 0) d (by omega) (by omega)
  have G:T < S.length∨T < w.length∨0 < b→gW.cW.t Y (gW.a8.t Y (U+1)) a S.length c N w.length aB h T m (b:Int) (T:Int) Z:=by
   intro _
   unfold gW.cW.t
   refine b1 (fun e=>?_) fun e=>?_
   ·refine hM (C.I f) (M:=T) rfl rfl (by omega) ?_
    refine cK (S.getD T 0) rfl (by omega) ?_
    refine cK (b+S.getD T 0) (by omega) (by omega) ?_
    refine b1 (fun n=>?_) fun n=>?_
    ·refine hM (F.I f) (M:=T) rfl rfl (by omega) ?_
     refine cK (w.getD T 0) rfl (by omega) ?_
     refine cK (b+S.getD T 0+w.getD T 0) (by omega) (by omega) ?_
     exact uJ (cG:=cG) T aF _ h Z _ rfl (by omega) (by omega) l g f d fun i K j cD=>bD (T+1) _ _ i K (by omega) (by simp [d]) (by omega) (by omega) (cI _ _ (by omega)) j cD
    ·have Iw:w.getD T 0=0:=by simp [List.getD,show w.length≤T by omega]
     exact uJ (cG:=cG) T aF _ h Z _ rfl (by omega) (by omega) l g f d fun i K j cD=>bD (T+1) _ _ i K (by omega) (by simp [d]) (by omega) (by omega) (cI _ _ (by omega)) j cD
   ·have ID:S.getD T 0=0:=by simp [List.getD,show S.length≤T by omega]
    refine b1 (fun n=>?_) fun n=>?_
    ·refine hM (F.I f) (M:=T) rfl rfl (by omega) ?_
     refine cK (w.getD T 0) rfl (by omega) ?_
     refine cK (b+w.getD T 0) (by omega) (by omega) ?_
     exact uJ (cG:=cG) T aF _ h Z _ rfl (by omega) (by omega) l g f d fun i K j cD=>bD (T+1) _ _ i K (by omega) (by simp [d]) (by omega) (by omega) (cI _ _ (by omega)) j cD
    ·have Iw:w.getD T 0=0:=by simp [List.getD,show w.length≤T by omega]
     exact uJ (cG:=cG) T aF _ h Z _ rfl (by omega) (by omega) l g f d fun i K j cD=>bD (T+1) _ _ i K (by omega) (by simp [d]) (by omega) (by omega) (cI _ _ (by omega)) j cD
  unfold gW.a8.t gW.bS.t
  refine b1 (fun e=>G (by omega)) fun e=>?_
  refine b1 (fun e=>G (by omega)) fun n=>?_
  refine b1 (fun e=>G (by omega)) fun IE=>?_
  have E:b=0:=by omega
  unfold gW.aD.t
  refine nZ g d.symm ?_ f H
  rw [List.drop_of_length_le (by omega),List.drop_of_length_le (by omega),E] at O
  simpa [D.val] using O
theorem Aq{a N:R}{c aB l n aH aY:Nat}{Z:V}(C:b4 bR Z a c (D.z aH))(F:b4 bR Z N aB (D.z aY))(b:l=(D.z aH).length)(d:n=(D.z aY).length)(f:(D.z aH).length≤1099511627776)(g:(D.z aY).length≤1099511627776):
  aG gW.id #[.slice a l c,.slice N n aB] Z fun v K=>a2 Z K∧fF Z K v (aH+aY):=by
 subst b;subst d
 refine gW.ok ?_
 unfold gW.t gW.u.t
 have O:(if (((D.z aY).length:Nat):Int) > (((D.z aH).length:Nat):Int) then(((D.z aY).length:Nat):Int) else(((D.z aH).length:Nat):Int))=((max (D.z aH).length (D.z aY).length:Nat):Int):=by split <;> omega
 rw [O]
 refine b9 ((max (D.z aH).length (D.z aY).length+1:Nat):Int) (by omega) (by omega) (by omega) ?_
 refine m9 bR 0 0 (max (D.z aH).length (D.z aY).length+1) rfl k9 4 rfl (by decide) rfl rfl (by omega) (by omega) fun e s U=>?_
 unfold gW.a4.t
 refine⟨max (D.z aH).length (D.z aY).length+2,?_⟩
 rw [Int.toNat_natCast]
 refine DY (cG:=aH+aY) C F (by omega) (by omega) (by omega) (fun v K U F=>⟨U,F⟩) _ 0 0 [] _ e (by omega) rfl (by omega) (by omega) ?_ ?_ U
 ·simp [D.val,D.dZ]
 ·exact c0.iO (S:=[]) (rest:=List.replicate (max (D.z aH).length (D.z aY).length+1) 0) (by simpa using s) (Nat.le_refl _) (by simp) (by simp) (by simp)
theorem wY{o Z:V}{N l:Nat}{aF:List Nat}(s:c0 bR Z N aF)(a:a2 o Z)(b:o.size≤N){T:Int}{M:Nat}(aK:T=(M:Int))(h:l=aF.length)(c:M < aF.length){Q:Int}{v:Nat}(d:Q=(v:Int))(a1:v < 4294967296){A:V→Prop}
  (g:∀ K,c0 bR K N (aF.set M v)→a2 o K→A K):cC (some ⟨N,0,none⟩) l T 1 fun x=>bI Z x (.int .u32 Q) A:=
 uB s aK (by omega) c (by rw [d];rfl) a1 fun e f=>g _ e (f.I a b)
theorem DZ{L:Nat}(Z:L ≠ 0):dK L=dK (L / 2)+1:=by
 have aI:=o5 L 1
 have a:=lY Z
 rw [show L / 2=L / 2 ^ 1 by rfl];omega
theorem D0{Y:J}{Z:V}{cG:Nat}(h:cG < 4611686018427387904)(g:Y (.int .i64 (cG:Int)) Z):∀ (U Q L:Nat),L < 2 ^ U→Q+dK L=cG→U≤32→jT.a8.t Y (U+1) (Q:Int) (L:Int) Z:=by
 intro U
 induction U with
 | zero=>
  intro Q L a O _
  have:L=0:=by simpa using a
  subst this
  unfold jT.a8.t jT.bS.t
  refine b1 (fun b=>absurd b (by omega)) fun _=>?_
  unfold jT.aD.t
  rw [show Q=cG by simpa [z1] using O];exact g
 | succ U bD=>
  intro Q L a O c
  unfold jT.a8.t jT.bS.t
  refine b1 (fun b=>?_) fun b=>?_
  ·have d:L ≠ 0:=by omega
   have i:=DZ d
   refine b9 ((Q+1:Nat):Int) (by omega) (by omega) (by omega) ?_
   refine⟨by decide,?_⟩
   have e:Int.tdiv (L:Int) 2=((L / 2:Nat):Int):=l0 L 2
   rw [e]
   have f:2 ^ (U+1)≤2 ^ 32:=Nat.pow_le_pow_right (by decide) c
   refine iI (L / 2) rfl (by rw [show(2:Nat) ^ 32=4294967296 from rfl] at f;omega) ?_
   exact bD (Q+1) (L / 2) (by rw [Nat.pow_succ] at a;omega) (by omega) (by omega)
  ·have:L=0:=by omega
   subst this
   unfold jT.aD.t
   rw [show Q=cG by simpa [z1] using O];exact g
theorem D1{a:R}{c l:Nat}{S:List Nat}{Z:V}(C:b4 bR Z a c S)(d:l=S.length)(e:cV S=S):
  aG jT.id #[.slice a l c] Z fun v K=>K=Z∧v=.int .i64 ((dK (D.val S):Nat):Int):=by
 subst d
 have aI:=C.mS
 refine jT.ok ?_
 unfold jT.t jT.u.t
 refine fP (fun o=>?_) fun o=>?_
 ·have O:S=[]:=List.length_eq_zero_iff.mp (by omega)
  subst O;exact⟨rfl,rfl⟩
 ·have f:S.getD (S.length - 1) 0 ≠ 0:=by
   rcases qL.mp e with O | O
   ·subst O;simp at o
   ·exact O
  have g:=D.r0 C.ok (n:=S.length - 1) (by omega) f
  have b:=C.kB (S.length - 1)
  have h:dK (S.getD (S.length - 1) 0)≤32:=hH.mpr b
  refine b9 ((S.length - 1:Nat):Int) (by omega) (by omega) (by omega) ?_
  refine b9 ((32*(S.length - 1):Nat):Int) (by omega) (by omega) (by omega) ?_
  unfold jT.a4.t
  refine b9 ((S.length - 1:Nat):Int) (by omega) (by omega) (by omega) ?_
  refine hM C (M:=S.length - 1) rfl rfl (by omega) ?_
  refine⟨33,?_⟩
  rw [g]
  exact D0 (by omega) ⟨rfl,rfl⟩ 32 _ _ b rfl (Nat.le_refl _)
theorem Ar{aF:List Nat}{T t v:Nat}(Z:T ≠ t):(aF.set T v).getD t 0=aF.getD t 0:=by
 simp [List.getD,Z]
theorem D2{Y:J}{m:R→Nat→Nat→R→Nat→Nat→R→Nat→Nat→Int→V→Prop}{a N:R}{E bA n T x cG Q:Nat}{S w:List Nat}{o:V}
  (F:b4 bR o N bA w) (aK:T < S.length) (P:Q < 4294967296) (IA:n=S.length+w.length) (G:o.size≤x) (Iv:n≤70368744177656)
  (g:∀ K aF,a2 o K→c0 bR K x aF→aF.length=n→(∀ t,T+1+w.length≤t→aF.getD t 0=0)→D.val aF+D.val (S.drop (T+1))*D.val w*2 ^ (32*(T+1))=cG→m a S.length E N w.length bA (some ⟨x,0,none⟩) n n ((T+1:Nat):Int) K) :
  ∀ (U M b:Nat) (aF:List Nat) (Z:V),M+U=w.length→b < 4294967296→aF.length=n→c0 bR Z x aF→a2 o Z→(∀ t,T+w.length≤t→aF.getD t 0=0)→
   D.val aF+(Q*D.val (w.drop M)+b)*2 ^ (32*(T+M))+D.val (S.drop (T+1))*D.val w*2 ^ (32*(T+1))=cG→
   gX.jJ.t Y m (U+1) a S.length E N w.length bA (some ⟨x,0,none⟩) n n (T:Int) (b:Int) (Q:Int) (M:Int) Z:=by
 intro U
 induction U with
 | zero=>
  intro M b aF Z Iw i d s f h O
  unfold gX.jJ.t gX.n0.t
  refine b1 (fun e=>absurd e (by omega)) fun e=>?_
  have Ix:M=w.length:=by omega
  subst Ix
  unfold gX.dX.t
  refine b9 ((T+w.length:Nat):Int) (by omega) (by omega) (by omega) ?_
  refine iI b rfl i ?_
  refine wY s f G (M:=T+w.length) rfl d.symm (by omega) rfl i fun Iy j l=>?_
  unfold gX.cW.t
  refine b9 ((T+1:Nat):Int) (by omega) (by omega) (by omega) ?_
  refine g _ _ l j (by simp [d]) (fun t H=>?_) ?_
  ·rw [Ar (by omega)];exact h t (by omega)
  ·have aZ:=D.jQ (aF:=aF) (M:=T+w.length) (v:=b) (by omega)
   rw [h _ (Nat.le_refl _)] at aZ
   rw [List.drop_length] at O
   simp only [D.val,Nat.zero_mul,Nat.mul_zero,Nat.zero_add,Nat.add_zero] at aZ O
   omega
 | succ U bD=>
  intro M b aF Z Iw i d s f h O
  have Iz:=F.kB M
  have IB:aF.getD (T+M) 0 < 4294967296:=kV (by decide) s.ok _
  have IC:=pB P Iz
  unfold gX.jJ.t gX.n0.t
  refine b1 (fun e=>?_) fun e=>absurd (by omega) e
  refine b9 ((T+M:Nat):Int) (by omega) (by omega) (by omega) ?_
  refine hM (s.o8 (c:=n) (by rw [d];exact Iv) (by omega)) (M:=T+M) rfl d.symm (by omega) ?_
  refine cK (aF.getD (T+M) 0) rfl (by omega) ?_
  refine hM (F.I f) (M:=M) rfl rfl (by omega) ?_
  refine cK (w.getD M 0) rfl (by omega) ?_
  have cI:Q*D.val (w.drop M)=Q*w.getD M 0+4294967296*(Q*D.val (w.drop (M+1))):=by
   rw [D.jI,Nat.mul_add,Nat.mul_left_comm]
  rw [cI] at O
  have em:(Q:Int)*((w.getD M 0:Nat):Int)=((Q*w.getD M 0:Nat):Int):=(Int.natCast_mul _ _).symm
  rw [em]
  generalize Q*w.getD M 0=y at *
  refine cK y rfl (by omega) ?_
  refine cK (aF.getD (T+M) 0+y) (by omega) (by omega) ?_
  refine cK (y+b+aF.getD (T+M) 0) (by omega) (by omega) ?_
  refine b9 ((T+M:Nat):Int) (by omega) (by omega) (by omega) ?_
  refine kD rfl (by omega) ?_
  refine iI ((y+b+aF.getD (T+M) 0) % 4294967296) rfl (by omega) ?_
  refine wY s f G (M:=T+M) rfl d.symm (by omega) rfl (by omega) fun Iy j l=>?_
  refine nD rfl ?_
  refine b9 ((M+1:Nat):Int) (by omega) (by omega) (by omega) ?_
  refine bD (M+1) _ _ _ (by omega) (by omega) (by simp [d]) j l (fun t H=>?_) ?_
  ·rw [Ar (by omega)];exact h t H
  ·have aZ:=D.jQ (aF:=aF) (M:=T+M) (v:=(y+b+aF.getD (T+M) 0) % 4294967296) (by omega)
   have:=tZ (a7:=4294967296) (y:=y) (c:=b) (C:=Q*D.val (w.drop (M+1))) (jB:=(y+b+aF.getD (T+M) 0) % 4294967296) (c1:=(y+b+aF.getD (T+M) 0) / 4294967296) (by omega) aZ
   rw [show T+(M+1)=T+M+1 by omega,D.h3 (T+M),this];exact O
theorem D3{Y:J}{a N:R}{e bA n x cG:Nat}{S w:List Nat}{o:V}
  (C:b4 bR o a e S) (F:b4 bR o N bA w) (i:n=S.length+w.length) (f:o.size≤x) (g:n≤70368744177656) (j:∀ v K,a2 o K→fF o K v cG→Y v K) :
  ∀ (U T:Nat) (aF:List Nat) (Z:V),T+U=S.length→aF.length=n→c0 bR Z x aF→a2 o Z→(∀ t,T+w.length≤t→aF.getD t 0=0)→D.val aF+D.val (S.drop T)*D.val w*2 ^ (32*T)=cG→
   gX.a8.t Y (U+1) a S.length e N w.length bA (some ⟨x,0,none⟩) n n (T:Int) Z:=by
 intro U
 induction U with
 | zero=>
  intro T aF Z aK b s d h O
  unfold gX.a8.t gX.bS.t
  refine b1 (fun c=>absurd c (by omega)) fun c=>?_
  unfold gX.aD.t
  refine nZ (s.j9 f (by rw [b];exact g) b.symm) b.symm ?_ d j
  rw [List.drop_of_length_le (by omega)] at O
  simpa [D.val] using O
 | succ U bD=>
  intro T aF Z aK b s d h O
  have l:=C.kB T
  unfold gX.a8.t gX.bS.t
  refine b1 (fun c=>?_) fun c=>absurd (by omega) c
  unfold gX.dP.t
  refine hM (C.I d) (M:=T) rfl rfl (by omega) ?_
  refine cK (S.getD T 0) rfl (by omega) ?_
  unfold gX.fJ.t
  refine⟨w.length+1,?_⟩
  refine D2 (cG:=cG) (Q:=S.getD T 0) F (by omega) l i f g (fun K m cD eG E G H=>?_) w.length 0 0 aF Z (by omega) (by omega) b s d h ?_
  ·exact bD (T+1) m K (by omega) E eG cD G H
  ·rw [D.jI] at O
   rw [← O,D.h3,List.drop_zero,Nat.add_zero,Nat.add_zero,Nat.add_mul,Nat.add_mul]
   have P:D.val (S.drop (T+1))*D.val w*(4294967296*2 ^ (32*T))=4294967296*D.val (S.drop (T+1))*D.val w*2 ^ (32*T):=by
    rw [Nat.mul_left_comm,Nat.mul_assoc 4294967296,Nat.mul_assoc 4294967296]
   rw [P];omega
theorem D.D4(n t:Nat):(List.replicate n 0).getD t 0=0:=by
 simp only [List.getD,List.getElem?_replicate];split <;> rfl
theorem D5{a N:R}{c aB l n aH aY:Nat}{Z:V}(C:b4 bR Z a c (D.z aH))(F:b4 bR Z N aB (D.z aY))(b:l=(D.z aH).length)(d:n=(D.z aY).length)(f:(D.z aH).length≤1099511627776)(g:(D.z aY).length≤1099511627776):
  aG gX.id #[.slice a l c,.slice N n aB] Z fun v K=>a2 Z K∧fF Z K v (aH*aY):=by
 subst b;subst d
 refine gX.ok ?_
 unfold gX.t gX.u.t
 refine b9 (((D.z aH).length+(D.z aY).length:Nat):Int) (by omega) (by omega) (by omega) ?_
 refine m9 bR 0 ((D.z aH).length+(D.z aY).length) ((D.z aH).length+(D.z aY).length) rfl k9 4 rfl (by decide) rfl rfl (by omega) (by omega) fun e s U=>?_
 unfold gX.a4.t
 refine⟨(D.z aH).length+1,?_⟩
 rw [Int.toNat_natCast]
 refine D3 (cG:=aH*aY) C F rfl (Nat.le_refl _) (by omega) (fun v K U F=>⟨U,F⟩) _ 0 _ e (by omega) (by simp) s U (fun t _=>D.D4 _ _) ?_
 rw [D.o7,List.drop_zero,D.dZ,D.dZ];simp
theorem D6{Y:J}{a:R}{c L x:Nat}{S:List Nat}{o:V}(C:b4 bR o a c S)(G:o.size≤x)(Iy:L < 4294967296)(f:0 < L)
  (H:∀ v K,a2 o K→(∃ i c1,v=.tuple #[.slice i (D.z (D.val S / L)).length c1,.int .u32 ((D.val S % L:Nat):Int)]∧cH bR o K i c1 (D.z (D.val S / L)))→Y v K) :
  ∀ (n le:Nat) (aF:List Nat) (Z:V),n≤S.length→aF.length=S.length→le < L→c0 bR Z x aF→a2 o Z→D.val (aF.drop n)*L+le=D.val (S.drop n)→
   jU.a8.t Y (n+1) a S.length c (L:Int) (some ⟨x,0,none⟩) S.length S.length (le:Int) ((n:Int) - 1) Z:=by
 have aI:=C.mS
 intro n
 induction n with
 | zero=>
  intro le aF Z P b g s d O
  unfold jU.a8.t jU.bS.t
  refine b1 (fun e=>absurd e (by omega)) fun _=>?_
  unfold jU.aD.t
  rw [List.drop_zero,List.drop_zero] at O
  have j:D.val aF=D.val S / L∧le=D.val S % L:=by
   rw [← O,Nat.mul_comm,Nat.mul_add_div f,Nat.div_eq_of_lt g,Nat.mul_add_mod,Nat.mod_eq_of_lt g];simp
  refine bE (nE (s.o8 (c:=S.length) (by rw [b];exact aI) (by omega)) b.symm) fun v K ⟨h,F⟩=>?_
  refine F.elim fun Iz bA l=>?_
  refine iI le rfl (by omega) ?_
  rw [j.1] at l ⊢
  rw [j.2]
  exact H _ _ (d.trans h) ⟨_,_,rfl,l.from d.le⟩
 | succ n bD=>
  intro le aF Z P b g s d O
  have IA:=C.kB n
  unfold jU.a8.t jU.bS.t
  refine b1 (fun e=>?_) fun e=>absurd (by omega) e
  refine Ao rfl (by omega) ?_
  refine hM (C.I d) (M:=n) (by omega) rfl (by omega) ?_
  refine cK (S.getD n 0) rfl (by omega) ?_
  refine cK (le*4294967296+S.getD n 0) (by omega) (by omega) ?_
  refine cK L rfl (by omega) ?_
  have m:(L:Int) ≠ 0:=by omega
  refine⟨m,?_⟩
  have E:(le*4294967296+S.getD n 0) / L < 4294967296:=by
   rw [Nat.div_lt_iff_lt_mul f]
   have:le*4294967296+4294967296≤L*4294967296:=by omega
   rw [Nat.mul_comm 4294967296];omega
  have IB:=Nat.div_add_mod (le*4294967296+S.getD n 0) L
  have Iv:=Nat.mod_lt (le*4294967296+S.getD n 0) f
  rw [l0]
  refine cK ((le*4294967296+S.getD n 0) / L) rfl (by omega) ?_
  refine iI ((le*4294967296+S.getD n 0) / L) rfl E ?_
  refine wY s d G (M:=n) (by omega) b.symm (by omega) rfl E fun IC Iw h=>?_
  refine cK L rfl (by omega) ?_
  refine⟨m,?_⟩
  rw [qR]
  refine iH rfl ?_
  refine b9 ((n:Int) - 1) (by omega) (by omega) (by omega) ?_
  refine bD _ _ _ (by omega) (by simp [b]) Iv Iw h ?_
  have Ix:(aF.set n ((le*4294967296+S.getD n 0) / L)).drop n=(le*4294967296+S.getD n 0) / L :: aF.drop (n+1):=by
   rw [gU (by simp;omega),List.drop_set_of_lt (by omega)]
   simp [List.getD,show n < aF.length by omega]
  rw [Ix,gU (S:=S) (by omega)]
  simp only [D.val]
  rw [Nat.add_mul,Nat.mul_assoc,Nat.mul_comm _ L]
  generalize L*((le*4294967296+S.getD n 0) / L)=ID at *
  generalize (le*4294967296+S.getD n 0) % L=a7 at *
  generalize D.val (aF.drop (n+1))*L=q at *
  omega
theorem As{a:R}{c l L:Nat}{S:List Nat}{Z:V}(C:b4 bR Z a c S)(e:l=S.length){Q:Int}(f:Q=(L:Int))(g:L < 4294967296)(b:0 < L):
  aG jU.id #[.slice a l c,.int .u32 Q] Z fun v K=>a2 Z K∧∃ d c1,v=.tuple #[.slice d (D.z (D.val S / L)).length c1,.int .u32 ((D.val S % L:Nat):Int)]∧cH bR Z K d c1 (D.z (D.val S / L)):=by
 subst e;subst f
 have aI:=C.mS
 refine jU.ok ?_
 unfold jU.t jU.u.t
 refine fP (fun o=>absurd o (by omega)) fun _=>?_
 refine m9 bR 0 S.length S.length rfl k9 4 rfl (by decide) rfl rfl (by omega) (by omega) fun h s U=>?_
 unfold jU.a4.t
 refine b9 ((S.length:Int) - 1) rfl (by omega) (by omega) ?_
 refine⟨S.length+1,?_⟩
 rw [Int.toNat_natCast]
 refine D6 C (Nat.le_refl _) g b (fun v K U F=>⟨U,F⟩) S.length 0 _ h (Nat.le_refl _) (by simp) b s U ?_
 rw [List.drop_length,List.drop_of_length_le (by simp)];simp [D.val]
theorem wZ{U:Nat}(b:U < 32):2 ^ U < 4294967296:=Nat.pow_lt_pow_right (a:=2) (by decide) b
theorem At{U:Nat}(b:U < 32){Q:Int}(c:Q=(U:Int)){A:Int→Prop}(g:A ((2 ^ U:Nat):Int)):0≤Q∧aN (e7 .u32 1 Q) A:=by
 subst c
 refine⟨by omega,⟨?_⟩⟩
 show A (IntKind.u32.wrap (1*2 ^ (min (U:Int).toNat 32)))
 have O:min (U:Int).toNat 32=U:=by omega
 have e:2 ^ U < 4294967296:=Nat.pow_lt_pow_right (a:=2) (by decide) b
 have d:(1:Int)*2 ^ U=((2 ^ U:Nat):Int):=by rw [Int.natCast_pow,Int.one_mul];rfl
 rw [O,d]
 have:IntKind.u32.wrap ((2 ^ U:Nat):Int)=((2 ^ U:Nat):Int):=by
  simp only [IntKind.wrap,IntKind.bits,IntKind.signed,Bool.false_and,Bool.false_eq_true,if_false]
  generalize 2 ^ U=y at *
  omega
 rw [this];exact g
theorem qT{n:Nat}(b:n < 9223372036854775808){Q:Int}(a:Q=(n:Int)){A:Int→Prop}(g:A ((n / 32:Nat):Int)):(32:Int) ≠ 0∧aN (IntKind.i64.wrap (Int.tdiv Q 32)) A:=by
 subst a
 refine⟨by decide,?_⟩
 have O:Int.tdiv (n:Int) 32=((n / 32:Nat):Int):=l0 n 32
 rw [O];exact b9 _ rfl (by omega) (by omega) g
theorem w0{n:Nat}{Q:Int}(a:Q=(n:Int)){A:Int→Prop}(g:A ((n % 32:Nat):Int)):(32:Int) ≠ 0∧aN (Int.tmod Q 32) A:=by
 subst a
 refine⟨by decide,?_⟩
 have O:Int.tmod (n:Int) 32=((n % 32:Nat):Int):=qR n 32
 rw [O];exact⟨g⟩
theorem Au(n:Nat):2 ^ n=2 ^ (32*(n / 32))*2 ^ (n % 32):=by rw [← Nat.pow_add,Nat.div_add_mod]
theorem D7{a:R}{c l aH:Nat}{Z:V}(C:b4 bR Z a c (D.z aH))(h:l=(D.z aH).length){Q:Int}{n:Nat}(i:Q=(n:Int))(g:n < 9223372036854775808):
  aG pC.id #[.slice a l c,.int .i64 Q] Z fun v K=>a2 Z K∧fF Z K v (aH / 2 ^ n):=by
 subst h;subst i
 have f:D.val (D.z aH)=aH:=D.dZ aH
 have aI:=C.mS
 refine pC.ok ?_
 unfold pC.t pC.u.t
 refine b1 (fun o=>?_) fun o=>?_
 ·have:n=0:=by omega
  subst this
  refine bE (nE C rfl) fun v K ⟨d,F⟩=>?_
  refine F.elim fun e bA b=>⟨d,e,bA,?_,?_⟩
  ·rw [f];simp
  ·rw [f] at b;simpa using b
 ·refine qT g rfl ?_
  refine b1 (fun j=>?_) fun j=>?_
  ·refine bE (mT (L:=0) rfl (by decide) Z) fun v K ⟨d,F⟩=>?_
   refine F.elim fun e bA b=>⟨d,e,bA,?_,?_⟩
   all_goals
    have Iv:=D.e2.mp (Nat.le_of_eq (rfl:(D.z aH).length=_))
    have Iw:2 ^ (32*(D.z aH).length)≤2 ^ n:=Nat.pow_le_pow_right (by decide) (by omega)
    have E:aH / 2 ^ n=0:=Nat.div_eq_of_lt (by omega)
    rw [E]
   exact b
  ·refine qT g rfl ?_
   refine zY rfl (by omega) ?_
   have G:=C.drop (m:=c) (n / 32) (by omega) C.cap
   refine w0 rfl ?_
   refine At (U:=n % 32) (by omega) rfl ?_
   have H:2 ^ (n % 32) < 4294967296:=wZ (show n % 32 < 32 by omega)
   refine bE (As G (by simp) rfl H (Nat.pow_pos (by decide))) fun v K ⟨d,e,bA,P,b⟩=>?_
   subst P
   have cI:D.val ((D.z aH).drop (n / 32)) / 2 ^ (n % 32)=aH / 2 ^ n:=by
    rw [D.jA (D.nU aH),f,Nat.div_div_eq_div_mul,← Au]
   rw [cI] at b ⊢
   refine fR rfl (a9 (aQ rfl (a9 (bJ rfl (b3 ?_)))))
   exact⟨d,_,_,rfl,b⟩
theorem Av{aF S w:List Nat}{T Q k t s eG:Nat}(a:aF.length=T)(Z:Q+4294967296*eG=t+k+s)(aK:D.val aF+D.val (w.take T)=D.val (S.take T)+s*2 ^ (32*T))(b:D.val (S.take (T+1))=D.val (S.take T)+2 ^ (32*T)*Q)(c:D.val (w.take (T+1))=D.val (w.take T)+2 ^ (32*T)*k):
  D.val (aF ++ [t])+D.val (w.take (T+1))=D.val (S.take (T+1))+eG*2 ^ (32*(T+1)):=by
 rw [D.gO,a,b,c,D.h3]
 simp only [D.val,Nat.mul_zero,Nat.add_zero]
 generalize 2 ^ (32*T)=P at *
 have O:P*(Q+4294967296*eG)=P*(t+k+s):=by rw [Z]
 have d:P*(Q+4294967296*eG)=P*Q+eG*(4294967296*P):=by rw [Nat.mul_add,Nat.mul_left_comm,Nat.mul_comm P eG,Nat.mul_left_comm]
 have e:P*(t+k+s)=P*t+P*k+s*P:=by rw [Nat.mul_add,Nat.mul_add,Nat.mul_comm P s]
 omega
theorem qU{S:List Nat}{T:Nat}:D.val (S.take (T+1))=D.val (S.take T)+2 ^ (32*T)*S.getD T 0:=by
 by_cases Z:T < S.length
 ·rw [lV Z,D.gO,List.length_take,Nat.min_eq_left (by omega)];simp [D.val]
 ·rw [List.take_of_length_le (by omega),List.take_of_length_le (by omega)]
  simp [List.getD,show S.length≤T by omega]
theorem Aw{Y:J}{a N:R}{c aB U m:Nat}{S w:List Nat}{o:V}(l:m=S.length)(T Q take:Nat)(aF:List Nat)(b:R)(Z:V)(k:Int)(n:k=(take:Int))(v:Q=S.getD T 0)(IN:Q < 4294967296)(IP:take≤4294967296)(aK:T < m)(IQ:m≤70368744177656)(C:b4 bR Z a c S)(g:cH bR o Z b m aF)(j:a2 o Z)(d:aF.length=T)
  (bD:∀ (t s:Nat) b Z,Q+4294967296*s=t+take→s≤1→t < 4294967296→cH bR o Z b m (aF ++ [t])→a2 o Z→hA.a8.t Y U a S.length c N w.length aB b (T+1) m (s:Int) ((T+1:Nat):Int) Z) :
  cC a S.length (T:Int) 1 fun D=>gI Z D fun E=>aC .u32 E fun G=>aN (IntKind.u64.wrap G) fun e=>
   cond (decide (e < k)) (aN (IntKind.u64.wrap (e+4294967296)) fun H=>aN (IntKind.u64.wrap (H - k)) fun P=>aN (IntKind.u32.wrap P) fun Iv=>cU Z 78 [.int .u32 Iv] fun Iw Ix=>g2 Ix 78 gP b T m (.slice (some Iw) 1 1) fun Iy Iz IA IB=>aN (IntKind.i64.wrap ((T:Int)+1)) fun IC=>hA.a8.t Y U a S.length c N w.length aB Iy Iz IA 1 IC IB)
    (aN (IntKind.u64.wrap (e - k)) fun ID=>aN (IntKind.u32.wrap ID) fun IE=>cU Z 78 [.int .u32 IE] fun IF IG=>g2 IG 78 gP b T m (.slice (some IF) 1 1) fun IH II IJ IK=>aN (IntKind.i64.wrap ((T:Int)+1)) fun IL=>hA.a8.t Y U a S.length c N w.length aB IH II IJ 0 IL IK):=by
 subst n;subst l
 refine hM C (M:=T) rfl rfl aK ?_
 rw [← v]
 refine cK Q rfl (by omega) ?_
 refine b1 (fun IM=>?_) fun IM=>?_
 ·refine cK (Q+4294967296) (by omega) (by omega) ?_
  refine cK (Q+4294967296 - take) (by omega) (by omega) ?_
  refine iI (Q+4294967296 - take) rfl (by omega) ?_
  refine qS g j d.symm rfl (by omega) (by omega) (by omega) fun f c1 K h cD i=>?_
  obtain rfl:=i (by omega)
  refine b9 ((T+1:Nat):Int) (by omega) (by omega) (by omega) ?_
  rw [d]
  exact bD _ 1 f K (by omega) (by omega) (by omega) h cD
 ·refine cK (Q - take) (by omega) (by omega) ?_
  refine iI (Q - take) rfl (by omega) ?_
  refine qS g j d.symm rfl (by omega) (by omega) (by omega) fun f c1 K h cD i=>?_
  obtain rfl:=i (by omega)
  refine b9 ((T+1:Nat):Int) (by omega) (by omega) (by omega) ?_
  rw [d]
  exact bD _ 0 f K (by omega) (by omega) (by omega) h cD
theorem D8{Y:J}{a N:R}{c aB:Nat}{S w:List Nat}{o:V}(C:b4 bR o a c S)(F:b4 bR o N aB w)(Ix:D.val w≤D.val S)(Iy:w.length≤S.length)(n:∀ v K,a2 o K→fF o K v (D.val S - D.val w)→Y v K):
  ∀ (U T b:Nat) (aF:List Nat) (f:R) (Z:V),T+U=S.length→aF.length=T→b≤1→D.val aF+D.val (w.take T)=D.val (S.take T)+b*2 ^ (32*T)→cH bR o Z f S.length aF→a2 o Z→
   hA.a8.t Y (U+1) a S.length c N w.length aB f T S.length (b:Int) (T:Int) Z:=by
 have aI:=C.mS
 intro U
 induction U with
 | zero=>
  intro T b aF f Z aK d E O g e
  unfold hA.a8.t hA.bS.t
  refine b1 (fun h=>absurd h (by omega)) fun _=>?_
  unfold hA.aD.t
  refine nZ g d.symm ?_ e n
  rw [List.take_of_length_le (by omega),List.take_of_length_le (by omega)] at O
  have G:=D.gE (S:=aF) g.rd.ok
  rw [d] at G
  have:b=0:=by
   rcases Nat.lt_or_ge b 1 with H | H
   ·omega
   ·have:b=1:=by omega
    subst this;omega
  subst this
  omega
 | succ U bD=>
  intro T b aF f Z aK d E O g e
  have m:=C.kB T
  have Iz:=F.kB T
  unfold hA.a8.t hA.bS.t
  refine b1 (fun _=>?_) fun h=>absurd (by omega) h
  refine b1 (fun h=>?_) fun h=>?_
  ·refine hM (F.I e) (M:=T) rfl rfl (by omega) ?_
   refine cK (w.getD T 0) rfl (by omega) ?_
   refine cK (w.getD T 0+b) (by omega) (by omega) ?_
   exact Aw rfl T (S.getD T 0) (w.getD T 0+b) aF f Z _ rfl rfl m (by omega) (by omega) aI (C.I e) g e d fun t s i K P j Iv l cD=>bD (T+1) s _ i K (by omega) (by simp [d]) j (Av d (by omega) O qU qU) l cD
  ·have Iw:w.getD T 0=0:=by simp [List.getD,show w.length≤T by omega]
   exact Aw rfl T (S.getD T 0) b aF f Z _ rfl rfl m (by omega) (by omega) aI (C.I e) g e d fun t s i K P j Iv l cD=>bD (T+1) s _ i K (by omega) (by simp [d]) j (Av d (by omega) O qU (k:=0) (by rw [qU,Iw])) l cD
theorem D9{a N:R}{c aB l n aH aY:Nat}{Z:V}(C:b4 bR Z a c (D.z aH))(F:b4 bR Z N aB (D.z aY))(e:l=(D.z aH).length)(f:n=(D.z aY).length):
  aG hA.id #[.slice a l c,.slice N n aB] Z fun v K=>a2 Z K∧fF Z K v (aH - aY):=by
 subst e;subst f
 have aI:=C.mS
 refine hA.ok ?_
 unfold hA.t hA.u.t
 refine bE (wX C F rfl rfl) fun v K ⟨g,h⟩=>?_
 subst g;subst h
 refine bJ rfl ?_
 refine b1 (fun b=>?_) fun b=>?_
 ·refine bE (mT (L:=0) rfl (by decide) K) fun v d ⟨i,s2⟩=>?_
  have j:aH - aY=0:=by unfold e4 at b;split at b <;> (try split at b) <;> omega
  rw [j]
  refine s2.elim fun m bA E=>⟨i,m,bA,rfl,E⟩
 ·have G:aY < aH:=by unfold e4 at b;split at b <;> (try split at b) <;> omega
  have H:(D.z aY).length≤(D.z aH).length:=D.lW (Nat.le_of_lt G)
  refine m9 bR 0 0 (D.z aH).length rfl k9 4 rfl (by decide) rfl rfl (by omega) (by omega) fun d s U=>?_
  unfold hA.a4.t
  refine⟨(D.z aH).length+1,?_⟩
  rw [Int.toNat_natCast]
  refine D8 C F (by rw [D.dZ,D.dZ];omega) H (fun v Iv P nA=>⟨P,by rw [D.dZ,D.dZ] at nA;exact nA⟩) _ 0 0 [] _ d (by omega) rfl (by omega) (by simp [D.val]) ?_ U
  ·exact c0.iO (S:=[]) (rest:=List.replicate (D.z aH).length 0) (by simpa using s) (Nat.le_refl _) (by simp) (by simp) (by simp)
theorem Ea{Y:J}{a:R}{c L cG m:Nat}{S:List Nat}{o:V}(C:b4 bR o a c S)(n:L < 4294967296)(H:m=S.length+1)(P:m≤70368744177656)(E:∀ v K,a2 o K→fF o K v cG→Y v K):
  ∀ (U T b:Nat) (aF:List Nat) (f:R) (Z:V),T+U=S.length→aF.length=T→b < 4294967296→D.val aF+(D.val (S.drop T)*L+b)*2 ^ (32*T)=cG→cH bR o Z f m aF→a2 o Z→
   kE.a8.t Y (U+1) a S.length c (L:Int) f T m (b:Int) (T:Int) Z:=by
 intro U
 induction U with
 | zero=>
  intro T b aF f Z aK d e O g h
  unfold kE.a8.t kE.bS.t
  refine b1 (fun i=>absurd i (by omega)) fun _=>?_
  unfold kE.aD.t
  refine iI b rfl e ?_
  refine qS g h d.symm rfl e (by omega) (by omega) fun l c1 K j cD e=>?_
  refine nZ j (by simp) ?_ cD E
  rw [List.drop_of_length_le (by omega)] at O
  rw [D.gO,d,← O]
  simp [D.val,Nat.mul_comm]
 | succ U bD=>
  intro T b aF f Z aK d e O g h
  have G:=C.kB T
  have Iv:=pB G n
  unfold kE.a8.t kE.bS.t
  refine b1 (fun _=>?_) fun i=>absurd (by omega) i
  refine hM (C.I h) (M:=T) rfl rfl (by omega) ?_
  refine cK (S.getD T 0) rfl (by omega) ?_
  refine cK L rfl (by omega) ?_
  have em:((S.getD T 0:Nat):Int)*(L:Int)=((S.getD T 0*L:Nat):Int):=(Int.natCast_mul _ _).symm
  rw [em]
  have cI:D.val (S.drop T)*L=S.getD T 0*L+4294967296*(D.val (S.drop (T+1))*L):=by
   rw [D.jI,Nat.add_mul,Nat.mul_assoc]
  rw [cI] at O
  generalize S.getD T 0*L=y at *
  refine cK y rfl (by omega) ?_
  refine cK (b+y) (by omega) (by omega) ?_
  refine kD rfl (by omega) ?_
  refine iI ((b+y) % 4294967296) rfl (by omega) ?_
  refine qS g h d.symm rfl (by omega) (by omega) (by omega) fun l c1 K j cD e=>?_
  obtain rfl:=e (by omega)
  refine nD rfl ?_
  refine b9 ((T+1:Nat):Int) (by omega) (by omega) (by omega) ?_
  rw [d]
  refine bD (T+1) _ _ l K (by omega) (by simp [d]) (by omega) ?_ j cD
  rw [← O]
  exact D.Ah (F:=y) (t:=(b+y) % 4294967296) (c1:=(b+y) / 4294967296) d rfl (by omega)
theorem Eb{a:R}{c l L a5:Nat}{S:List Nat}{Z:V}(C:b4 bR Z a c S)(b:l=S.length){Q k:Int}(d:Q=(L:Int))(e:k=(a5:Int))(f:L < 4294967296)(g:a5 < 4294967296)(i:S.length≤1099511627777):
  aG kE.id #[.slice a l c,.int .u32 Q,.int .u32 k] Z fun v K=>a2 Z K∧fF Z K v (D.val S*L+a5):=by
 subst b;subst d;subst e
 refine kE.ok ?_
 unfold kE.t kE.u.t
 refine b9 ((S.length+1:Nat):Int) (by omega) (by omega) (by omega) ?_
 refine m9 bR 0 0 (S.length+1) rfl k9 4 rfl (by decide) rfl rfl (by omega) (by omega) fun h s U=>?_
 refine cK a5 rfl (by omega) ?_
 unfold kE.a4.t
 refine⟨S.length+1,?_⟩
 rw [Int.toNat_natCast]
 refine Ea (cG:=D.val S*L+a5) C f rfl (by omega) (fun v K U F=>⟨U,F⟩) _ 0 a5 [] _ h (by omega) rfl g ?_ ?_ U
 ·simp [D.val]
 ·exact c0.iO (S:=[]) (rest:=List.replicate (S.length+1) 0) (by simpa using s) (Nat.le_refl _) (by simp) (by simp) (by simp)
theorem Ax{aH L U:Nat}(a:(D.z aH).length≤U)(b:L < 4294967296):(D.z (aH*L)).length≤U+1:=by
 rw [D.e2] at a ⊢
 rw [D.h3]
 rcases Nat.eq_zero_or_pos L with Z | Z
 ·subst Z;simp [Nat.pow_pos]
 ·calc aH*L < 2 ^ (32*U)*L:=Nat.mul_lt_mul_of_pos_right a Z
   _≤2 ^ (32*U)*4294967296:=Nat.mul_le_mul_left _ (Nat.le_of_lt b)
   _=4294967296*2 ^ (32*U):=Nat.mul_comm _ _
theorem w1{a:R}{c l aH:Nat}{Z:V}(C:b4 bR Z a c (D.z aH))(j:l=(D.z aH).length){Q:Int}{n:Nat}(m:Q=(n:Int))(Iy:n≤35184372088832)(Iz:(D.z aH).length≤1099511627776):
  aG jK.id #[.slice a l c,.int .i64 Q] Z fun v K=>a2 Z K∧fF Z K v (aH*2 ^ n):=by
 subst j;subst m
 have d:D.val (D.z aH)=aH:=D.dZ aH
 refine jK.ok ?_
 unfold jK.t jK.u.t
 have f:∀ aY,aH=aY→aG fV.id #[.slice a (D.z aH).length c] Z fun v K=>aE v fun a l c=>(fun v K=>a2 Z K∧fF Z K v aY) (.slice a l c) K:=by
  intro aY O
  refine bE (nE C rfl) fun v K ⟨E,F⟩=>?_
  rw [d,O] at F
  refine F.elim fun g bA e=>⟨E,g,bA,rfl,e⟩
 refine b1 (fun o=>?_) fun o=>?_
 ·have:n=0:=by omega
  subst this;exact f _ (by simp)
 ·refine fP (fun aI=>?_) fun aI=>?_
  ·refine f _ ?_
   have O:D.z aH=[]:=List.length_eq_zero_iff.mp (by omega)
   have:aH=0:=by rw [← d,O];rfl
   subst this;simp
  ·unfold jK.aD.t
   refine qT (by omega) rfl ?_
   refine qT (by omega) rfl ?_
   refine b9 ((n / 32+(D.z aH).length:Nat):Int) (by omega) (by omega) (by omega) ?_
   refine b9 ((n / 32+(D.z aH).length+1:Nat):Int) (by omega) (by omega) (by omega) ?_
   refine m9 bR 0 (n / 32) (n / 32+(D.z aH).length+1) rfl k9 4 rfl (by decide) rfl rfl (by omega) (by omega) fun G s U=>?_
   refine w0 rfl ?_
   refine At (U:=n % 32) (by omega) rfl ?_
   have h:2 ^ (n % 32) < 4294967296:=wZ (show n % 32 < 32 by omega)
   refine bE (Eb (a5:=0) (C.I U) rfl rfl rfl h (by decide) (by omega)) fun v IA ⟨b,F⟩=>?_
   rw [d,Nat.add_zero] at F
   refine F.elim fun g bA e=>?_
   have IB:=Ax (Nat.le_refl (D.z aH).length) h
   have i:cH bR Z G (some ⟨Z.size,0,none⟩) (n / 32+(D.z aH).length+1) (List.replicate (n / 32) 0):=by
    refine c0.iO (rest:=List.replicate ((D.z aH).length+1) 0) ?_ (Nat.le_refl _) ?_ (by simp;omega) (by simp;omega)
    ·rw [List.replicate_append_replicate,show n / 32+((D.z aH).length+1)=n / 32+(D.z aH).length+1 by omega];exact s
    ·simp;show n / 32≤70368744177656;omega
   rw [Int.toNat_natCast,Int.toNat_natCast]
   refine Ac (i.I b) (Nat.le_trans U.le b.le) e.rd (by simp) rfl rfl 0 rfl k9 4 rfl (by decide) ?_ ?_ fun IC ID H P Iv _=>?_
   ·simp only [List.length_replicate];show n / 32+_≤70368744177656;omega
   ·intro Iw;simp only [List.length_replicate] at Iw;omega
   ·have Ix:a2 Z H:=Iv.I (U.trans b) (i.I b).Ab
    refine nZ (Y:=fun v K=>a2 Z K∧fF Z K v (aH*2 ^ n)) P (by simp) ?_ Ix fun v K U F=>⟨U,F⟩
    rw [D.gO,D.o7,D.dZ,List.length_replicate,Au n,Nat.zero_add,Nat.mul_left_comm]
theorem Ec{aH U m:Nat}(a:U < 32):aH / 2 ^ (32*m+U) % 2=(aH / 2 ^ (32*m) % 4294967296) / 2 ^ U % 2:=by
 rw [Nat.pow_add,← Nat.div_div_eq_div_mul]
 generalize aH / 2 ^ (32*m)=aY
 have O:(4294967296:Nat)=2 ^ U*(2*2 ^ (31 - U)):=by
  rw [← Nat.pow_succ',← Nat.pow_add,show U+(31 - U+1)=32 by omega]
 rw [O,Nat.mod_mul,Nat.add_comm,Nat.mul_add_div (Nat.pow_pos (by decide)),Nat.div_eq_of_lt (Nat.mod_lt _ (Nat.pow_pos (by decide))),Nat.add_zero,Nat.mod_mul_right_mod]
theorem D.Ed{S:List Nat}(a:D.Words S)(m:Nat):S.getD m 0=D.val S / 2 ^ (32*m) % 4294967296:=by
 rw [← D.jA a,D.jI,Nat.add_mul_mod_self_left]
 exact(Nat.mod_eq_of_lt (kV (by decide) a m)).symm
theorem Ee{Q k:Int}{n U:Nat}(a:Q=(n:Int))(b:k=(U:Int))(d:U < 32){A:Int→Prop}(g:A ((n / 2 ^ U:Nat):Int)):0≤k∧aN (fC .u32 Q k) A:=by
 subst a;subst b
 refine⟨by omega,⟨?_⟩⟩
 show A (Int.fdiv (n:Int) (2 ^ (min (U:Int).toNat 32)))
 have O:min (U:Int).toNat 32=U:=by omega
 rw [O]
 have c:Int.fdiv (n:Int) (2 ^ U)=((n / 2 ^ U:Nat):Int):=by
  rw [Int.fdiv_eq_ediv_of_nonneg _ (Int.le_of_lt (Int.pow_pos (by decide)))]
  norm_cast
 rw [c];exact g
theorem Ef{Q:Int}{n:Nat}(a:Q=(n:Int))(d:n < 4294967296){A:Int→Prop}(g:A ((n % 2:Nat):Int)):aN (fK .u32 Q 1) A:=by
 subst a
 refine⟨?_⟩
 show A (IntKind.u32.wrap (BitVec.ofInt 32 (n:Int) &&& BitVec.ofInt 32 1).toNat)
 have O:(BitVec.ofInt 32 (n:Int) &&& BitVec.ofInt 32 1).toNat=n % 2:=by
  have b:BitVec.ofInt 32 (1:Int)=BitVec.ofNat 32 1:=rfl
  rw [BitVec.ofInt_natCast,b,BitVec.toNat_and,BitVec.toNat_ofNat,BitVec.toNat_ofNat,Nat.mod_eq_of_lt (by omega)]
  exact Nat.and_two_pow_sub_one_eq_mod n 1
 have e:n % 2 < 2:=Nat.mod_lt _ (by decide)
 have c:IntKind.u32.wrap ((n % 2:Nat):Int)=((n % 2:Nat):Int):=by
  simp only [IntKind.wrap,IntKind.bits,IntKind.signed,Bool.false_and,Bool.false_eq_true,if_false];omega
 rw [O,c];exact g
def pD(aH:Nat)(T:Int):Int:=if T < 0 then 0 else((aH / 2 ^ T.toNat % 2:Nat):Int)
theorem Eg{a:R}{c l aH:Nat}{Z:V}(C:b4 bR Z a c (D.z aH))(b:l=(D.z aH).length){Q:Int}(d:In .i64 Q):
  aG l1.id #[.slice a l c,.int .i64 Q] Z fun v K=>K=Z∧v=.int .i64 (pD aH Q):=by
 subst b
 rw [o9] at d
 refine l1.ok ?_
 unfold l1.t l1.u.t
 refine b1 (fun o=>⟨rfl,by unfold pD;rw [if_pos o]⟩) fun o=>?_
 obtain⟨n,rfl⟩:∃ n:Nat,Q=(n:Int):=⟨Q.toNat,by omega⟩
 unfold pD
 rw [if_neg o,Int.toNat_natCast]
 refine qT (by omega) rfl ?_
 have e:D.val (D.z aH)=aH:=D.dZ aH
 have a1:aH / 2 ^ n % 2=(D.z aH).getD (n / 32) 0 / 2 ^ (n % 32) % 2:=by
  have:=Ec (aH:=aH) (m:=n / 32) (U:=n % 32) (Nat.mod_lt _ (by decide))
  rw [Nat.div_add_mod] at this
  rw [this,D.Ed (D.nU aH),e]
 rw [a1]
 refine b1 (fun f=>⟨rfl,?_⟩) fun f=>?_
 ·have:(D.z aH).getD (n / 32) 0=0:=by simp [List.getD,show(D.z aH).length≤n / 32 by omega]
  rw [this];simp
 ·unfold l1.aD.t
  refine qT (by omega) rfl ?_
  refine hM C (M:=n / 32) rfl rfl (by omega) ?_
  have g:=C.kB (n / 32)
  refine w0 rfl ?_
  refine Ee rfl rfl (by omega) ?_
  have h:(D.z aH).getD (n / 32) 0 / 2 ^ (n % 32)≤(D.z aH).getD (n / 32) 0:=Nat.div_le_self _ _
  refine Ef rfl (by omega) ?_
  refine b9 (((D.z aH).getD (n / 32) 0 / 2 ^ (n % 32) % 2:Nat):Int) rfl (by omega) (by omega) ?_
  exact⟨rfl,rfl⟩
theorem uK{Z:V}{x off l:Nat}{a bB a7:List Nat}(s:c0 bR Z x (a ++ (bB ++ a7)))(b:a.length=off)(d:l=bB.length)(e:bB.length≤70368744177656){T:Int}{M:Nat}(aK:T=(M:Int))(f:M < bB.length){A:Int→Prop}
  (g:A (bB.getD M 0:Nat)):cC (some ⟨x,off,none⟩) l T 1 fun x=>gI Z x fun v=>aC .u32 v A:=by
 have C:=s.wN (off:=off) (n:=bB.length) (c:=bB.length) e (by simp;omega) (Nat.le_refl _)
 have O:((a ++ (bB ++ a7)).drop off).take bB.length=bB:=by rw [← b,List.drop_left,List.take_left]
 rw [O] at C
 exact hM C aK d f g
def l2(a1:V)(x:Nat)(aI Z:V):Prop:=a2 a1 Z∧aV x aI Z
theorem uL{Z a1 aI:V}{x off l:Nat}{a bB a7:List Nat}(s:c0 bR Z x (a ++ (bB ++ a7)))(e:a.length=off)(m:l=bB.length)(b:l2 a1 x aI Z)(f:a1.size≤x){T:Int}{M:Nat}(aK:T=(M:Int))(h:M < bB.length){Q:Int}{v:Nat}(i:Q=(v:Int))(j:v < 4294967296){A:V→Prop}
  (g:∀ K,c0 bR K x (a ++ (bB.set M v ++ a7))→l2 a1 x aI K→A K):cC (some ⟨x,off,none⟩) l T 1 fun x=>bI Z x (.int .u32 Q) A:=by
 refine wO s aK (by omega) (by simp;omega) (by rw [i];rfl) j fun c d=>?_
 refine g _ ?_ ⟨d.I b.1 f,b.2.trans d⟩
 have O:(a ++ (bB ++ a7)).set (off+M) v=a ++ (bB.set M v ++ a7):=by
  rw [← e,List.set_append_right _ _ (by omega),Nat.add_sub_cancel_left,List.set_append_left _ _ h]
 rw [O] at c;exact c
theorem Ay{bB w:List Nat}{M L dJ c s c1 eG t:Nat}(a:M < bB.length)(aI:c+L*w.getD M 0+s+t=bB.getD M 0+4294967296*(c1+eG))(O:D.val bB+L*D.val (w.take M)=dJ+(c+s)*2 ^ (32*M)):
  D.val (bB.set M t)+L*D.val (w.take (M+1))=dJ+(c1+eG)*2 ^ (32*(M+1)):=by
 have aZ:=D.jQ (aF:=bB) (M:=M) (v:=t) a
 rw [qU,D.h3]
 generalize 2 ^ (32*M)=P at *
 generalize bB.getD M 0=a5 at *
 have b:(c+L*w.getD M 0+s+t)*P=(a5+4294967296*(c1+eG))*P:=by rw [aI]
 have d:(c+L*w.getD M 0+s+t)*P=(c+s)*P+L*(P*w.getD M 0)+t*P:=by
  have:L*(P*w.getD M 0)=L*w.getD M 0*P:=by rw [Nat.mul_comm P,Nat.mul_assoc]
  rw [this,← Nat.add_mul,← Nat.add_mul];congr 1;omega
 have e:(a5+4294967296*(c1+eG))*P=a5*P+(c1+eG)*(4294967296*P):=by
  rw [Nat.add_mul,Nat.mul_comm 4294967296,Nat.mul_assoc]
 rw [Nat.mul_add]
 omega
theorem Eh{Y:J}{N:R}{c aB n x off L dJ:Nat}{w j a7:List Nat}{a1 aI:V}(F:b4 bR a1 N aB w)(IB:w.length=n)(l:j.length=off)(Iv:a1.size≤x)(IC:L < 4294967296)(I0:n < 1099511627776)
  (g:∀ Z s bB,s≤1→bB.length=n+1→c0 bR Z x (j ++ (bB ++ a7))→l2 a1 x aI Z→D.val bB+L*D.val w=dJ+s*2 ^ (32*(n+1))→(∃ m,fW.bZ.t Y m (some ⟨x,off,none⟩) (n+1) c N n aB (n:Int) (L:Int) (s:Int) Z)) :
  ∀ (U M a s:Nat) (bB:List Nat) (Z:V),M+U=n+1→bB.length=n+1→a < 4294967296→s≤1→(M=n+1→a=0)→c0 bR Z x (j ++ (bB ++ a7))→l2 a1 x aI Z→D.val bB+L*D.val (w.take M)=dJ+(a+s)*2 ^ (32*M)→
   fW.iP.t Y (U+1) (some ⟨x,off,none⟩) (n+1) c N n aB (n:Int) (L:Int) (a:Int) (s:Int) (M:Int) Z:=by
 intro U
 induction U with
 | zero=>
  intro M a s bB Z ID e IE Iw Ix f h O
  unfold fW.iP.t fW.n1.t
  refine b1 (fun b=>absurd b (by omega)) fun _=>?_
  have IF:=Ix (by omega)
  subst IF
  rw [List.take_of_length_le (by omega),Nat.zero_add,show M=n+1 by omega] at O
  exact g Z s bB Iw e f h O
 | succ U bD=>
  intro M a s bB Z ID e IE Iw Ix f h O
  have I1:bB.getD M 0 < 4294967296:=by
   refine kV (by decide) (fun Q IG=>f.ok Q ?_) M
   exact List.mem_append_right _ (List.mem_append_left _ IG)
  have IH:bB.length≤70368744177656:=by omega
  have step:∀ (y take d:Nat),y=L*w.getD M 0→take < 4294967296→a+y=take+4294967296*d→d < 4294967296→(M=n→d=0)→
    cC (some ⟨x,off,none⟩) (n+1) (M:Int) 1 fun II=>gI Z II fun IJ=>aC .u32 IJ fun IK=>aN (IntKind.u64.wrap IK) fun v=>
     cond (decide (v < ((take+s:Nat):Int))) (aN (IntKind.u64.wrap (v+4294967296)) fun IL=>aN (IntKind.u64.wrap (IL - ((take+s:Nat):Int))) fun IM=>aN (IntKind.u32.wrap IM) fun IN=>cC (some ⟨x,off,none⟩) (n+1) (M:Int) 1 fun IP=>bI Z IP (.int .u32 IN) fun IQ=>aN (IntKind.i64.wrap ((M:Int)+1)) fun IS=>fW.iP.t Y (U+1) (some ⟨x,off,none⟩) (n+1) c N n aB (n:Int) (L:Int) (d:Int) 1 IS IQ)
      (aN (IntKind.u64.wrap (v - ((take+s:Nat):Int))) fun IT=>aN (IntKind.u32.wrap IT) fun IU=>cC (some ⟨x,off,none⟩) (n+1) (M:Int) 1 fun IV=>bI Z IV (.int .u32 IU) fun IW=>aN (IntKind.i64.wrap ((M:Int)+1)) fun IX=>fW.iP.t Y (U+1) (some ⟨x,off,none⟩) (n+1) c N n aB (n:Int) (L:Int) (d:Int) 0 IX IW):=by
   intro y take d i I2 I3 Iy Iz
   refine uK f l e.symm IH rfl (by omega) ?_
   refine cK (bB.getD M 0) rfl (by omega) ?_
   refine b1 (fun b=>?_) fun b=>?_
   ·refine cK (bB.getD M 0+4294967296) (by omega) (by omega) ?_
    refine cK (bB.getD M 0+4294967296 - (take+s)) (by omega) (by omega) ?_
    refine iI (bB.getD M 0+4294967296 - (take+s)) rfl (by omega) ?_
    refine uL f l e.symm h Iv rfl (by omega) rfl (by omega) fun E G H=>?_
    refine b9 ((M+1:Nat):Int) (by omega) (by omega) (by omega) ?_
    exact bD (M+1) d 1 _ E (by omega) (by simp [e]) Iy (by omega) (fun P=>Iz (by omega)) G H (Ay (by omega) (by rw [← i];omega) O)
   ·refine cK (bB.getD M 0 - (take+s)) (by omega) (by omega) ?_
    refine iI (bB.getD M 0 - (take+s)) rfl (by omega) ?_
    refine uL f l e.symm h Iv rfl (by omega) rfl (by omega) fun E G H=>?_
    refine b9 ((M+1:Nat):Int) (by omega) (by omega) (by omega) ?_
    exact bD (M+1) d 0 _ E (by omega) (by simp [e]) Iy (by omega) (fun P=>Iz (by omega)) G H (Ay (by omega) (by rw [← i];omega) O)
  unfold fW.iP.t fW.n1.t
  refine b1 (fun _=>?_) fun b=>absurd (by omega) b
  refine b1 (fun b=>?_) fun b=>?_
  ·have IY:=F.kB M
   have i:=pB IC IY
   refine hM (F.I h.1) (M:=M) rfl IB.symm (by omega) ?_
   refine cK (w.getD M 0) rfl (by omega) ?_
   have em:(L:Int)*((w.getD M 0:Nat):Int)=((L*w.getD M 0:Nat):Int):=(Int.natCast_mul _ _).symm
   rw [em]
   obtain⟨y,IA⟩:∃ y,y=L*w.getD M 0:=⟨_,rfl⟩
   rw [← IA] at i ⊢
   refine cK y rfl (by omega) ?_
   refine cK (a+y) (by omega) (by omega) ?_
   refine kD rfl (by omega) ?_
   refine cK ((a+y) % 4294967296+s) (by omega) (by omega) ?_
   refine nD rfl ?_
   exact step y _ _ IA (by omega) (by omega) (by omega) (fun P=>absurd b (by omega))
  ·have IZ:w.getD M 0=0:=by simp [List.getD,show w.length≤M by omega]
   refine kD rfl (by omega) ?_
   refine cK (a % 4294967296+s) (by omega) (by omega) ?_
   refine nD rfl ?_
   exact step 0 _ _ (by rw [IZ];rfl) (by omega) (by omega) (by omega) (fun P=>by omega)
theorem Az{bB w:List Nat}{M cG c c1 t:Nat}(a:M < bB.length)(aI:c+bB.getD M 0+w.getD M 0=t+4294967296*c1)(O:D.val bB+c*2 ^ (32*M)=cG+D.val (w.take M)):
  D.val (bB.set M t)+c1*2 ^ (32*(M+1))=cG+D.val (w.take (M+1)):=by
 have aZ:=D.jQ (aF:=bB) (M:=M) (v:=t) a
 rw [qU,D.h3]
 generalize 2 ^ (32*M)=P at *
 generalize bB.getD M 0=a5 at *
 have b:(c+a5+w.getD M 0)*P=(t+4294967296*c1)*P:=by rw [aI]
 have d:(c+a5+w.getD M 0)*P=c*P+a5*P+P*w.getD M 0:=by rw [Nat.add_mul,Nat.add_mul,Nat.mul_comm P]
 have e:(t+4294967296*c1)*P=t*P+c1*(4294967296*P):=by rw [Nat.add_mul,Nat.mul_comm 4294967296,Nat.mul_assoc]
 omega
theorem Ei{Y:J}{v:R→Nat→Nat→R→Nat→Nat→Int→Int→Int→V→Prop}{N:R}{c aB n x off cG:Nat}{L:Int}{w h a7:List Nat}{a1 aI:V}(F:b4 bR a1 N aB w)(H:w.length=n)(i:h.length=off)(E:a1.size≤x)(Iy:n < 1099511627776)
  (g:∀ Z a bB,a≤1→bB.length=n+1→c0 bR Z x (h ++ (bB ++ a7))→l2 a1 x aI Z→D.val bB+a*2 ^ (32*(n+1))=cG+D.val w→v (some ⟨x,off,none⟩) (n+1) c N n aB (n:Int) L ((1 - a:Nat):Int) Z) :
  ∀ (U M a:Nat) (bB:List Nat) (Z:V),M+U=n+1→bB.length=n+1→a≤1→c0 bR Z x (h ++ (bB ++ a7))→l2 a1 x aI Z→D.val bB+a*2 ^ (32*M)=cG+D.val (w.take M)→
   fW.fS.t Y v (U+1) (some ⟨x,off,none⟩) (n+1) c N n aB (n:Int) L (a:Int) 1 (M:Int) Z:=by
 intro U
 induction U with
 | zero=>
  intro M a bB Z P b G d e O
  unfold fW.fS.t fW.fJ.t
  refine b1 (fun f=>absurd f (by omega)) fun _=>?_
  unfold fW.cW.t
  refine cK (1 - a) (by split <;> omega) (by omega) ?_
  rw [List.take_of_length_le (by omega),show M=n+1 by omega] at O
  exact g Z a bB G b d e O
 | succ U bD=>
  intro M a bB Z P b G d e O
  have Iz:bB.getD M 0 < 4294967296:=by
   refine kV (by decide) (fun Q Iv=>d.ok Q ?_) M
   exact List.mem_append_right _ (List.mem_append_left _ Iv)
  have Iw:bB.length≤70368744177656:=by omega
  unfold fW.fS.t fW.fJ.t
  refine b1 (fun _=>?_) fun f=>absurd (by omega) f
  refine uK d i b.symm Iw rfl (by omega) ?_
  refine cK (bB.getD M 0) rfl (by omega) ?_
  refine cK (a+bB.getD M 0) (by omega) (by omega) ?_
  refine b1 (fun f=>?_) fun f=>?_
  ·have IA:=F.kB M
   refine hM (F.I e.1) (M:=M) rfl H.symm (by omega) ?_
   refine cK (w.getD M 0) rfl (by omega) ?_
   refine cK (a+bB.getD M 0+w.getD M 0) (by omega) (by omega) ?_
   refine kD rfl (by omega) ?_
   refine iI ((a+bB.getD M 0+w.getD M 0) % 4294967296) rfl (by omega) ?_
   refine uL d i b.symm e E rfl (by omega) rfl (by omega) fun j l m=>?_
   refine nD rfl ?_
   refine b9 ((M+1:Nat):Int) (by omega) (by omega) (by omega) ?_
   exact bD (M+1) _ _ j (by omega) (by simp [b]) (by omega) l m (Az (by omega) (by omega) O)
  ·have Ix:w.getD M 0=0:=by simp [List.getD,show w.length≤M by omega]
   refine kD rfl (by omega) ?_
   refine iI ((a+bB.getD M 0) % 4294967296) rfl (by omega) ?_
   refine uL d i b.symm e E rfl (by omega) rfl (by omega) fun j l m=>?_
   refine nD rfl ?_
   refine b9 ((M+1:Nat):Int) (by omega) (by omega) (by omega) ?_
   exact bD (M+1) _ _ j (by omega) (by simp [b]) (by omega) l m (Az (by omega) (by rw [Ix];omega) O)
theorem Ej{Y:J}{N:R}{c aB n x off dJ:Nat}{w g a7:List Nat}{a1 aI:V}(F:b4 bR a1 N aB w)(G:w.length=n)(H:g.length=off)(P:a1.size≤x)(Iv:n < 1099511627776)(i:0 < D.val w)
  (Iw:∀ Z bB,bB.length=n+1→c0 bR Z x (g ++ (bB ++ a7))→l2 a1 x aI Z→D.val bB=dJ % D.val w→Y (.int .u32 ((dJ / D.val w:Nat):Int)) Z) :
  ∀ (U L s:Nat) (bB:List Nat) (Z:V),L≤dJ / D.val w+U→dJ / D.val w≤L→L < 4294967296→s≤1→bB.length=n+1→c0 bR Z x (g ++ (bB ++ a7))→l2 a1 x aI Z→D.val bB+L*D.val w=dJ+s*2 ^ (32*(n+1))→
   fW.bZ.t Y (U+1) (some ⟨x,off,none⟩) (n+1) c N n aB (n:Int) (L:Int) (s:Int) Z:=by
 have Ix:=Nat.div_add_mod dJ (D.val w)
 have Iy:=Nat.mod_lt dJ i
 have fin:∀ (L:Nat) (bB:List Nat) (Z:V),dJ / D.val w≤L→L < 4294967296→bB.length=n+1→c0 bR Z x (g ++ (bB ++ a7))→l2 a1 x aI Z→D.val bB+L*D.val w=dJ→fW.aD.t Y (L:Int) Z:=by
  intro L bB Z e f a b d O
  have Iz:L≤dJ / D.val w:=by rw [Nat.le_div_iff_mul_le i];omega
  have v:L=dJ / D.val w:=Nat.le_antisymm Iz e
  unfold fW.aD.t
  refine iI L rfl f ?_
  rw [v]
  refine Iw Z bB a b d ?_
  rw [v,Nat.mul_comm] at O;omega
 have E:∀ (L:Nat) (bB:List Nat),bB.length=n+1→(∀ Q ∈ bB,Q < 4294967296)→D.val bB+L*D.val w=dJ+1*2 ^ (32*(n+1))→dJ / D.val w < L:=by
  intro L bB a IA O
  have IB:=D.gE (S:=bB) IA
  rw [a] at IB
  rw [Nat.div_lt_iff_lt_mul i];omega
 clear Ix Iy
 generalize dJ / D.val w=b6 at *
 intro U
 induction U with
 | zero=>
  intro L s bB Z IC e f ID a b d O
  unfold fW.bZ.t fW.bP.t
  have IE:s=0:=by
   rcases Nat.lt_or_ge s 1 with j | j
   ·omega
   ·have:s=1:=by omega
    subst this
    have:=E L bB a (fun Q l=>b.ok Q (List.mem_append_right _ (List.mem_append_left _ l))) O
    omega
  subst IE
  refine b1 (fun m=>absurd m (by omega)) fun _=>?_
  exact fin L bB Z e f a b d (by omega)
 | succ U bD=>
  intro L s bB Z IC e f ID a b d O
  unfold fW.bZ.t fW.bP.t
  refine b1 (fun m=>?_) fun m=>?_
  ·have IF:s=1:=by omega
   subst IF
   have IL:=E L bB a (fun Q l=>b.ok Q (List.mem_append_right _ (List.mem_append_left _ l))) O
   unfold fW.bS.t
   refine cK (L - 1) (by omega) (by omega) ?_
   unfold fW.dP.t
   refine⟨n+2,?_⟩
   refine Ei (cG:=D.val bB) F G H P Iv (fun IG h IH IM II IJ IK IN=>?_) (n+1) 0 0 bB Z (by omega) a (by omega) b d (by simp [D.val])
   refine bD (L - 1) (1 - h) IH IG (by omega) (by omega) (by omega) (by omega) II IJ IK ?_
   have IP:(L - 1)*D.val w+D.val w=L*D.val w:=by
    rw [← Nat.succ_mul,Nat.succ_eq_add_one,Nat.sub_add_cancel (by omega)]
   generalize 2 ^ (32*(n+1))=bW at *
   rcases Nat.lt_or_ge h 1 with j | j
   ·have:h=0:=by omega
    subst this;omega
   ·have:h=1:=by omega
    subst this;omega
  ·have:s=0:=by omega
   subst this
   exact fin L bB Z e f a b d (by omega)
theorem AA{S:List Nat}(a:D.Words S){m:Nat}(b:S.length=m+1):D.val S / 2 ^ (32*m)=S.getD m 0:=by
 rw [← D.jA a,gU (by omega),List.drop_of_length_le (by omega)];simp [D.val]
theorem Ek{S:List Nat}(a:D.Words S){m:Nat}(b:S.length=m+2):D.val S / 2 ^ (32*m)=S.getD m 0+4294967296*S.getD (m+1) 0:=by
 rw [← D.jA a,gU (by omega),gU (by omega),List.drop_of_length_le (by omega)];simp [D.val]
theorem El{N:R}{c aB l n x off m dJ:Nat}{w e bB a7:List Nat}{a1 Z:V}(F:b4 bR a1 N aB w)(f:w.length=n)(Iz:n=l)(a:e.length=off)(E:a1.size≤x)(G:n < 1099511627776)(IS:0 < n)(IT:w.getD (n - 1) 0 ≠ 0)(H:D.val bB=dJ)(P:dJ < 4294967296*D.val w)
  (g:bB.length=n+1) (IA:m=n+1) (b:c0 bR Z x (e ++ (bB ++ a7))) (IB:a2 a1 Z) :
  aG fW.id #[.slice (some ⟨x,off,none⟩) m c,.slice N l aB] Z fun v K=>v=.int .u32 ((dJ / D.val w:Nat):Int)∧l2 a1 x Z K∧∃ h,h.length=n+1∧c0 bR K x (e ++ (h ++ a7))∧D.val h=dJ % D.val w:=by
 subst IA;subst Iz
 have Iv:l2 a1 x Z Z:=⟨IB,aV.refl _ _⟩
 refine fW.ok ?_
 unfold fW.t fW.u.t
 have Iw:bB.length≤70368744177656:=by omega
 have i:D.Words bB:=fun Q IC=>b.ok Q (List.mem_append_right _ (List.mem_append_left _ IC))
 have ID:=kV (S:=bB) (a7:=4294967296) (by decide) i n
 have IU:=kV (S:=bB) (a7:=4294967296) (by decide) i (n - 1)
 have IV:=F.kB (n - 1)
 refine uK b a g.symm Iw (M:=n) rfl (by omega) ?_
 refine cK (bB.getD n 0) rfl (by omega) ?_
 refine Ao rfl ID ?_
 refine b9 ((n - 1:Nat):Int) (by omega) (by omega) (by omega) ?_
 refine uK b a g.symm Iw (M:=n - 1) rfl (by omega) ?_
 refine cK (bB.getD (n - 1) 0) rfl (by omega) ?_
 refine cK (bB.getD (n - 1) 0+4294967296*bB.getD n 0) (by omega) (by omega) ?_
 refine b9 ((n - 1:Nat):Int) (by omega) (by omega) (by omega) ?_
 refine hM (F.I Iv.1) (M:=n - 1) rfl f.symm (by omega) ?_
 refine cK (w.getD (n - 1) 0) rfl (by omega) ?_
 refine⟨by omega,?_⟩
 rw [l0]
 have IW:=Nat.div_le_self (bB.getD (n - 1) 0+4294967296*bB.getD n 0) (w.getD (n - 1) 0)
 refine cK ((bB.getD (n - 1) 0+4294967296*bB.getD n 0) / w.getD (n - 1) 0) rfl (by omega) ?_
 have Ix:0 < D.val w:=by
  rcases Nat.eq_zero_or_pos (D.val w) with O | O
  ·rw [O] at P;omega
  ·exact O
 have Iy:=AA F.ok (m:=n - 1) (by omega)
 have d:=Ek i (m:=n - 1) (by omega)
 rw [show n - 1+1=n by omega,H] at d
 have IX:dJ / D.val w≤(bB.getD (n - 1) 0+4294967296*bB.getD n 0) / w.getD (n - 1) 0:=by
  rw [← d,← Iy,Nat.div_div_eq_div_mul]
  refine Nat.div_le_div_left (Nat.mul_div_le _ _) ?_
  rw [Iy];exact Nat.mul_pos (Nat.pow_pos (by decide)) (by omega)
 have IY:dJ / D.val w < 4294967296:=by rw [Nat.div_lt_iff_lt_mul Ix];exact P
 generalize (bB.getD (n - 1) 0+4294967296*bB.getD n 0) / w.getD (n - 1) 0=j at *
 obtain⟨L,IZ⟩:∃ L:Nat,L=min j 4294967295:=⟨_,rfl⟩
 have IE:(if (4294967295:Int) < (j:Int) then(4294967295:Int) else(j:Int))=(L:Int):=by split <;> omega
 rw [IE]
 unfold fW.n2.t
 refine⟨n+2,?_⟩
 refine Eh (dJ:=dJ) F f a E (by omega) G (fun IF s IG IH II IJ IK d=>?_) (n+1) 0 0 0 bB Z (by omega) g (by decide) (by omega) (by omega) b Iv (by simp [D.val,H])
 refine⟨L - dJ / D.val w+1,?_⟩
 exact Ej F f a E G Ix (fun I0 IL IM IN IP IQ=>⟨rfl,IP,IL,IM,IN,IQ⟩) _ L s IG IF (by omega) (by omega) (by omega) IH II IJ IK d
def lC(aH aY:Nat):Nat × Nat:=if aY=0 then(0,0) else(aH / aY,aH % aY)
theorem AB{a:List Nat}{U b:Nat}(e:b≤2 ^ (32*U))(Z:D.val a < b)(c:D.Words a):D.val (a.drop U)=0∧D.val (a.take U)=D.val a:=by
 have O:D.val a=D.val (a.take U)+2 ^ (32*U)*D.val (a.drop U):=by
  by_cases d:U≤a.length
  ·conv=>lhs;rw [← List.take_append_drop U a]
   rw [D.gO,List.length_take,Nat.min_eq_left d]
  ·rw [List.take_of_length_le (by omega),List.drop_of_length_le (by omega)];simp [D.val]
 have o:D.val (a.drop U)=0:=by
  rw [D.jA c];exact Nat.div_eq_of_lt (by omega)
 rw [o] at O
 exact⟨o,by omega⟩
theorem Em{Y:J}{N:R}{aB n d f b fX gF:Nat}{e9:Int}{w fL rest:List Nat}{a1:V}(F:b4 bR a1 N aB w)(IE:w.length=n)(IU:a1.size≤d)(IV:a1.size≤f)(IF:d ≠ f)(IW:n < 1099511627776)(IX:0 < n)(IG:w.getD (n - 1) 0 ≠ 0)(Jo:b < 1099511627776)(Jp:b≤fX)(Jq:n < b)
  (IY:D.val fL=gF) (Jr:fL.length=b) (IH:D.Words fL)
  (IZ:∀ Z a c,a.length=b→c.length=b - n→c0 bR Z d (a ++ rest)→c0 bR Z f c→a2 a1 Z→D.val a=gF % D.val w→D.val c=gF / D.val w→hB.a4.t Y e9 (some ⟨d,0,none⟩) b fX (n:Int) (some ⟨f,0,none⟩) (b - n) (b - n) Z) :
  ∀ (M:Nat) (a c:List Nat) (Z:V),M≤b - n→a.length=b→c.length=b - n→c0 bR Z d (a ++ rest)→c0 bR Z f c→a2 a1 Z→a.take M=fL.take M→D.val (a.drop M) < D.val w→D.val (c.drop M)*D.val w+D.val (a.drop M)=gF / 2 ^ (32*M)→
   hB.eC.t Y (M+1) e9 N n aB (some ⟨d,0,none⟩) b fX (n:Int) (some ⟨f,0,none⟩) (b - n) (b - n) ((M:Int) - 1) Z:=by
 have II:=D.gE F.ok
 rw [IE] at II
 have G:0 < D.val w:=by
  rcases Nat.eq_zero_or_pos (D.val w) with O | O
  ·exfalso
   have:=AA F.ok (m:=n - 1) (by omega)
   rw [O,Nat.zero_div] at this;exact IG this.symm
  ·exact O
 intro M
 induction M with
 | zero=>
  intro a c Z I0 IJ H h l Iv _ E O
  unfold hB.eC.t hB.cW.t
  refine b1 (fun Iw=>absurd Iw (by omega)) fun _=>?_
  rw [List.drop_zero] at E O
  rw [List.drop_zero,Nat.mul_zero,Nat.pow_zero,Nat.div_one] at O
  refine IZ Z a c IJ H h l Iv ?_ ?_
  ·rw [← O,Nat.mul_comm,Nat.mul_add_mod,Nat.mod_eq_of_lt E]
  ·rw [← O,Nat.mul_comm,Nat.mul_add_div G,Nat.div_eq_of_lt E,Nat.add_zero]
 | succ M bD=>
  intro a c Z I0 IJ H h l Iv IK E O
  have IL:D.Words a:=fun Q Ix=>h.ok Q (List.mem_append_left _ Ix)
  have Js:D.Words c:=l.ok
  unfold hB.eC.t hB.cW.t
  refine b1 (fun _=>?_) fun Iw=>absurd (by omega) Iw
  refine b9 ((M+n:Nat):Int) (by omega) (by omega) (by omega) ?_
  refine b9 ((M+n+1:Nat):Int) (by omega) (by omega) (by omega) ?_
  have I1:(((M+1:Nat):Int) - 1)=(M:Int):=by omega
  rw [I1]
  have I2:∀ {A:R→Nat→Nat→Prop},A (some ⟨d,M,none⟩) (n+1) (fX - M)→gT 1 (some ⟨d,0,none⟩) b fX (some (.int .i64 (M:Int))) (some (.int .i64 ((M+n+1:Nat):Int))) none A:=by
   intro A g
   refine⟨⟨by omega,by omega⟩,⟨by omega,by omega⟩,?_⟩
   show A (g7 (some ⟨d,0,none⟩) fX ((M:Int)).toNat 1) ((((M+n+1:Nat):Int)).toNat - ((M:Int)).toNat) (fX - ((M:Int)).toNat)
   have Iy:(((M+n+1:Nat):Int)).toNat - ((M:Int)).toNat=n+1:=by omega
   have i:fX - ((M:Int)).toNat=fX - M:=by omega
   have I3:g7 (some ⟨d,0,none⟩) fX ((M:Int)).toNat 1=some ⟨d,M,none⟩:=by
    unfold g7
    rw [if_neg (by omega),Int.toNat_natCast,Nat.mul_one]
    show some ((⟨d,0,none⟩:Addr).add M)=_
    rw [aT]
   rw [Iy,i,I3];exact g
  refine I2 ?_
  obtain⟨e,Iz⟩:∃ e,e=a.take M:=⟨_,rfl⟩
  obtain⟨bB,IA⟩:∃ bB,bB=(a.drop M).take (n+1):=⟨_,rfl⟩
  obtain⟨a7,IB⟩:∃ a7,a7=a.drop (M+(n+1)):=⟨_,rfl⟩
  have I4:a=e ++ (bB ++ a7):=by
   rw [Iz,IA,IB,← List.drop_drop,List.take_append_drop,List.take_append_drop]
  have IC:e.length=M:=by rw [Iz,List.length_take];omega
  have I5:bB.length=n+1:=by rw [IA,List.length_take,List.length_drop];omega
  have Jt:a7.length=b - (M+(n+1)):=by rw [IB,List.length_drop];omega
  have Ju:D.val (a.drop M)=a.getD M 0+4294967296*D.val (a.drop (M+1)):=D.jI a M
  have Jv:a.getD M 0 < 4294967296:=kV (by decide) IL M
  have ID:D.val (a.drop M) < 4294967296*D.val w:=by omega
  have I6:D.val (a.drop M) < 2 ^ (32*(n+1)):=by
   rw [D.h3]
   calc D.val (a.drop M) < 4294967296*D.val w:=ID
    _≤4294967296*2 ^ (32*n):=Nat.mul_le_mul_left _ (Nat.le_of_lt II)
  have I7:D.Words (a.drop M):=fun Q Ix=>IL Q (List.mem_of_mem_drop Ix)
  have IM:=AB (Nat.le_refl _) I6 I7
  have I8:D.val bB=D.val (a.drop M):=by rw [IA];exact IM.2
  have I9:D.val a7=0:=by
   have:=IM.1
   rw [List.drop_drop] at this
   rw [IB];exact this
  have Ja:c0 bR Z d (e ++ (bB ++ (a7 ++ rest))):=by
   rw [I4] at h;simpa [List.append_assoc] using h
  refine bE (El (dJ:=D.val (a.drop M)) F IE rfl IC IU IW IX IG I8 ID I5 rfl Ja Iv) fun v Jb ⟨i,IN,j,Jw,Jc,Jd⟩=>?_
  subst i
  refine bJ rfl ?_
  have Je:D.val (a.drop M) / D.val w < 4294967296:=by rw [Nat.div_lt_iff_lt_mul G];exact ID
  have Jf:c0 bR Jb f c:=l.aJ (fun O=>IF O.symm) IN.2
  refine uB Jf (M:=M) rfl (by omega) (by omega) rfl Je fun Jg IP=>?_
  have Jh:=IP.I IN.1 IV
  have Ji:=Jc.aJ IF IP
  refine b9 ((M:Int) - 1) (by omega) (by omega) (by omega) ?_
  have Jj:=Nat.mod_lt (D.val (a.drop M)) G
  have Jx:=Nat.div_add_mod (D.val (a.drop M)) (D.val w)
  have IQ:(e ++ (j ++ a7)).drop M=j ++ a7:=by rw [← IC,List.drop_left]
  have IS:D.val (j ++ a7)=D.val (a.drop M) % D.val w:=by
   rw [D.gO,I9,Jd];simp
  have Jk:a.take M=fL.take M:=by
   have:=congrArg (List.take M) IK
   rwa [List.take_take,List.take_take,Nat.min_eq_left (by omega)] at this
  have Jl:a.getD M 0=fL.getD M 0:=by
   have Iy:(a.take (M+1)).getD M 0=a.getD M 0:=by simp [List.getD]
   have i:(fL.take (M+1)).getD M 0=fL.getD M 0:=by simp [List.getD]
   rw [← Iy,← i,IK]
  refine bD (e ++ (j ++ a7)) (c.set M (D.val (a.drop M) / D.val w)) _ (by omega) (by simp;omega) (by simp [H]) (by simpa [List.append_assoc] using Ji) Jg Jh ?_ ?_ ?_
  ·have IT:(e ++ (j ++ a7)).take e.length=e:=List.take_left
   rw [IC] at IT;rw [IT,Iz];exact Jk
  ·rw [IQ,IS];exact Jj
  ·rw [IQ,IS]
   have Jm:(c.set M (D.val (a.drop M) / D.val w)).drop M=D.val (a.drop M) / D.val w :: c.drop (M+1):=by
    rw [gU (by simp;omega),List.drop_set_of_lt (by omega)]
    simp [List.getD,show M < c.length by omega]
   have Jn:gF / 2 ^ (32*M)=fL.getD M 0+4294967296*(gF / 2 ^ (32*(M+1))):=by
    rw [← IY,← D.jA IH,← D.jA IH,D.jI]
   rw [Jm,Jn,← O,← Jl]
   simp only [D.val]
   rw [Nat.add_mul,Nat.mul_comm (D.val (a.drop M) / D.val w),Nat.mul_assoc]
   generalize D.val (c.drop (M+1))*D.val w=P at *
   omega
theorem En{aH n:Nat}(Z:dK aH=32*n)(b:0 < n):(D.z aH).length=n:=by
 refine Nat.le_antisymm ((D.tY n).mp (by omega)) ?_
 rcases Nat.lt_or_ge (D.z aH).length n with a | a
 ·have:=(D.tY (v:=aH) (n - 1)).mpr (by omega)
  omega
 ·exact a
theorem Eo{a N:R}{c aB l m aH aY:Nat}{Z:V}(C:b4 bR Z a c (D.z aH))(F:b4 bR Z N aB (D.z aY))(Jn:l=(D.z aH).length)(Jo:m=(D.z aY).length)(J9:(D.z aH).length≤1099511627770):
  aG hB.id #[.slice a l c,.slice N m aB] Z fun v K=>a2 Z K∧s2 fF fF Z K v (lC aH aY):=by
 subst Jn;subst Jo
 have IW:D.val (D.z aH)=aH:=D.dZ aH
 have IK:D.val (D.z aY)=aY:=D.dZ aY
 refine hB.ok ?_
 unfold hB.t hB.u.t
 refine fP (fun o=>?_) fun o=>?_
 ·have O:D.z aY=[]:=List.length_eq_zero_iff.mp (by omega)
  have IE:aY=0:=by rw [← IK,O];rfl
  refine bE (mT (L:=0) rfl (by decide) Z) fun v aI ⟨cQ,IL⟩=>?_
  refine IL.elim fun IX IY H=>?_
  refine bE (mT (L:=0) rfl (by decide) aI) fun v IZ ⟨i,P⟩=>?_
  refine P.elim fun I0 bA IA=>?_
  unfold lC;rw [if_pos IE]
  exact⟨cQ.trans i,_,_,rfl,⟨_,_,rfl,H.I i⟩,⟨_,_,rfl,IA.from cQ.le⟩⟩
 have IE:aY ≠ 0:=by
  intro O;subst O;rw [D.cP] at o;exact o rfl
 unfold lC;rw [if_neg IE]
 refine bE (wX C F rfl rfl) fun v K ⟨j,IM⟩=>?_
 subst j;subst IM
 refine bJ rfl ?_
 refine b1 (fun f=>?_) fun f=>?_
 ·have I1:aH < aY:=by unfold e4 at f;split at f <;> (try split at f) <;> omega
  refine bE (mT (L:=0) rfl (by decide) K) fun v aI ⟨cQ,IL⟩=>?_
  refine IL.elim fun IX IY H=>?_
  refine bE (nE (C.I cQ) rfl) fun v IZ ⟨i,P⟩=>?_
  rw [IW] at P
  refine P.elim fun I0 bA IA=>?_
  rw [Nat.div_eq_of_lt I1,Nat.mod_eq_of_lt I1]
  exact⟨cQ.trans i,_,_,rfl,⟨_,_,rfl,H.I i⟩,⟨_,_,rfl,IA.from cQ.le⟩⟩
 have Jp:aY≤aH:=by unfold e4 at f;split at f <;> (try split at f) <;> omega
 have Iv:(D.z aY).getD ((D.z aY).length - 1) 0 ≠ 0:=by
  rcases qL.mp (D.o3 aY) with O | O
  ·rw [O] at o;exact absurd rfl o
  ·exact O
 have IF:=F.kB ((D.z aY).length - 1)
 have Ka:(D.z aY).length≤(D.z aH).length:=D.lW Jp
 refine fP (fun aI=>?_) fun aI=>?_
 ·have Jq:(D.z aY).length=1:=by omega
  rw [Jq] at Iv IF
  have Jr:(D.z aY).getD 0 0=aY:=by
   have O:=D.jI (D.z aY) 0
   rw [List.drop_zero,IK,List.drop_of_length_le (by omega)] at O
   simpa [D.val] using O.symm
  have Js:(D.z aY).getD 0 0 ≠ 0:=Iv
  have I2:(D.z aY).getD 0 0 < 4294967296:=IF
  refine hM F (M:=0) rfl rfl (by omega) ?_
  rw [Jr] at Js I2 ⊢
  refine bE (As C rfl rfl I2 (by omega)) fun v aI ⟨cQ,IX,IY,O,H⟩=>?_
  subst O
  rw [IW] at H ⊢
  have Kb:=Nat.mod_lt aH (show 0 < aY by omega)
  refine fR rfl (a9 (aQ rfl (a9 (bJ rfl (b3 ?_)))))
  refine cK (aH % aY) rfl (by omega) ?_
  refine bE (mT (L:=aH % aY) rfl (by omega) aI) fun v IZ ⟨i,P⟩=>?_
  refine P.elim fun I0 bA IA=>?_
  exact⟨cQ.trans i,_,_,rfl,⟨_,_,rfl,H.I i⟩,⟨_,_,rfl,IA.from cQ.le⟩⟩
 refine b9 (((D.z aY).length - 1:Nat):Int) (by omega) (by omega) (by omega) ?_
 refine zY rfl (by omega) ?_
 obtain⟨h,IG⟩:∃ h,h=(D.z aY).getD ((D.z aY).length - 1) 0:=⟨_,rfl⟩
 have Jt:(D.z aY).drop ((D.z aY).length - 1)=[h]:=by
  rw [gU (by omega),List.drop_of_length_le (by omega),IG]
 have I3:=F.drop (m:=aB) ((D.z aY).length - 1) (by omega) F.cap
 rw [Jt] at I3
 rw [← IG] at Iv IF
 have Ju:cV [h]=[h]:=by simp [cV,Iv]
 refine bE (D1 I3 (by simp;omega) Ju) fun v IB ⟨j,IM⟩=>?_
 subst j;subst IM
 refine bJ rfl ?_
 have Jv:D.val [h]=h:=by simp [D.val]
 rw [Jv]
 have Kc:dK h≤32:=hH.mpr IF
 have Kd:=lY Iv
 obtain⟨e,Ke⟩:∃ e,e=32 - dK h:=⟨_,rfl⟩
 refine b9 ((e:Nat):Int) (by omega) (by omega) (by omega) ?_
 have Jw:=D.r0 (D.nU aY) (n:=(D.z aY).length - 1) (by omega) (by rw [← IG];exact Iv)
 rw [IK,← IG] at Jw
 obtain⟨n,Kf⟩:∃ n,n=(D.z aY).length:=⟨_,rfl⟩
 obtain⟨d,Iw⟩:∃ d,d=aY*2 ^ e:=⟨_,rfl⟩
 have Jx:dK d=32*n:=by rw [Iw,tX e IE];omega
 have Ix:(D.z d).length=n:=En Jx (by omega)
 refine bE (w1 F rfl rfl (by omega) (by omega)) fun v I4 ⟨I5,I6⟩=>?_
 rw [← Iw] at I6
 refine I6.elim fun Jy Jz JA=>?_
 refine bE (w1 (C.I I5) rfl rfl (by omega) (by omega)) fun v JB ⟨JC,JD⟩=>?_
 refine JD.elim fun JE fX I7=>?_
 obtain⟨gF,IC⟩:∃ gF,gF=aH*2 ^ e:=⟨_,rfl⟩
 rw [← IC] at I7 ⊢
 obtain⟨g,I8⟩:∃ g,g=(D.z aH).length:=⟨_,rfl⟩
 have JF:aH < 2 ^ (32*g):=D.e2.mp (Nat.le_of_eq I8.symm)
 have JG:e < 32:=by omega
 have JH:2 ^ e < 4294967296:=wZ JG
 have Kg:(D.z gF).length≤g+1:=by rw [IC];exact Ax (Nat.le_of_eq I8.symm) JH
 have JI:=JA.rd
 have JJ:∀ (U:Nat) (b:List Nat) (IH:R) (Iy:Nat) (Iz:V),b.length+U=g+1→D.val b=gF→cH bR I4 Iz IH Iy b→a2 I4 Iz→
   hB.fM.t (fun v E=>a2 IB E∧s2 fF fF IB E v (aH / aY,aH % aY)) (U+1) a (D.z aH).length c ((e:Nat):Int) Jy (D.z d).length Jz IH b.length Iy Iz:=by
  intro U
  induction U with
  | zero=>
   intro b IH Iy Iz JK II G IJ
   unfold hB.fM.t hB.gY.t
   refine b1 (fun f=>absurd f (by omega)) fun _=>?_
   unfold hB.aD.t
   have I9:b.length=g+1:=by omega
   refine b9 ((b.length - n:Nat):Int) (by omega) (by omega) (by omega) ?_
   refine m9 bR 0 (b.length - n) (b.length - n) rfl k9 4 rfl (by decide) rfl rfl (Nat.le_refl _) (by omega) fun IN JL ID=>?_
   unfold hB.bP.t
   refine b9 ((b.length - n:Nat):Int) (by omega) (by omega) (by omega) ?_
   refine b9 (((b.length - n:Nat):Int) - 1) (by omega) (by omega) (by omega) ?_
   refine⟨b.length - n+1,?_⟩
   rw [Int.toNat_natCast]
   have Ja:=G.I ID
   rcases G.here with ⟨j,_,_⟩ | ⟨JM,rest,j,JN,Jb,Kh⟩
   ·rw [j] at I9;simp at I9
   subst j
   have JO:JM ≠ Iz.size:=Nat.ne_of_lt Jb.lt
   have Jc:(D.z d).getD ((D.z d).length - 1) 0 ≠ 0:=by
    rcases qL.mp (D.o3 d) with O | O
    ·rw [O] at Ix;simp at Ix;omega
    ·exact O
   have JP:2 ^ (32*(n - 1))*2 ^ e≤d:=by
    rw [Iw]
    refine Nat.mul_le_mul_right _ ?_
    rcases Nat.lt_or_ge aY (2 ^ (32*(n - 1))) with IP | IP
    ·have:=(D.e2 (n:=aY) (U:=n - 1)).mpr IP
     omega
    ·exact IP
   have JQ:gF < d*2 ^ (32*(b.length - n)):=by
    have JR:2 ^ (32*g)*2 ^ e=2 ^ (32*(n - 1))*2 ^ e*2 ^ (32*(b.length - n)):=by
     rw [Nat.mul_assoc,Nat.mul_comm (2 ^ e),← Nat.mul_assoc]
     congr 1
     rw [← Nat.pow_add,show 32*(n - 1)+32*(b.length - n)=32*g by omega]
    calc gF < 2 ^ (32*g)*2 ^ e:=by rw [IC];exact Nat.mul_lt_mul_of_pos_right JF (Nat.pow_pos (by decide))
     _=2 ^ (32*(n - 1))*2 ^ e*2 ^ (32*(b.length - n)):=JR
     _≤d*2 ^ (32*(b.length - n)):=Nat.mul_le_mul_right _ JP
   have Jd:D.Words b:=G.rd.ok
   have Je:D.val (b.drop (b.length - n))=gF / 2 ^ (32*(b.length - n)):=by rw [D.jA Jd,II]
   have IQ:D.val (D.z d)=d:=D.dZ d
   have JS:=Em (Y:=fun v E=>a2 IB E∧s2 fF fF IB E v (aH / aY,aH % aY)) (gF:=gF) (fL:=b) (e9:=((e:Nat):Int)) (fX:=Iy) (rest:=rest) JI Ix JN (Nat.le_trans IJ.le (Nat.le_refl _)) JO (by omega) (by omega) (by rw [Ix] at Jc;exact Jc) (by omega) G.cap (by omega) II rfl Jd (fun E Jf Ki Kj JT Jg JU JV IS JW=>?_) (b.length - n) b (List.replicate (b.length - n) 0) IN (Nat.le_refl _) rfl (by simp) (Jb.I ID) JL (IJ.trans ID) rfl ?_ ?_
   ·rw [Ix];exact JS
   ·unfold hB.a4.t
    have Kk:=G.cap
    refine bE (nE (JU.o8 (c:=b.length - n) (by show _≤70368744177656;omega) (by omega)) JT.symm) fun v Kl ⟨IT,Jh⟩=>?_
    rw [JW,IQ] at Jh
    refine Jh.elim fun Km Kn Ji=>?_
    refine rX rfl (by omega) ?_
    rw [IQ] at IS
    have JX:0 < d:=by rw [Iw];exact Nat.mul_pos (by omega) (Nat.pow_pos (by decide))
    have JY:D.val Jf < d:=by rw [IS];exact Nat.mod_lt _ JX
    have JZ:d≤2 ^ (32*n):=Nat.le_of_lt (D.e2.mp (Nat.le_of_eq Ix))
    have J0:D.Words Jf:=fun Q J1=>Jg.ok Q (List.mem_append_left _ J1)
    have J2:=AB JZ JY J0
    have J3:=((Jg.rd (c:=Iy) (by show _≤70368744177656;omega) (by omega)).I IT).take n
    refine bE (nE J3 (by rw [List.length_take];omega)) fun v Ko ⟨IU,Jj⟩=>?_
    rw [J2.2,IS] at Jj
    refine Jj.elim fun Kp Kq J4=>?_
    refine bE (D7 J4.rd rfl rfl (by omega)) fun v Kr ⟨Jk,J5⟩=>?_
    refine J5.elim fun Ks Kt Jl=>?_
    have Jm:0 < 2 ^ e:=Nat.pow_pos (by decide)
    have J6:gF / d=aH / aY:=by rw [IC,Iw,Nat.mul_div_mul_right _ _ Jm]
    have J7:gF % d / 2 ^ e=aH % aY:=by rw [IC,Iw,Nat.mul_mod_mul_right,Nat.mul_div_cancel _ Jm]
    rw [J6] at Ji ⊢
    rw [J7] at Jl ⊢
    have IV:a2 IB E:=I5.trans JV
    exact⟨IV.trans (IT.trans (IU.trans Jk)),_,_,rfl,⟨_,_,rfl,(Ji.I (IU.trans Jk)).from IV.le⟩,⟨_,_,rfl,Jl.from ((IV.trans IT).trans IU).le⟩⟩
   ·rw [IQ,Je]
    rw [Nat.div_lt_iff_lt_mul (Nat.pow_pos (by decide))];exact JQ
   ·rw [List.drop_of_length_le (by simp),Je];simp [D.val]
  | succ U bD=>
   intro b IH Iy Iz JK II G IJ
   unfold hB.fM.t hB.gY.t
   refine b1 (fun _=>?_) fun f=>absurd (by omega) f
   refine qS (n:=0) G IJ rfl rfl (by decide) (by omega) (by omega) fun J8 c1 IN Ja ID _=>?_
   have:=bD (b ++ [0]) J8 c1 IN (by simp;omega) (by rw [D.gO,II];simp [D.val]) Ja ID
   simpa using this
 refine⟨g+1 - (D.z gF).length+1,?_⟩
 exact JJ _ (D.z gF) JE fX JB (by omega) (D.dZ gF) (I7.from (Nat.le_refl _)) JC
theorem Ep{Y:J}{a N:R}{c aB l m:Nat}{S w:List Nat}{Z:V}(C:bU Z a c S)(F:bU Z N aB w)(h:l=S.length)(i:m=w.length)(f:S.length=w.length)(g:Y (.int .i64 (e4 (val S) (val w))) Z):
  ∀ n:Nat,n≤S.length→S.drop n=w.drop n→hC.a8.t Y (n+1) a l c N m aB ((n:Int) - 1) Z:=by
 subst h;subst i
 have aI:=C.len
 intro n
 induction n with
 | zero=>
  intro j b
  unfold hC.a8.t hC.bS.t
  refine b1 (fun e=>absurd e (by omega)) fun _=>?_
  have O:S=w:=by simpa using b
  unfold hC.aD.t
  rw [O] at g
  have d:e4 (val w) (val w)=0:=by simp [e4]
  rw [d] at g;exact g
 | succ n bD=>
  intro j b
  unfold hC.a8.t hC.bS.t
  refine b1 (fun e=>?_) fun e=>absurd (by omega) e
  refine eW C (M:=n) (by omega) rfl (by omega) ?_
  refine eW F (M:=n) (by omega) rfl (by omega) ?_
  refine r1 (fun D=>?_) fun E=>?_
  ·refine eW C (M:=n) (by omega) rfl (by omega) ?_
   refine eW F (M:=n) (by omega) rfl (by omega) ?_
   refine b1 (fun v=>?_) fun v=>?_
   ·have:=o4 C.words F.words f (by omega) b (by omega)
    have d:e4 (val S) (val w)=-1:=by simp [e4,this]
    rw [d] at g;exact g
   ·have:=o4 F.words C.words f.symm (by omega) b.symm (M:=n) (by omega)
    have d:e4 (val S) (val w)=1:=by unfold e4;rw [if_neg (by omega),if_neg (by omega)]
    rw [d] at g;exact g
  ·refine b9 ((n:Int) - 1) (by omega) (by omega) (by omega) ?_
   refine bD (by omega) ?_
   rw [gU (by omega),gU (S:=w) (by omega),b,show S.getD n 0=w.getD n 0 by omega]
theorem w2{a N:R}{c aB l m:Nat}{S w:List Nat}{Z:V}(C:bU Z a c S)(F:bU Z N aB w)(g:l=S.length)(h:m=w.length):
  aG hC.id #[.slice a l c,.slice N m aB] Z fun v K=>K=Z∧v=.int .i64 (e4 (val S) (val w)):=by
 refine hC.ok ?_
 unfold hC.t hC.u.t
 refine bE (r7 C g) fun v K ⟨b,d,e⟩=>?_
 subst b;subst d
 refine aQ rfl ?_
 refine bE (r7 F h) fun v K ⟨b,d,f⟩=>?_
 subst b;subst d
 refine aQ rfl ?_
 rw [← nV S,← nV w]
 have j:=e.len
 refine r1 (fun n=>?_) fun D=>?_
 ·refine b1 (fun i=>⟨rfl,?_⟩) fun i=>⟨rfl,?_⟩
  ·have:=nW e.words (wG w) (by omega)
   simp [e4,this]
  ·have:=nW f.words (wG S) (by omega)
   unfold e4;rw [if_neg (by omega),if_neg (by omega)]
 ·unfold hC.a4.t
  refine b9 (((cV S).length:Int) - 1) (by omega) (by omega) (by omega) ?_
  refine⟨(cV S).length+1,?_⟩
  refine Ep e f rfl rfl (by omega) ⟨rfl,rfl⟩ _ (Nat.le_refl _) ?_
  rw [List.drop_length,show(cV S).length=(cV w).length by omega,List.drop_length]
theorem mU{Q k a5:Int}{a N c:Nat}(b:Q=(a:Int))(d:k=(N:Int))(e:a5=(c:Int))(f:c≤1){A:Int→Int→Prop}
  (g:A ((a+N+c) % 18446744073709551616:Nat) ((a+N+c) / 18446744073709551616:Nat)):k6 Q k a5 A:=by
 subst b;subst d;subst e
 exact⟨⟨by omega,by omega,by omega,by omega⟩,by simpa using g⟩
theorem qV{Q k a5:Int}{a N c:Nat}(d:Q=(a:Int))(e:k=(N:Int))(f:a5=(c:Int))(j:c≤1)(l:N < 18446744073709551616){A:Int→Int→Prop}
  (g:A ((a+18446744073709551616 - N - c) % 18446744073709551616:Nat) ((if a < N+c then 1 else 0:Nat):Int)):nQ Q k a5 A:=by
 subst d;subst e;subst f
 refine⟨⟨by omega,by omega,by omega,by omega,by omega⟩,?_⟩
 have h:((a:Int) - (N:Int) - (c:Int)) % 18446744073709551616=(((a+18446744073709551616 - N - c) % 18446744073709551616:Nat):Int):=by omega
 have i:(if (a:Int) < (N:Int)+(c:Int) then(1:Int) else 0)=((if a < N+c then 1 else 0:Nat):Int):=by
  by_cases b:a < N+c
  ·rw [if_pos b,if_pos (by omega)];rfl
  ·rw [if_neg b,if_neg (by omega)];rfl
 rw [h,i];exact g
def qW(S w:List Nat):List Nat × Int:=if g5 S∧g5 w then eF (val S+val w) else([],2)
theorem Er{Y:J}{a:R}{c l a5 L:Nat}{aF:List Nat}{n:Nat}{Z:V}{o:V}{x:Nat}{b:Nat}(e:l=n)(f:eX Z x aF)(h:a5=aF.length)(i:L=aF.length)(G:aF.length=n+1)(j:b < 18446744073709551616)(H:n≤8192)(d:o.size≤x)(U:a2 o Z)
  (g:∀ v K,a2 o K→dS o K v (eF (val (aF.take n ++ [b])))→Y v K):hN.bP.t Y a l c (some ⟨x,0,none⟩) a5 L (b:Int) Z:=by
 subst e;subst h;subst i
 unfold hN.bP.t
 refine j7 f (M:=l) rfl rfl (by omega) rfl j fun s=>?_
 have O:aF.set l b=aF.take l ++ [b]:=by
  have:=mQ (F:=aF) (M:=l) (t:=b) (by omega)
  rw [← this,List.take_of_length_le (by rw [List.length_set];omega)]
 rw [O] at s
 have m:a2 o (e5 Z ⟨x,l,none⟩ (gD b)):=U.set d
 have P:(aF.take l ++ [b]).length=l+1:=by simp;omega
 refine bE (pA (s.j9 (c:=aF.length) d (by omega)) (by omega)) fun v K ⟨D,E⟩=>?_
 subst D
 refine E.g9 fun a c C T=>?_
 exact g _ _ m (dS.back C T)
theorem Es{Y:J}{a N:R}{c aB l m a5 L:Nat}{S w:List Nat}{o:V}{x:Nat}(C:bU o a c S)(F:bU o N aB w)(D:l=S.length)(E:m=w.length)(h:o.size≤x)(G:S.length≤8192)(Iw:a5=S.length+1)(Ix:L=S.length+1)
  (dV:List Nat) (g:∀ v K,a2 o K→dS o K v (eF (val dV))→Y v K) :
  ∀ (U n b:Nat) (aF:List Nat) (Z:V),n+U=S.length→b≤1→aF.length=S.length+1→eX Z x aF→a2 o Z→aF.take n ++ m8 (S.drop n) (w.drop n) b=dV→
   hN.fA.t Y (U+1) a l c N m aB (some ⟨x,0,none⟩) a5 L (b:Int) (l:Int) (n:Int) Z:=by
 subst D;subst E
 intro U
 induction U with
 | zero=>
  intro n b aF Z H i j f d O
  unfold hN.fA.t hN.dP.t
  refine b1 (fun e=>absurd e (by omega)) fun _=>?_
  have P:n=S.length:=by omega
  subst P
  rw [List.drop_length] at O
  refine Er (n:=S.length) rfl f (by omega) (by omega) j (by omega) G h d ?_
  rw [show aF.take S.length ++ [b]=dV from O];exact g
 | succ U bD=>
  intro n b aF Z H i j f d O
  have Iy:S.getD n 0 < 18446744073709551616:=C.word n
  have Iz:w.getD n 0 < 18446744073709551616:=F.word n
  have step:aF.take n ++ m8 (S.drop n) (w.drop n) b=(aF.set n ((S.getD n 0+w.getD n 0+b) % 18446744073709551616)).take (n+1) ++ m8 (S.drop (n+1)) (w.drop (n+1)) ((S.getD n 0+w.getD n 0+b) / 18446744073709551616):=by
   rw [gU (S:=S) (M:=n) (by omega),mQ (by omega)]
   simp only [m8,tV,List.tail_drop,List.append_assoc,List.cons_append,List.nil_append]
  rw [step] at O
  unfold hN.fA.t hN.dP.t
  refine b1 (fun e=>?_) fun e=>absurd (by omega) e
  refine b1 (fun e=>?_) fun e=>?_
  ·refine eW (F.I d) (M:=n) rfl rfl (by omega) ?_
   refine eW (C.I d) (M:=n) rfl rfl (by omega) ?_
   refine mU rfl rfl rfl i ?_
   refine j7 f (M:=n) rfl (by omega) (by omega) rfl (by omega) fun s=>?_
   refine b9 ((n+1:Nat):Int) (by omega) (by omega) (by omega) ?_
   exact bD (n+1) _ _ _ (by omega) (by omega) (by rw [List.length_set];omega) s (d.set h) O
  ·refine eW (C.I d) (M:=n) rfl rfl (by omega) ?_
   have Iv:w.getD n 0=0:=by simp [List.getD,show w.length≤n by omega]
   rw [Iv] at O
   refine mU (N:=0) rfl rfl rfl i ?_
   refine j7 f (M:=n) rfl (by omega) (by omega) rfl (by omega) fun s=>?_
   refine b9 ((n+1:Nat):Int) (by omega) (by omega) (by omega) ?_
   exact bD (n+1) _ _ _ (by omega) (by omega) (by rw [List.length_set];omega) s (d.set h) O
theorem AD{Y:J}{a N:R}{c aB l m:Nat}{S w:List Nat}{Z:V}(C:bU Z a c S)(F:bU Z N aB w)(b:l=S.length)(d:m=w.length)(e:S.length≤8192)(f:w.length≤S.length)
  (g:∀ v K,a2 Z K→dS Z K v (eF (val S+val w))→Y v K):hN.a4.t Y a l c N m aB Z:=by
 subst b;subst d
 unfold hN.a4.t
 refine b9 ((S.length+1:Nat):Int) (by omega) (by omega) (by omega) ?_
 refine k8 (S.length+1) rfl rfl rfl rfl (by omega) fun aI s U=>?_
 refine⟨S.length+1,?_⟩
 refine Es C F rfl rfl (Nat.le_refl _) e rfl rfl (m8 S w 0) ?_ S.length 0 0 _ aI (by omega) (by omega) (by simp) s U (by simp)
 rw [zZ S w 0 f];exact g
theorem Et{a N:R}{c aB l m:Nat}{S w:List Nat}{Z:V}(C:bU Z a c S)(F:bU Z N aB w)(b:l=S.length)(d:m=w.length):
  aG hN.id #[.slice a l c,.slice N m aB] Z fun v K=>a2 Z K∧dS Z K v (qW S w):=by
 refine hN.ok ?_
 unfold hN.t hN.u.t
 refine bE (kY C b) fun v K ⟨e,f⟩=>?_
 subst e;subst f
 refine bK rfl ?_
 refine kU (fun g=>⟨a2.refl _,?_⟩) fun g=>?_
 ·unfold qW;rw [if_neg (fun h=>of_decide_eq_false g h.1)];exact dS.none
 refine bE (kY F d) fun v K ⟨e,f⟩=>?_
 subst e;subst f
 refine bK rfl ?_
 refine kU (fun i=>⟨a2.refl _,?_⟩) fun i=>?_
 ·unfold qW;rw [if_neg (fun h=>of_decide_eq_false i h.2)];exact dS.none
 have n:=of_decide_eq_true g
 have D:=of_decide_eq_true i
 unfold qW;rw [if_pos ⟨n,D⟩]
 unfold hN.aD.t
 refine b1 (fun E=>?_) fun E=>?_
 ·refine AD F C d b D.1 (by omega) fun v K U j=>⟨U,?_⟩
  rw [Nat.add_comm];exact j
 ·exact AD C F b d n.1 (by omega) fun v K U j=>⟨U,j⟩
def qX(S w:List Nat):List Nat × Int:=if g5 S∧g5 w then(if val S < val w then([],3) else eF (val S - val w)) else([],2)
theorem Eu{Y:J}{a N:R}{c aB l m a5 L:Nat}{S w:List Nat}{o:V}{x:Nat}(C:bU o a c S)(F:bU o N aB w)(E:l=S.length)(G:m=w.length)(h:o.size≤x)(IA:S.length≤8192)(IB:a5=S.length)(IC:L=S.length)
  (dV:List Nat) (g:∀ v K,a2 o K→dS o K v (eF (val dV))→Y v K) :
  ∀ (U n b:Nat) (aF:List Nat) (Z:V),n+U=S.length→b≤1→aF.length=S.length→eX Z x aF→a2 o Z→aF.take n ++ lX (S.drop n) (w.drop n) b=dV→
   hU.eC.t Y (U+1) a l c N m aB (some ⟨x,0,none⟩) a5 L (b:Int) (l:Int) (n:Int) Z:=by
 subst E;subst G
 intro U
 induction U with
 | zero=>
  intro n b aF Z H i D f d O
  unfold hU.eC.t hU.cW.t
  refine b1 (fun e=>absurd e (by omega)) fun _=>?_
  have P:n=S.length:=by omega
  subst P
  rw [List.drop_length] at O
  have Iv:aF=dV:=by rw [← O,← D,List.take_length];simp [lX]
  subst Iv
  unfold hU.a4.t
  refine bE (pA (f.j9 (c:=L) h (by omega)) (by omega)) fun v K ⟨Iw,Ix⟩=>?_
  subst Iw
  refine Ix.g9 fun a c C T=>?_
  exact g _ _ d (dS.back C T)
 | succ U bD=>
  intro n b aF Z H i D f d O
  have ID:S.getD n 0 < 18446744073709551616:=C.word n
  have Iy:w.getD n 0 < 18446744073709551616:=F.word n
  have step:aF.take n ++ lX (S.drop n) (w.drop n) b=(aF.set n ((S.getD n 0+18446744073709551616 - w.getD n 0 - b) % 18446744073709551616)).take (n+1) ++ lX (S.drop (n+1)) (w.drop (n+1)) (if S.getD n 0 < w.getD n 0+b then 1 else 0):=by
   rw [gU (S:=S) (M:=n) (by omega),mQ (by omega)]
   simp only [lX,tV,List.tail_drop,List.append_assoc,List.cons_append,List.nil_append]
  rw [step] at O
  have j:(if S.getD n 0 < w.getD n 0+b then 1 else 0)≤1:=by split <;> omega
  unfold hU.eC.t hU.cW.t
  refine b1 (fun e=>?_) fun e=>absurd (by omega) e
  refine b1 (fun e=>?_) fun e=>?_
  ·refine eW (F.I d) (M:=n) rfl rfl (by omega) ?_
   refine eW (C.I d) (M:=n) rfl rfl (by omega) ?_
   refine qV rfl rfl rfl i Iy ?_
   refine j7 f (M:=n) rfl (by omega) (by omega) rfl (by omega) fun s=>?_
   refine b9 ((n+1:Nat):Int) (by omega) (by omega) (by omega) ?_
   exact bD (n+1) _ _ _ (by omega) j (by rw [List.length_set];omega) s (d.set h) O
  ·refine eW (C.I d) (M:=n) rfl rfl (by omega) ?_
   have Iz:w.getD n 0=0:=by simp [List.getD,show w.length≤n by omega]
   rw [Iz] at O j
   refine qV (N:=0) rfl rfl rfl i (by omega) ?_
   refine j7 f (M:=n) rfl (by omega) (by omega) rfl (by omega) fun s=>?_
   refine b9 ((n+1:Nat):Int) (by omega) (by omega) (by omega) ?_
   exact bD (n+1) _ _ _ (by omega) j (by rw [List.length_set];omega) s (d.set h) O
theorem Ev{a N:R}{c aB l m:Nat}{S w:List Nat}{Z:V}(C:bU Z a c S)(F:bU Z N aB w)(g:l=S.length)(h:m=w.length):
  aG hU.id #[.slice a l c,.slice N m aB] Z fun v K=>a2 Z K∧dS Z K v (qX S w):=by
 refine hU.ok ?_
 unfold hU.t hU.u.t
 refine bE (kY C g) fun v K ⟨e,f⟩=>?_
 subst e;subst f
 refine bK rfl ?_
 refine kU (fun i=>⟨a2.refl _,?_⟩) fun i=>?_
 ·unfold qX;rw [if_neg (fun b=>of_decide_eq_false i b.1)];exact dS.none
 refine bE (kY F h) fun v K ⟨e,f⟩=>?_
 subst e;subst f
 refine bK rfl ?_
 refine kU (fun j=>⟨a2.refl _,?_⟩) fun j=>?_
 ·unfold qX;rw [if_neg (fun b=>of_decide_eq_false j b.2)];exact dS.none
 have n:=of_decide_eq_true i
 have D:=of_decide_eq_true j
 unfold qX;rw [if_pos ⟨n,D⟩]
 unfold hU.aD.t
 refine bE (w2 C F g h) fun v K ⟨e,f⟩=>?_
 subst e;subst f
 refine bJ rfl ?_
 refine b1 (fun d=>⟨a2.refl _,?_⟩) fun d=>?_
 ·have:val S < val w:=by
   unfold e4 at d;split at d
   ·assumption
   ·split at d <;> omega
  rw [if_pos this];exact dS.none
 ·have E:¬ val S < val w:=fun b=>by unfold e4 at d;rw [if_pos b] at d;omega
  rw [if_neg E]
  subst g;subst h
  have G:=n.1
  have H:w.length≤S.length:=Nat.le_of_not_lt fun b=>by
   have:=nW C.words D.2 b;omega
  refine k8 S.length rfl rfl rfl rfl (by omega) fun aI s U=>?_
  unfold hU.bP.t
  refine⟨S.length+1,?_⟩
  refine Eu C F rfl rfl (Nat.le_refl _) G rfl rfl (lX S w 0) ?_ S.length 0 0 _ aI (by omega) (by omega) (by simp) s U (by simp)
  have:=wH S w 0 C.words F.words H (by omega) (by omega)
  rw [show val (lX S w 0)=val S - val w by omega]
  exact fun v K U P=>⟨U,P⟩
def n3(y:Nat):List Nat→Nat→List Nat
 | [],c=>[c]
 | Q :: S,c=>(Q*y % 18446744073709551616+c) :: n3 y S (Q*y / 18446744073709551616)
theorem AE(y:Nat):∀ (S:List Nat) (c:Nat),val (n3 y S c)=val S*y+c
 | [],c=>by simp [n3,val]
 | Q :: S,c=>by
  simp only [n3,val,AE y S,Nat.add_mul,Nat.mul_assoc]
  generalize Q*y=k;generalize val S*y=a5;omega
theorem Ew{U Q:Nat}(a:U < 64):Q / 2 / 2 ^ (63 - U)=Q*2 ^ U / 18446744073709551616:=by
 have Z:Q / 2 / 2 ^ (63 - U)=Q / 2 ^ (64 - U):=by
  rw [Nat.div_div_eq_div_mul,← Nat.pow_succ',show(63 - U).succ=64 - U by omega]
 rw [Z,← j8 a,Nat.mul_comm Q,Nat.mul_div_mul_left _ _ (Nat.pow_pos (by decide))]
theorem AF{U Q c:Nat}(a:U < 64)(b:c < 2 ^ U):c ||| (Q*2 ^ U % 18446744073709551616)=Q*2 ^ U % 18446744073709551616+c:=by
 have O:Q*2 ^ U % 18446744073709551616=2 ^ U*(Q % 2 ^ (64 - U)):=by
  rw [← j8 a,Nat.mul_comm Q,Nat.mul_mod_mul_left]
 rw [O];exact An b
theorem AG{U Q:Nat}(a:Q < 18446744073709551616):Q*2 ^ U / 18446744073709551616 < 2 ^ U:=by
 rw [Nat.div_lt_iff_lt_mul (by decide),Nat.mul_comm]
 exact Nat.mul_lt_mul_of_pos_left a (Nat.pow_pos (by decide))
theorem AH{U Q c:Nat}(a:U < 64)(d:c < 2 ^ U):Q*2 ^ U % 18446744073709551616+c < 18446744073709551616:=by
 have O:Q*2 ^ U % 18446744073709551616=2 ^ U*(Q % 2 ^ (64 - U)):=by
  rw [← j8 a,Nat.mul_comm Q,Nat.mul_mod_mul_left]
 have aI:Q % 2 ^ (64 - U)+1≤2 ^ (64 - U):=Nat.mod_lt _ (Nat.pow_pos (by decide))
 have b:=Nat.mul_le_mul_left (2 ^ U) aI
 rw [j8 a,Nat.mul_add,Nat.mul_one] at b
 omega
theorem Ex{Y:J}{a:R}{c l m U a5 L:Nat}{S:List Nat}{o:V}{x:Nat}(C:bU o a c S)(E:l=S.length)(h:o.size≤x)(ID:S.length≤8192)(IE:m≤8192)(b:U < 64)(IF:a5=m+S.length+1)(IG:L=m+S.length+1)
  (dV:List Nat) (g:∀ v K,a2 o K→dS o K v (eF (val dV))→Y v K) :
  ∀ (M n:Nat) (aF:List Nat) (Z:V),n+M=S.length→aF.length=m+S.length+1→aF.getD (m+n) 0 < 2 ^ U→eX Z x aF→a2 o Z→aF.take (m+n) ++ n3 (2 ^ U) (S.drop n) (aF.getD (m+n) 0)=dV→
   iQ.a8.t Y (M+1) a l c (m:Int) (U:Int) (some ⟨x,0,none⟩) a5 L (l:Int) (n:Int) Z:=by
 subst E
 intro M
 induction M with
 | zero=>
  intro n aF Z G H i d e O
  unfold iQ.a8.t iQ.bS.t
  refine b1 (fun f=>absurd f (by omega)) fun _=>?_
  have P:n=S.length:=by omega
  subst P
  rw [List.drop_length] at O
  have Iv:aF=dV:=by
   rw [← O];show aF=_ ++ [_]
   rw [← lV (by omega),List.take_of_length_le (by omega)]
  subst Iv
  unfold iQ.aD.t
  refine bE (pA (d.j9 (c:=L) h (by omega)) (by omega)) fun v K ⟨Iw,Ix⟩=>?_
  subst Iw
  refine Ix.g9 fun a c C T=>?_
  exact g _ _ e (dS.back C T)
 | succ M bD=>
  intro n aF Z G H i d e O
  have Iy:S.getD n 0 < 18446744073709551616:=C.word n
  have Iz:=AH (Q:=S.getD n 0) b i
  have IA:=AG (U:=U) Iy
  have IH:2 ^ U < 18446744073709551616:=wJ b
  have IB:=Ew (Q:=S.getD n 0) b
  rw [gU (S:=S) (M:=n) (by omega)] at O
  simp only [n3] at O
  unfold iQ.a8.t iQ.bS.t
  refine b1 (fun f=>?_) fun f=>absurd (by omega) f
  refine b9 ((m+n:Nat):Int) (by omega) (by omega) (by omega) ?_
  refine eW (d.rd (c:=L) (by omega)) (M:=m+n) rfl (by omega) (by omega) ?_
  refine eW (C.I e) (M:=n) rfl rfl (by omega) ?_
  refine nC rfl U _ (by omega) rfl rfl ?_
  refine uI rfl rfl (by omega) (Nat.mod_lt _ (by decide)) ?_
  rw [AF b i]
  refine j7 d (M:=m+n) rfl (by omega) (by omega) rfl Iz fun s=>?_
  have j:=e.set (v:=gD (S.getD n 0*2 ^ U % 18446744073709551616+aF.getD (m+n) 0)) (T:=m+n) h
  refine b9 ((m+n:Nat):Int) (by omega) (by omega) (by omega) ?_
  refine b9 ((m+n+1:Nat):Int) (by omega) (by omega) (by omega) ?_
  refine eW (C.I j) (M:=n) rfl rfl (by omega) ?_
  refine jS rfl 1 2 (by omega) (by decide) (by omega) ?_
  refine b9 ((63 - U:Nat):Int) (by omega) (by omega) (by omega) ?_
  refine jS rfl (63 - U) _ (by omega) rfl rfl ?_
  rw [IB]
  refine j7 s (M:=m+n+1) rfl (by rw [List.length_set];omega) (by rw [List.length_set];omega) rfl (by omega) fun IC=>?_
  refine b9 ((n+1:Nat):Int) (by omega) (by omega) (by omega) ?_
  have D:((aF.set (m+n) (S.getD n 0*2 ^ U % 18446744073709551616+aF.getD (m+n) 0)).set (m+n+1) (S.getD n 0*2 ^ U / 18446744073709551616)).getD (m+(n+1)) 0=S.getD n 0*2 ^ U / 18446744073709551616:=by
   rw [← Nat.add_assoc];simp [List.getD,show m+n+1 < aF.length by omega]
  refine bD (n+1) _ _ (by omega) (by simp;omega) (by rw [D];exact IA) IC (j.set h) ?_
  rw [D,← O,← Nat.add_assoc,List.take_set_of_le (Nat.le_refl _),mQ (by omega)]
  simp
def r8(S:List Nat)(n:Int):List Nat × Int:=if n < 0 then([],1) else if g5 S then eF (val S*2 ^ n.toNat) else([],2)
theorem Ey{a:R}{c l:Nat}{S:List Nat}{Z:V}(C:bU Z a c S)(h:l=S.length){n:Int}(G:n < 9223372036854775808):
  aG iQ.id #[.slice a l c,.int .i64 n] Z fun v K=>a2 Z K∧dS Z K v (r8 S n):=by
 refine iQ.ok ?_
 unfold iQ.t iQ.u.t
 refine b1 (fun d=>⟨a2.refl _,?_⟩) fun d=>?_
 ·unfold r8;rw [if_pos d];exact dS.none
 unfold r8;rw [if_neg d]
 obtain⟨b,rfl⟩:∃ b:Nat,n=(b:Int):=⟨n.toNat,by omega⟩
 rw [Int.toNat_natCast]
 refine bE (kY C h) fun v K ⟨e,f⟩=>?_
 subst e;subst f;subst h
 refine bK rfl ?_
 refine kU (fun g=>⟨a2.refl _,?_⟩) fun g=>?_
 ·rw [if_neg (of_decide_eq_false g)];exact dS.none
 have a3:=of_decide_eq_true g
 rw [if_pos a3]
 have i:=a3.1
 refine fP (fun o=>⟨a2.refl _,?_⟩) fun o=>?_
 ·have O:S=[]:=List.length_eq_zero_iff.mp (by omega)
  subst O
  have O:eF (val []*2 ^ b)=([],0):=by simp [val,eF,cP]
  rw [O];exact dS.none
 refine bE (Al C rfl) fun v K ⟨e,f⟩=>?_
 subst e;subst f
 refine bJ rfl ?_
 have a1:val S ≠ 0:=fun O=>by
  have:=mP.mpr O
  rw [a3.2] at this;subst this;simp at o
 have H:dK (val S)≤524288:=by
  rw [z2,a3.z C.words];exact i
 refine b9 (524288 - (dK (val S):Int)) rfl (by omega) (by omega) ?_
 refine b1 (fun P=>⟨a2.refl _,?_⟩) fun Iv=>?_
 ·rw [DG (by rw [tX b a1];omega)];exact dS.none
 have Iw:=lY a1
 refine⟨by decide,b9 ((b / 64:Nat):Int) (l0 b 64) (by omega) (by omega) ?_⟩
 refine⟨by decide,iH (qR b 64) ?_⟩
 refine b9 ((b / 64+S.length:Nat):Int) (by omega) (by omega) (by omega) ?_
 refine b9 ((b / 64+S.length+1:Nat):Int) (by omega) (by omega) (by omega) ?_
 refine k8 (b / 64+S.length+1) rfl rfl rfl rfl (by omega) fun aI s U=>?_
 unfold iQ.a4.t
 refine⟨S.length+1,?_⟩
 have j:(List.replicate (b / 64+S.length+1) 0).getD (b / 64+0) 0=0:=by
  simp only [List.getD,List.getElem?_replicate];split <;> rfl
 refine Ex C rfl (Nat.le_refl _) i (by omega) (Nat.mod_lt _ (by decide)) rfl rfl (List.replicate (b / 64) 0 ++ n3 (2 ^ (b % 64)) S 0) ?_ S.length 0 _ aI (by omega) (by simp) (by rw [j];exact Nat.pow_pos (by decide)) s U ?_
 ·have O:val (List.replicate (b / 64) 0 ++ n3 (2 ^ (b % 64)) S 0)=val S*2 ^ b:=by
   have D:∀ m,val (List.replicate m 0)=0:=by
    intro m;induction m with
    | zero=>rfl
    | succ m bD=>rw [List.replicate_succ];simp [val,bD]
   rw [gO,D,AE,List.length_replicate,Nat.zero_add,Nat.add_zero,Nat.mul_comm,Nat.mul_assoc,← Nat.pow_add,show b % 64+64*(b / 64)=b by omega]
  rw [O];exact fun v K U E=>⟨U,E⟩
 ·rw [j];simp [List.take_replicate,show min (b / 64) (b / 64+S.length+1)=b / 64 by omega]
def n4(y x:Nat):List Nat→List Nat
 | []=>[]
 | Q :: S=>(Q / y+S.headD 0*x % 18446744073709551616) :: n4 y x S
theorem AI{y x:Nat}(Z:y*x=18446744073709551616)(a:0 < y)(b:0 < x):∀ S:List Nat,val (n4 y x S)=val S / y
 | []=>by simp [n4,val]
 | Q :: S=>by
  simp only [n4,val,AI Z a b S]
  have c:(Q+18446744073709551616*val S) / y=Q / y+x*val S:=by
   rw [← Z,Nat.mul_assoc,Nat.add_mul_div_left _ _ a]
  rw [c]
  have cI:=tW S
  generalize S.headD 0=b7 at *
  generalize val S.tail=t at *
  have d:val S / y=b7 / y+x*t:=by
   rw [cI,← Z,Nat.mul_assoc,Nat.add_mul_div_left _ _ a]
  have e:b7*x / 18446744073709551616=b7 / y:=by rw [← Z,Nat.mul_div_mul_right _ _ b]
  have f:x*(b7+18446744073709551616*t)=b7*x+18446744073709551616*(x*t):=by rw [Nat.mul_add,Nat.mul_left_comm x,Nat.mul_comm x b7]
  rw [d,cI,← e,f]
  generalize b7*x=a5;generalize x*t=k;omega
theorem Ez{U Q k:Nat}(a:U < 64)(b:Q < 18446744073709551616):(Q / 2 ^ U) ||| (k*2 % 18446744073709551616*2 ^ (63 - U) % 18446744073709551616)=Q / 2 ^ U+k*2 ^ (64 - U) % 18446744073709551616:=by
 have c:k*2 % 18446744073709551616*2 ^ (63 - U) % 18446744073709551616=k*2 ^ (64 - U) % 18446744073709551616:=by
  rw [Nat.mod_mul_mod,Nat.mul_assoc,← Nat.pow_succ',show(63 - U).succ=64 - U by omega]
 have d:k*2 ^ (64 - U) % 18446744073709551616=2 ^ (64 - U)*(k % 2 ^ U):=by
  rw [← j8 a,Nat.mul_comm k,Nat.mul_comm (2 ^ U),Nat.mul_mod_mul_left]
 have e:Q / 2 ^ U < 2 ^ (64 - U):=by
  rw [Nat.div_lt_iff_lt_mul (Nat.pow_pos (by decide)),Nat.mul_comm,j8 a];exact b
 rw [c,d,An e,Nat.add_comm]
theorem EA{U Q k:Nat}(a:U < 64)(b:Q < 18446744073709551616):Q / 2 ^ U+k*2 ^ (64 - U) % 18446744073709551616 < 18446744073709551616:=by
 have d:k*2 ^ (64 - U) % 18446744073709551616=2 ^ (64 - U)*(k % 2 ^ U):=by
  rw [← j8 a,Nat.mul_comm k,Nat.mul_comm (2 ^ U),Nat.mul_mod_mul_left]
 have e:Q / 2 ^ U < 2 ^ (64 - U):=by
  rw [Nat.div_lt_iff_lt_mul (Nat.pow_pos (by decide)),Nat.mul_comm,j8 a];exact b
 have aI:k % 2 ^ U+1≤2 ^ U:=Nat.mod_lt _ (Nat.pow_pos (by decide))
 have c:=Nat.mul_le_mul_left (2 ^ (64 - U)) aI
 rw [Nat.mul_comm (2 ^ (64 - U)) (2 ^ U),j8 a,Nat.mul_add,Nat.mul_one] at c
 omega
theorem EB{Y:J}{a:R}{c l m U a5 L:Nat}{S:List Nat}{o:V}{x:Nat}(C:bU o a c S)(D:l=S.length)(e:o.size≤x)(IB:S.length≤8192)(i:U < 64)(IC:m < S.length)(ID:a5=S.length - m)(IE:L=S.length - m)
  (dV:List Nat) (g:∀ v K,a2 o K→dS o K v (eF (val dV))→Y v K) :
  ∀ (M n:Nat) (aF:List Nat) (Z:V),m+n+M=S.length→aF.length=S.length - m→eX Z x aF→a2 o Z→aF.take n ++ n4 (2 ^ U) (2 ^ (64 - U)) (S.drop (m+n))=dV→
   iR.a8.t Y (M+1) a l c (m:Int) (U:Int) (some ⟨x,0,none⟩) a5 L (a5:Int) (n:Int) Z:=by
 subst D
 intro M
 induction M with
 | zero=>
  intro n aF Z E G f b O
  unfold iR.a8.t iR.bS.t
  refine b1 (fun d=>absurd d (by omega)) fun _=>?_
  rw [List.drop_of_length_le (by omega)] at O
  have H:aF=dV:=by
   rw [← O];simp only [n4,List.append_nil]
   rw [List.take_of_length_le (by omega)]
  subst H
  unfold iR.aD.t
  refine bE (pA (f.j9 (c:=L) e (by omega)) (by omega)) fun v K ⟨P,Iv⟩=>?_
  subst P
  refine Iv.g9 fun a c C T=>?_
  exact g _ _ b (dS.back C T)
 | succ M bD=>
  intro n aF Z E G f b O
  have j:S.getD (m+n) 0 < 18446744073709551616:=C.word _
  have IF:S.getD (m+n+1) 0 < 18446744073709551616:=C.word _
  have Iw:=EA (U:=U) (k:=S.getD (m+n+1) 0) i j
  have IG:S.getD (m+n) 0 / 2 ^ U≤S.getD (m+n) 0:=Nat.div_le_self _ _
  rw [gU (S:=S) (M:=m+n) (by omega)] at O
  simp only [n4,tV] at O
  unfold iR.a8.t iR.bS.t
  refine b1 (fun d=>?_) fun d=>absurd (by omega) d
  refine b9 ((m+n:Nat):Int) (by omega) (by omega) (by omega) ?_
  refine eW (C.I b) (M:=m+n) rfl rfl (by omega) ?_
  refine jS rfl U _ (by omega) rfl rfl ?_
  refine j7 f (M:=n) rfl (by omega) (by omega) rfl (by omega) fun s=>?_
  have h:=b.set (v:=gD (S.getD (m+n) 0 / 2 ^ U)) (T:=n) e
  refine b9 ((m+n:Nat):Int) (by omega) (by omega) (by omega) ?_
  refine b9 ((m+n+1:Nat):Int) (by omega) (by omega) (by omega) ?_
  refine b1 (fun Ix=>?_) fun Ix=>?_
  ·refine eW (s.rd (c:=L) (by rw [List.length_set];omega)) (M:=n) rfl (by rw [List.length_set];omega) (by rw [List.length_set];omega) ?_
   have Iy:(aF.set n (S.getD (m+n) 0 / 2 ^ U)).getD n 0=S.getD (m+n) 0 / 2 ^ U:=by
    simp [List.getD,show n < aF.length by omega]
   rw [Iy]
   refine b9 ((m+n:Nat):Int) (by omega) (by omega) (by omega) ?_
   refine b9 ((m+n+1:Nat):Int) (by omega) (by omega) (by omega) ?_
   refine eW (C.I h) (M:=m+n+1) rfl rfl (by omega) ?_
   refine nC rfl 1 2 (by omega) (by decide) (by omega) ?_
   refine b9 ((63 - U:Nat):Int) (by omega) (by omega) (by omega) ?_
   refine nC rfl (63 - U) _ (by omega) rfl rfl ?_
   refine uI rfl rfl (by omega) (Nat.mod_lt _ (by decide)) ?_
   rw [Ez i j]
   refine j7 s (M:=n) rfl (by rw [List.length_set];omega) (by rw [List.length_set];omega) rfl Iw fun Iz=>?_
   refine b9 ((n+1:Nat):Int) (by omega) (by omega) (by omega) ?_
   refine bD (n+1) _ _ (by omega) (by simp;omega) Iz (h.set e) ?_
   rw [← O,List.set_set,mQ (by omega)]
   simp [Nat.add_assoc]
  ·refine b9 ((n+1:Nat):Int) (by omega) (by omega) (by omega) ?_
   refine bD (n+1) _ _ (by omega) (by simp;omega) s h ?_
   have IA:S.getD (m+n+1) 0=0:=by simp [List.getD,show S.length≤m+n+1 by omega]
   rw [IA] at O
   rw [← O,mQ (by omega)]
   simp [Nat.add_assoc]
def pE(S:List Nat)(n:Int):List Nat × Int:=if n < 0 then([],1) else if g5 S then eF (val S / 2 ^ n.toNat) else([],2)
theorem AJ{a:R}{c l:Nat}{S:List Nat}{Z:V}(C:bU Z a c S)(f:l=S.length){n:Int}(D:n < 9223372036854775808):
  aG iR.id #[.slice a l c,.int .i64 n] Z fun v K=>a2 Z K∧dS Z K v (pE S n):=by
 refine iR.ok ?_
 unfold iR.t iR.u.t
 refine b1 (fun d=>⟨a2.refl _,?_⟩) fun d=>?_
 ·unfold pE;rw [if_pos d];exact dS.none
 unfold pE;rw [if_neg d]
 obtain⟨b,rfl⟩:∃ b:Nat,n=(b:Int):=⟨n.toNat,by omega⟩
 rw [Int.toNat_natCast]
 refine bE (kY C f) fun v K ⟨g,h⟩=>?_
 subst g;subst h;subst f
 refine bK rfl ?_
 refine kU (fun e=>⟨a2.refl _,?_⟩) fun e=>?_
 ·rw [if_neg (of_decide_eq_false e)];exact dS.none
 have a3:=of_decide_eq_true e
 rw [if_pos a3]
 have i:=a3.1
 have j:b=64*(b / 64)+b % 64:=by omega
 have cI:val S / 2 ^ b=val (S.drop (b / 64)) / 2 ^ (b % 64):=by
  rw [jA C.words,Nat.div_div_eq_div_mul,← Nat.pow_add,← j]
 rw [cI]
 refine⟨by decide,b9 ((b / 64:Nat):Int) (l0 b 64) (by omega) (by omega) ?_⟩
 refine⟨by decide,iH (qR b 64) ?_⟩
 refine b1 (fun E=>⟨a2.refl _,?_⟩) fun G=>?_
 ·rw [List.drop_of_length_le (by omega)]
  have O:eF (val [] / 2 ^ (b % 64))=([],0):=by simp [val,eF,cP]
  rw [O];exact dS.none
 ·refine b9 ((S.length - b / 64:Nat):Int) (by omega) (by omega) (by omega) ?_
  refine k8 (S.length - b / 64) rfl rfl rfl rfl (by omega) fun aI s U=>?_
  unfold iR.a4.t
  refine⟨S.length - b / 64+1,?_⟩
  refine EB C rfl (Nat.le_refl _) i (Nat.mod_lt _ (by decide)) (by omega) rfl rfl (n4 (2 ^ (b % 64)) (2 ^ (64 - b % 64)) (S.drop (b / 64))) ?_ (S.length - b / 64) 0 _ aI (by omega) (by simp) s U (by simp)
  rw [AI (j8 (Nat.mod_lt _ (by decide))) (Nat.pow_pos (by decide)) (Nat.pow_pos (by decide))]
  exact fun v K U m=>⟨U,m⟩
def r9(S:List Nat)(n:Int):List Nat × Int:=if n < 0 then([],1) else if g5 S then eF (val S % 2 ^ n.toNat) else([],2)
theorem EC{a:R}{c l:Nat}{S:List Nat}{Z:V}(C:bU Z a c S)(i:l=S.length){n:Int}(ID:n < 9223372036854775808):
  aG l3.id #[.slice a l c,.int .i64 n] Z fun v K=>a2 Z K∧dS Z K v (r9 S n):=by
 refine l3.ok ?_
 unfold l3.t l3.u.t
 refine b1 (fun f=>⟨a2.refl _,?_⟩) fun f=>?_
 ·unfold r9;rw [if_pos f];exact dS.none
 unfold r9;rw [if_neg f]
 obtain⟨b,rfl⟩:∃ b:Nat,n=(b:Int):=⟨n.toNat,by omega⟩
 rw [Int.toNat_natCast]
 refine bE (kY C i) fun v K ⟨g,P⟩=>?_
 subst g;subst P;subst i
 refine bK rfl ?_
 refine kU (fun h=>⟨a2.refl _,?_⟩) fun h=>?_
 ·rw [if_neg (of_decide_eq_false h)];exact dS.none
 have a3:=of_decide_eq_true h
 rw [if_pos a3]
 have IE:=a3.1
 have Iv:b=64*(b / 64)+b % 64:=by omega
 have j:b % 64 < 64:=Nat.mod_lt _ (by decide)
 refine⟨by decide,b9 ((b / 64:Nat):Int) (l0 b 64) (by omega) (by omega) ?_⟩
 refine⟨by decide,iH (qR b 64) ?_⟩
 refine k8 S.length rfl rfl rfl rfl (by omega) fun aI s U=>?_
 refine tU s (C.I U) (by simp) rfl (Nat.le_refl _) U fun Iw d m=>?_
 have Ix:List.take (List.replicate S.length 0).length S ++ List.drop S.length (List.replicate S.length 0)=S:=by simp
 rw [Ix] at d
 have D:∀ {aF:List Nat} {c a5:Nat} {e:V},cH dB K e (some ⟨K.size,0,none⟩) c aF→a5=aF.length→a2 K e→val aF=val S % 2 ^ b→l3.aD.t (fun v E=>a2 K E∧dS K E v (eF (val S % 2 ^ b))) (some ⟨K.size,0,none⟩) a5 c e:=by
  intro aF c a5 e Iy Iz IA O
  unfold l3.aD.t
  refine bE (pA Iy Iz) fun v IF ⟨g,G⟩=>?_
  subst g
  rw [O] at G
  refine G.g9 fun a c C T=>?_
  exact⟨IA,dS.back C T⟩
 refine b1 (fun IG=>?_) fun IH=>?_
 ·refine eW (d.rd (c:=S.length) (by omega)) (M:=b / 64) rfl (by omega) (by omega) ?_
  have IB:2 ^ (b % 64) < 18446744073709551616:=wJ j
  have II:0 < 2 ^ (b % 64):=Nat.pow_pos (by decide)
  refine nC (n:=1) rfl (b % 64) _ (by omega) rfl rfl ?_
  rw [Nat.one_mul,Nat.mod_eq_of_lt IB]
  refine cK (2 ^ (b % 64) - 1) (by omega) (by omega) ?_
  refine Am rfl rfl (C.word _) (by omega) ?_
  rw [Nat.and_two_pow_sub_one_eq_mod]
  have IJ:S.getD (b / 64) 0 % 2 ^ (b % 64)≤S.getD (b / 64) 0:=Nat.mod_le _ _
  have IK:=C.word (b / 64)
  refine j7 d (M:=b / 64) rfl (by omega) (by omega) rfl (by omega) fun IC=>?_
  refine b9 ((b / 64+1:Nat):Int) (by omega) (by omega) (by omega) ?_
  refine rX rfl (by omega) ?_
  have H:=(IC.j9 (o:=K) (c:=S.length) (Nat.le_refl _) (by simp)).take (b / 64+1)
  rw [mQ (by omega)] at H
  refine D H (by simp;omega) (m.set (Nat.le_refl _)) ?_
  rw [z3 C.words (by omega) j,← Iv]
 ·refine D (d.j9 (c:=S.length) (Nat.le_refl _) rfl) (by omega) m ?_
  have aI:=gE C.words
  have Iw:2 ^ (64*S.length)≤2 ^ b:=Nat.pow_le_pow_right (by decide) (by omega)
  rw [Nat.mod_eq_of_lt (by omega)]
def uM(v:Value)(a N:Nat):Prop:=v=.tuple #[.int .u64 (a:Int),.int .u64 (N:Int)]
theorem uM.elim{v:Value}{a N:Nat}{A:Int→Int→Prop}(O:uM v a N)(g:A (a:Int) (N:Int)):
  cO v fun k=>cL k fun b eD=>aC .u64 b fun Q=>cL eD fun c d=>aC .u64 c fun a5=>bG d (A Q a5):=by
 subst O;exact g
theorem ED{Q k aO r h5 eD a N c aB:Nat}(b:Q=aO+4294967296*r)(d:k=h5+4294967296*eD)(e:a=aO*h5)(f:N=r*h5)(g:c=aO*eD)(h:aB=r*eD):Q*k=a+4294967296*(N+c)+18446744073709551616*aB:=by
 subst b;subst d;subst e;subst f;subst g;subst h
 rw [Nat.add_mul,Nat.mul_add,Nat.mul_add]
 have i:aO*(4294967296*eD)=4294967296*(aO*eD):=Nat.mul_left_comm _ _ _
 have j:4294967296*r*h5=4294967296*(r*h5):=Nat.mul_assoc _ _ _
 have l:4294967296*r*(4294967296*eD)=18446744073709551616*(r*eD):=by
  rw [Nat.mul_assoc,Nat.mul_left_comm r,← Nat.mul_assoc]
 rw [i,j,l];omega
theorem w3{Q k:Nat}(b:Q < 18446744073709551616)(d:k < 18446744073709551616)(Z:V):
  aG nF.id #[.int .u64 (Q:Int),.int .u64 (k:Int)] Z fun v K=>K=Z∧uM v (Q*k / 18446744073709551616) (Q*k % 18446744073709551616):=by
 refine nF.ok ?_
 unfold nF.t nF.u.t
 have g:=pB (a:=Q % 4294967296) (N:=k % 4294967296) (by omega) (by omega)
 have h:=pB (a:=Q / 4294967296) (N:=k % 4294967296) (by omega) (by omega)
 have i:=pB (a:=Q % 4294967296) (N:=k / 4294967296) (by omega) (by omega)
 have j:=pB (a:=Q / 4294967296) (N:=k / 4294967296) (by omega) (by omega)
 have O:=ED (Q:=Q) (k:=k) (aO:=Q % 4294967296) (r:=Q / 4294967296) (h5:=k % 4294967296) (eD:=k / 4294967296) (by omega) (by omega) rfl rfl rfl rfl
 refine kD rfl b ?_
 refine jS rfl 32 4294967296 (by omega) (by decide) (by omega) ?_
 refine kD rfl d ?_
 refine jS rfl 32 4294967296 (by omega) (by decide) (by omega) ?_
 refine cK (Q % 4294967296*(k % 4294967296)) (by norm_cast) (by omega) ?_
 refine cK (Q / 4294967296*(k % 4294967296)) (by norm_cast) (by omega) ?_
 have aI:((Q % 4294967296:Nat):Int)*((k / 4294967296:Nat):Int)=((Q % 4294967296*(k / 4294967296):Nat):Int):=by norm_cast
 have e:((Q / 4294967296:Nat):Int)*((k / 4294967296:Nat):Int)=((Q / 4294967296*(k / 4294967296):Nat):Int):=by norm_cast
 have f:(Q:Int)*(k:Int)=((Q*k:Nat):Int):=by norm_cast
 rw [aI,e,f]
 generalize Q % 4294967296*(k % 4294967296)=a at *
 generalize Q / 4294967296*(k % 4294967296)=N at *
 generalize Q % 4294967296*(k / 4294967296)=c at *
 generalize Q / 4294967296*(k / 4294967296)=aB at *
 generalize Q*k=y at *
 refine jS rfl 32 4294967296 (by omega) (by decide) (by omega) ?_
 refine cK (N+a / 4294967296) (by omega) (by omega) ?_
 refine kD rfl (by omega) ?_
 refine jS rfl 32 4294967296 (by omega) (by decide) (by omega) ?_
 refine cK c rfl (by omega) ?_
 refine cK ((N+a / 4294967296) % 4294967296+c) (by omega) (by omega) ?_
 refine cK aB rfl (by omega) ?_
 refine cK (aB+(N+a / 4294967296) / 4294967296) (by omega) (by omega) ?_
 refine jS rfl 32 4294967296 (by omega) (by decide) (by omega) ?_
 refine cK (y / 18446744073709551616) (by omega) (by omega) ?_
 refine iH (k:=((y % 18446744073709551616:Nat):Int)) (by rw [wrap_u64];omega) ?_
 exact⟨rfl,rfl⟩
def mulL(L:Nat):List Nat→Nat→List Nat
 | [],c=>[c]
 | Q :: S,c=>(Q*L+c) % 18446744073709551616 :: mulL L S ((Q*L+c) / 18446744073709551616)
theorem AK(L:Nat):∀ (S:List Nat) (c:Nat),val (mulL L S c)=val S*L+c
 | [],c=>by simp [mulL,val]
 | Q :: S,c=>by
  simp only [mulL,val,AK L S,Nat.add_mul,Nat.mul_assoc]
  generalize Q*L=k;generalize val S*L=a5;omega
theorem EE{Y:J}{a:R}{c l L a5 k:Nat}{S:List Nat}{o:V}{x:Nat}(C:bU o a c S)(G:l=S.length)(f:o.size≤x)(Iz:S.length≤8192)(H:L < 18446744073709551616)(IA:a5=S.length+1)(IB:k=S.length+1)
  (dV:List Nat) (g:∀ v K,a2 o K→dS o K v (eF (val dV))→Y v K) :
  ∀ (M n b:Nat) (aF:List Nat) (Z:V),n+M=S.length→aF.length=S.length+1→b < 18446744073709551616→eX Z x aF→a2 o Z→aF.take n ++ mulL L (S.drop n) b=dV→
   h6.a8.t Y (M+1) a l c (L:Int) (some ⟨x,0,none⟩) a5 k (b:Int) (l:Int) (n:Int) Z:=by
 subst G
 intro M
 induction M with
 | zero=>
  intro n b aF Z P m D h d O
  unfold h6.a8.t h6.bS.t
  refine b1 (fun e=>absurd e (by omega)) fun _=>?_
  have Iv:n=S.length:=by omega
  subst Iv
  rw [List.drop_length] at O
  unfold h6.aD.t
  refine j7 h (M:=S.length) rfl (by omega) (by omega) rfl D fun s=>?_
  have E:aF.set S.length b=dV:=by
   rw [← O];show _=_ ++ [b]
   rw [← mQ (by omega),List.take_of_length_le (by rw [List.length_set];omega)]
  rw [E] at s
  have IC:dV.length=S.length+1:=by rw [← E,List.length_set];exact m
  have Iw:=d.set (v:=gD b) (T:=S.length) f
  refine bE (pA (s.j9 (c:=k) f (by omega)) (by omega)) fun v K ⟨i,j⟩=>?_
  subst i
  refine j.g9 fun a c C T=>?_
  exact g _ _ Iw (dS.back C T)
 | succ M bD=>
  intro n b aF Z P m D h d O
  have Ix:S.getD n 0 < 18446744073709551616:=C.word n
  rw [gU (S:=S) (M:=n) (by omega)] at O
  simp only [mulL] at O
  have ID:S.getD n 0*L≤340282366920938463426481119284349108225:=Nat.mul_le_mul (show S.getD n 0≤18446744073709551615 by omega) (show L≤18446744073709551615 by omega)
  unfold h6.a8.t h6.bS.t
  refine b1 (fun e=>?_) fun e=>absurd (by omega) e
  refine eW (C.I d) (M:=n) rfl rfl (by omega) ?_
  refine bE (w3 Ix H _) fun v K ⟨i,j⟩=>?_
  subst i
  refine j.elim ?_
  generalize S.getD n 0*L=y at *
  refine mU (c:=0) rfl rfl rfl (by omega) ?_
  have Iy:(y % 18446744073709551616+b+0) % 18446744073709551616=(y+b) % 18446744073709551616:=by omega
  rw [Iy]
  refine j7 h (M:=n) rfl (by omega) (by omega) rfl (by omega) fun s=>?_
  refine cK ((y+b) / 18446744073709551616) (by omega) (by omega) ?_
  refine b9 ((n+1:Nat):Int) (by omega) (by omega) (by omega) ?_
  refine bD (n+1) _ _ _ (by omega) (by simp;omega) (by omega) s (d.set f) ?_
  rw [← O,mQ (by omega)];simp
def uN(S:List Nat)(L:Nat):List Nat × Int:=if g5 S then eF (val S*L) else([],2)
theorem EF{a:R}{c l L:Nat}{S:List Nat}{Z:V}(C:bU Z a c S)(d:l=S.length)(e:L < 18446744073709551616):
  aG h6.id #[.slice a l c,.int .u64 (L:Int)] Z fun v K=>a2 Z K∧dS Z K v (uN S L):=by
 refine h6.ok ?_
 unfold h6.t h6.u.t
 refine bE (kY C d) fun v K ⟨f,g⟩=>?_
 subst f;subst g;subst d
 refine bK rfl ?_
 unfold uN
 refine kU (fun b=>⟨a2.refl _,?_⟩) fun b=>?_
 ·rw [if_neg (of_decide_eq_false b)];exact dS.none
 have a3:=of_decide_eq_true b
 rw [if_pos a3]
 have h:=a3.1
 refine b9 ((S.length+1:Nat):Int) (by omega) (by omega) (by omega) ?_
 refine k8 (S.length+1) rfl rfl rfl rfl (by omega) fun aI s U=>?_
 unfold h6.a4.t
 refine⟨S.length+1,?_⟩
 refine EE C rfl (Nat.le_refl _) h e rfl rfl (mulL L S 0) ?_ S.length 0 0 _ aI (by omega) (by simp) (by omega) s U (by simp)
 rw [AK,Nat.add_zero];exact fun v K U i=>⟨U,i⟩
theorem AL{L:Nat}(a:L < 18446744073709551616)(Z:V):aG jV.id #[.int .u64 (L:Int)] Z fun v K=>a2 Z K∧uE Z K v (z L):=by
 refine jV.ok ?_
 unfold jV.t jV.u.t
 refine fP (fun o=>⟨a2.refl _,?_⟩) fun o=>?_
 ·have:L=0:=by omega
  subst this;rw [cP];exact⟨none,0,rfl,cH.nil _ _⟩
 ·refine DC [L] (by rfl) (by simp) (by simpa using a) fun aI s U=>⟨U,?_⟩
  have O:z L=[L]:=by
   rw [jP (by omega),show L / 18446744073709551616=0 by omega,cP,Nat.mod_eq_of_lt a]
  rw [O];exact⟨_,_,rfl,s.j9 (Nat.le_refl _) (by simp)⟩
theorem AM{Q:Nat}(a:Q < 18446744073709551616)(Z:V):aG n5.id #[.int .u64 (Q:Int)] Z fun v K=>K=Z∧v=.int .i64 ((64 - dK Q:Nat):Int):=by
 refine n5.ok ?_
 unfold n5.t n5.u.t
 refine bE (Ak rfl a _) fun v K ⟨b,c⟩=>?_
 subst b;subst c
 refine bJ rfl ?_
 have:dK Q≤64:=hH.mpr a
 exact b9 ((64 - dK Q:Nat):Int) (by omega) (by omega) (by omega) ⟨rfl,rfl⟩
structure l4(eS dE dN eA x C:Nat):Prop where
 rest:x*dN+C=eS
 up:eS*4294967296+dE < (x+1)*(dN*4294967296+eA)
theorem l4.uO{eS dE dN eA x C:Nat}(g:l4 eS dE dN eA x C)(d:eS < dN*4294967296+eA)(e:dE < 4294967296)(b:4294967296≤x∨x*eA > 4294967296*C+dE):1≤x∧l4 eS dE dN eA (x - 1) (C+dN):=by
 have c:1≤x:=by
  rcases b with Z | Z
  ·omega
  ·exact Nat.pos_of_ne_zero fun O=>by subst O;simp at Z
 obtain⟨y,rfl⟩:∃ y,x=y+1:=⟨x - 1,by omega⟩
 refine⟨c,?_,?_⟩
 ·have:=g.rest
  rw [Nat.add_mul,Nat.one_mul] at this
  rw [Nat.add_sub_cancel];omega
 ·rw [Nat.add_sub_cancel]
  rcases b with Z | Z
  ·have aI:4294967296*(dN*4294967296+eA)≤(y+1)*(dN*4294967296+eA):=Nat.mul_le_mul_right _ Z
   generalize (y+1)*(dN*4294967296+eA)=a5 at *;omega
  ·have aI:=g.rest
   rw [Nat.mul_add,← Nat.mul_assoc]
   generalize (y+1)*dN=a at *
   generalize (y+1)*eA=N at *
   omega
theorem l4.fits{eS dE dN eA x C:Nat}(g:l4 eS dE dN eA x C)(d:x*eA≤4294967296*C+dE):x=(eS*4294967296+dE) / (dN*4294967296+eA):=by
 have aI:=g.rest
 have c:x*(dN*4294967296+eA)≤eS*4294967296+dE:=by
  rw [Nat.mul_add,← Nat.mul_assoc]
  generalize x*dN=a at *;generalize x*eA=N at *;omega
 have b:=g.up
 have e:0 < dN*4294967296+eA:=Nat.pos_of_ne_zero fun O=>by rw [O] at b;simp at b
 refine(Nat.div_eq_of_lt_le ?_ ?_).symm
 ·exact c
 ·exact b
theorem EG{Y:J}{aY F dN eA dE b6 eS:Nat}{Z:V}(e:eS < dN*4294967296+eA)(f:dE < 4294967296)(m:dN < 4294967296)(n:eA < 4294967296)
  (b:fH.bS.t Y (aY:Int) (F:Int) (dE:Int) (b6:Int) (eS:Int) (((eS*4294967296+dE) / (dN*4294967296+eA):Nat):Int) Z) :
  ∀ (U x C:Nat),l4 eS dE dN eA x C→x≤4294967297→C < 4294967296→4294967296≤C+(U+1)*dN→
   fH.fA.t Y (U+1) (aY:Int) (F:Int) (dN:Int) (eA:Int) (dE:Int) (b6:Int) (C:Int) (eS:Int) (x:Int) Z:=by
 intro U
 induction U with
 | zero=>
  intro x C g j l h
  have step:(4294967296≤x∨x*eA > 4294967296*C+dE)→fH.dX.t Y (fH.fA.t Y 0) (aY:Int) (F:Int) (dN:Int) (eA:Int) (dE:Int) (b6:Int) (C:Int) (eS:Int) (x:Int) Z:=by
   intro a
   obtain⟨aI,c⟩:=g.uO e f a
   unfold fH.dX.t
   refine cK (x - 1) (by omega) (by omega) ?_
   refine cK (C+dN) (by omega) (by omega) ?_
   refine b1 (fun _=>?_) fun i=>absurd (by omega) i
   have d:(x - 1)*eA≤4294967296*4294967295:=Nat.mul_le_mul (by omega) (by omega)
   rw [← c.fits (by omega)] at b;exact b
  unfold fH.fA.t fH.dP.t
  refine b1 (fun a=>step (Or.inl (by omega))) fun a=>?_
  have d:x*eA≤4294967295*4294967295:=Nat.mul_le_mul (by omega) (by omega)
  refine cK (x*eA) (by norm_cast) (by omega) ?_
  refine cK (4294967296*C) (by omega) (by omega) ?_
  refine cK (4294967296*C+dE) (by omega) (by omega) ?_
  refine b1 (fun a=>step (Or.inr (by omega))) fun a=>?_
  rw [← g.fits (by omega)] at b;exact b
 | succ U bD=>
  intro x C g j l h
  have step:(4294967296≤x∨x*eA > 4294967296*C+dE)→fH.dX.t Y (fH.fA.t Y (U+1)) (aY:Int) (F:Int) (dN:Int) (eA:Int) (dE:Int) (b6:Int) (C:Int) (eS:Int) (x:Int) Z:=by
   intro a
   obtain⟨aI,c⟩:=g.uO e f a
   unfold fH.dX.t
   refine cK (x - 1) (by omega) (by omega) ?_
   refine cK (C+dN) (by omega) (by omega) ?_
   refine b1 (fun _=>?_) fun i=>?_
   ·have d:(x - 1)*eA≤4294967296*4294967295:=Nat.mul_le_mul (by omega) (by omega)
    rw [← c.fits (by omega)] at b;exact b
   ·refine bD _ _ c (by omega) (by omega) ?_
    rw [Nat.add_mul,Nat.one_mul] at h
    omega
  unfold fH.fA.t fH.dP.t
  refine b1 (fun a=>step (Or.inl (by omega))) fun a=>?_
  have d:x*eA≤4294967295*4294967295:=Nat.mul_le_mul (by omega) (by omega)
  refine cK (x*eA) (by norm_cast) (by omega) ?_
  refine cK (4294967296*C) (by omega) (by omega) ?_
  refine cK (4294967296*C+dE) (by omega) (by omega) ?_
  refine b1 (fun a=>step (Or.inr (by omega))) fun a=>?_
  rw [← g.fits (by omega)] at b;exact b
theorem EH{Y:J}{aY F dN eA dE c eS:Nat}{Z:V}(f:eS < dN*4294967296+eA)(h:dE < 4294967296)(n:dN < 4294967296)(v:eA < 4294967296)
  (b:fH.bP.t Y (aY:Int) (F:Int) (dN:Int) (eA:Int) (eS:Int) (dE:Int) (c:Int) (((eS*4294967296+dE) / (dN*4294967296+eA):Nat):Int) Z) :
  ∀ (U x C:Nat),l4 eS dE dN eA x C→x≤4294967297→C < 4294967296→4294967296≤C+(U+1)*dN→
   fH.hV.t Y (U+1) (aY:Int) (F:Int) (dN:Int) (eA:Int) (eS:Int) (dE:Int) (c:Int) (x:Int) (C:Int) Z:=by
 intro U
 induction U with
 | zero=>
  intro x C g l m i
  have step:(4294967296≤x∨x*eA > 4294967296*C+dE)→fH.l5.t Y (fH.hV.t Y 0) (aY:Int) (F:Int) (dN:Int) (eA:Int) (eS:Int) (dE:Int) (c:Int) (x:Int) (C:Int) Z:=by
   intro a
   obtain⟨aI,d⟩:=g.uO f h a
   unfold fH.l5.t
   refine cK (x - 1) (by omega) (by omega) ?_
   refine cK (C+dN) (by omega) (by omega) ?_
   refine b1 (fun _=>?_) fun j=>absurd (by omega) j
   have e:(x - 1)*eA≤4294967296*4294967295:=Nat.mul_le_mul (by omega) (by omega)
   rw [← d.fits (by omega)] at b;exact b
  unfold fH.hV.t fH.n6.t
  refine b1 (fun a=>step (Or.inl (by omega))) fun a=>?_
  have e:x*eA≤4294967295*4294967295:=Nat.mul_le_mul (by omega) (by omega)
  refine cK (x*eA) (by norm_cast) (by omega) ?_
  refine cK (4294967296*C) (by omega) (by omega) ?_
  refine cK (4294967296*C+dE) (by omega) (by omega) ?_
  refine b1 (fun a=>step (Or.inr (by omega))) fun a=>?_
  rw [← g.fits (by omega)] at b;exact b
 | succ U bD=>
  intro x C g l m i
  have step:(4294967296≤x∨x*eA > 4294967296*C+dE)→fH.l5.t Y (fH.hV.t Y (U+1)) (aY:Int) (F:Int) (dN:Int) (eA:Int) (eS:Int) (dE:Int) (c:Int) (x:Int) (C:Int) Z:=by
   intro a
   obtain⟨aI,d⟩:=g.uO f h a
   unfold fH.l5.t
   refine cK (x - 1) (by omega) (by omega) ?_
   refine cK (C+dN) (by omega) (by omega) ?_
   refine b1 (fun _=>?_) fun j=>?_
   ·have e:(x - 1)*eA≤4294967296*4294967295:=Nat.mul_le_mul (by omega) (by omega)
    rw [← d.fits (by omega)] at b;exact b
   ·refine bD _ _ d (by omega) (by omega) ?_
    rw [Nat.add_mul,Nat.one_mul] at i
    omega
  unfold fH.hV.t fH.n6.t
  refine b1 (fun a=>step (Or.inl (by omega))) fun a=>?_
  have e:x*eA≤4294967295*4294967295:=Nat.mul_le_mul (by omega) (by omega)
  refine cK (x*eA) (by norm_cast) (by omega) ?_
  refine cK (4294967296*C) (by omega) (by omega) ?_
  refine cK (4294967296*C+dE) (by omega) (by omega) ?_
  refine b1 (fun a=>step (Or.inr (by omega))) fun a=>?_
  rw [← g.fits (by omega)] at b;exact b
theorem l4.first{eS dE dN eA:Nat}(aI:0 < dN)(b:dE < 4294967296):l4 eS dE dN eA (eS / dN) (eS % dN):=by
 refine⟨by rw [Nat.mul_comm];exact Nat.div_add_mod _ _,?_⟩
 have c:eS < (eS / dN+1)*dN:=by
  rw [Nat.add_mul,Nat.one_mul,Nat.mul_comm]
  have:=Nat.div_add_mod eS dN
  have:=Nat.mod_lt eS aI
  omega
 rw [Nat.mul_add,← Nat.mul_assoc]
 generalize (eS / dN+1)*dN=a at *
 omega
theorem AN{eS dN eA:Nat}(aI:2147483648≤dN)(a:eS < dN*4294967296+eA)(b:eA < 4294967296):eS / dN≤4294967297:=by
 have:eS / dN < 4294967298:=by
  rw [Nat.div_lt_iff_lt_mul (by omega)];omega
 omega
theorem w4{n k x C:Nat}(O:x*k+C=n)(l:C < k):n / k=x∧n % k=C:=by
 have a:0 < k:=Nat.lt_of_le_of_lt (Nat.zero_le _) l
 subst O
 rw [Nat.add_comm,Nat.mul_comm]
 exact⟨by rw [Nat.add_mul_div_left _ _ a,Nat.div_eq_of_lt l,Nat.zero_add],by rw [Nat.add_mul_mod_self_left,Nat.mod_eq_of_lt l]⟩
theorem EI{eS dE d aY b e c f:Nat}(g:b*aY+e=eS*4294967296+dE)(h:c*aY+f=e*4294967296+d):(b*4294967296+c)*aY+f=eS*18446744073709551616+dE*4294967296+d:=by
 rw [Nat.add_mul,Nat.mul_right_comm]
 generalize b*aY=a at *;generalize c*aY=N at *;omega
theorem EJ{Y:J}{aY F dN eA dE d eS b a c e:Nat}{Z:V}(i:aY=dN*4294967296+eA)(f:d < 4294967296)(j:dN < 4294967296)(l:2147483648≤dN)(h:eA < 4294967296)(aZ:F < 64)
  (E:b*aY+a=eS*4294967296+dE) (G:a < aY) (H:b < 4294967296) (m:c*aY+e=a*4294967296+d) (n:e < aY) (P:c < 4294967296)
  (g:Y (.tuple #[.int .u64 ((b*4294967296+c:Nat):Int),.int .u64 ((e / 2 ^ F:Nat):Int)]) Z) :
  fH.bP.t Y (aY:Int) (F:Int) (dN:Int) (eA:Int) (eS:Int) (dE:Int) (d:Int) (b:Int) Z:=by
 have Iv:aY < 18446744073709551616:=by omega
 have v:=(w4 m n).1
 unfold fH.bP.t
 refine iH (k:=((eS*4294967296 % 18446744073709551616:Nat):Int)) (by rw [wrap_u64];omega) ?_
 refine iH (k:=(((eS*4294967296+dE) % 18446744073709551616:Nat):Int)) (by rw [wrap_u64];omega) ?_
 refine iH (k:=((b*aY % 18446744073709551616:Nat):Int)) (by rw [wrap_u64,← Int.natCast_mul];omega) ?_
 refine iH (k:=(a:Int)) (by rw [wrap_u64];generalize b*aY=a5 at *;omega) ?_
 have D:a / dN≤4294967297:=AN l (by omega) h
 refine⟨by omega,cK (a / dN) (l0 _ _) (by omega) ?_⟩
 have Iw:a / dN*dN≤a:=Nat.div_mul_le_self _ _
 have Ix:a % dN=a - a / dN*dN:=by
  have:=Nat.div_add_mod a dN
  rw [Nat.mul_comm] at this;omega
 have Iy:=Nat.mod_lt a (show 0 < dN by omega)
 refine cK (a / dN*dN) (by rw [Int.natCast_mul]) (by omega) ?_
 refine cK (a % dN) (by omega) (by omega) ?_
 refine⟨1+1,?_⟩
 refine EG (by omega) f j h ?_ 1 _ _ (l4.first (by omega) f) D (by omega) (by omega)
 rw [← i,v]
 unfold fH.bS.t
 refine cK (b*4294967296) (by omega) (by omega) ?_
 refine cK (b*4294967296+c) (by omega) (by omega) ?_
 refine iH (k:=((a*4294967296 % 18446744073709551616:Nat):Int)) (by rw [wrap_u64];omega) ?_
 refine iH (k:=(((a*4294967296+d) % 18446744073709551616:Nat):Int)) (by rw [wrap_u64];omega) ?_
 refine iH (k:=((c*aY % 18446744073709551616:Nat):Int)) (by rw [wrap_u64,← Int.natCast_mul];omega) ?_
 refine iH (k:=(e:Int)) (by rw [wrap_u64];generalize c*aY=a5 at *;omega) ?_
 exact jS rfl F _ (by omega) rfl rfl g
theorem EK(dJ a:Nat):dJ*18446744073709551616+a / 4294967296*4294967296+a % 4294967296=dJ*18446744073709551616+a:=by omega
theorem AO{aK a6 k:Nat}(IB:aK < k)(i:a6 < 18446744073709551616)(j:k < 18446744073709551616)(Z:V):
  aG fH.id #[.int .u64 (aK:Int),.int .u64 (a6:Int),.int .u64 (k:Int)] Z fun v K=>K=Z∧uM v ((aK*18446744073709551616+a6) / k) ((aK*18446744073709551616+a6) % k):=by
 refine fH.ok ?_
 unfold fH.t fH.u.t
 refine fP (fun d=>absurd d (by omega)) fun d=>?_
 unfold fH.aD.t
 refine b1 (fun d=>absurd d (by omega)) fun d=>?_
 unfold fH.a4.t
 refine fP (fun o=>?_) fun o=>?_
 ·have O:aK=0:=by omega
  subst O
  have IN:=Nat.div_le_self a6 k
  refine⟨by omega,cK (a6 / k) (l0 _ _) (by omega) ?_⟩
  refine⟨by omega,iH (qR _ _) ?_⟩
  rw [Nat.zero_mul,Nat.zero_add];exact⟨rfl,rfl⟩
 ·refine bE (AM j _) fun v K ⟨IC,ID⟩=>?_
  subst IC;subst ID
  refine bJ rfl ?_
  have IP:dK k≤64:=hH.mpr j
  have IQ:=lY (show k ≠ 0 by omega)
  obtain⟨F,aZ⟩:∃ F,F=64 - dK k:=⟨_,rfl⟩
  rw [← aZ]
  have IS:F≤63:=by omega
  refine cK F rfl (by omega) ?_
  have f:0 < 2 ^ F:=Nat.pow_pos (by decide)
  have l:k*2 ^ F < 18446744073709551616:=by
   have:=hH (n:=k*2 ^ F) (U:=64)
   rw [tX F (by omega)] at this
   exact this.mp (by omega)
  have IT:9223372036854775808≤k*2 ^ F:=Nat.le_of_not_lt fun m=>by
   have:=(hH (n:=k*2 ^ F) (U:=63)).mpr m
   rw [tX F (by omega)] at this;omega
  have D:2 ^ F*2 ^ (64 - F)=18446744073709551616:=j8 (by omega)
  have EL:aK*2 ^ F+2 ^ F≤k*2 ^ F:=by
   have:=Nat.mul_le_mul_right (2 ^ F) IB
   rw [Nat.succ_mul] at this;exact this
  have IE:a6 / 2 ^ (64 - F) < 2 ^ F:=by
   rw [Nat.div_lt_iff_lt_mul (Nat.pow_pos (by decide)),D];exact i
  have IU:a6*2 ^ F=a6 / 2 ^ (64 - F)*18446744073709551616+a6*2 ^ F % 18446744073709551616:=by
   have O:a6*2 ^ F / 18446744073709551616=a6 / 2 ^ (64 - F):=by
    rw [← D,Nat.mul_comm a6,Nat.mul_div_mul_left _ _ f]
   have:=Nat.div_add_mod (a6*2 ^ F) 18446744073709551616
   rw [O] at this;omega
  have E:(aK*18446744073709551616+a6)*2 ^ F=(aK*2 ^ F+a6 / 2 ^ (64 - F))*18446744073709551616+a6*2 ^ F % 18446744073709551616:=by
   rw [Nat.add_mul,Nat.mul_right_comm]
   generalize aK*2 ^ F=a at *
   generalize a6*2 ^ F=N at *
   omega
  have IF:aK*2 ^ F ||| a6 / 2 ^ (64 - F)=aK*2 ^ F+a6 / 2 ^ (64 - F):=by
   rw [Nat.mul_comm,← Nat.two_pow_add_eq_or_of_lt IE]
  refine nC rfl F _ (by omega) rfl rfl ?_
  rw [Nat.mod_eq_of_lt l]
  refine jS rfl 32 4294967296 (by omega) (by decide) (by omega) ?_
  refine kD rfl l ?_
  refine nC rfl F _ (by omega) rfl rfl ?_
  rw [Nat.mod_eq_of_lt (show aK*2 ^ F < 18446744073709551616 by omega)]
  refine cK (64 - F) (by omega) (by omega) ?_
  refine jS rfl (64 - F) _ (by omega) rfl rfl ?_
  have IG:a6 / 2 ^ (64 - F) < 18446744073709551616:=Nat.lt_of_le_of_lt (Nat.div_le_self _ _) i
  refine uI rfl rfl (by omega) IG ?_
  rw [IF]
  refine nC rfl F _ (by omega) rfl rfl ?_
  have IH:a6*2 ^ F % 18446744073709551616 < 18446744073709551616:=Nat.mod_lt _ (by decide)
  refine jS rfl 32 4294967296 (by omega) (by decide) (by omega) ?_
  refine kD rfl IH ?_
  have II:(aK*18446744073709551616+a6) / k=((aK*2 ^ F+a6 / 2 ^ (64 - F))*18446744073709551616+a6*2 ^ F % 18446744073709551616) / (k*2 ^ F):=by
   rw [← E,Nat.mul_div_mul_right _ _ f]
  have IJ:(aK*18446744073709551616+a6) % k=((aK*2 ^ F+a6 / 2 ^ (64 - F))*18446744073709551616+a6*2 ^ F % 18446744073709551616) % (k*2 ^ F) / 2 ^ F:=by
   rw [← E,Nat.mul_mod_mul_right,Nat.mul_div_cancel _ f]
  have IK:aK*2 ^ F+a6 / 2 ^ (64 - F) < k*2 ^ F:=by omega
  rw [II,IJ]
  generalize aK*2 ^ F+a6 / 2 ^ (64 - F)=dJ at *
  generalize a6*2 ^ F % 18446744073709551616=b at *
  generalize k*2 ^ F=aY at *
  have G:2147483648≤aY / 4294967296:=by omega
  have IL:dJ / (aY / 4294967296)≤4294967297:=AN (eA:=aY % 4294967296) G (by omega) (by omega)
  refine⟨by omega,cK (dJ / (aY / 4294967296)) (l0 _ _) (by omega) ?_⟩
  have IV:dJ / (aY / 4294967296)*(aY / 4294967296)≤dJ:=Nat.div_mul_le_self _ _
  have IW:dJ % (aY / 4294967296)=dJ - dJ / (aY / 4294967296)*(aY / 4294967296):=by
   have:=Nat.div_add_mod dJ (aY / 4294967296)
   rw [Nat.mul_comm] at this;omega
  have m:=Nat.mod_lt dJ (show 0 < aY / 4294967296 by omega)
  refine cK (dJ / (aY / 4294967296)*(aY / 4294967296)) (by rw [Int.natCast_mul]) (by omega) ?_
  refine cK (dJ % (aY / 4294967296)) (by omega) (by omega) ?_
  refine⟨1+1,?_⟩
  refine EH (by omega) (by omega) (by omega) (by omega) ?_ 1 _ _ (l4.first (by omega) (by omega)) IL (by omega) (by omega)
  have H:aY / 4294967296*4294967296+aY % 4294967296=aY:=by omega
  rw [H]
  have e:0 < aY:=Nat.lt_of_le_of_lt (Nat.zero_le _) IK
  have g:(dJ*4294967296+b / 4294967296) / aY*aY+(dJ*4294967296+b / 4294967296) % aY=dJ*4294967296+b / 4294967296:=by rw [Nat.mul_comm];exact Nat.div_add_mod _ _
  have P:=Nat.mod_lt (dJ*4294967296+b / 4294967296) e
  have Iv:(dJ*4294967296+b / 4294967296) / aY < 4294967296:=by
   rw [Nat.div_lt_iff_lt_mul e];omega
  obtain⟨Iw,Ix⟩:∃ Iw,Iw=(dJ*4294967296+b / 4294967296) / aY:=⟨_,rfl⟩
  obtain⟨c,Iy⟩:∃ c,c=(dJ*4294967296+b / 4294967296) % aY:=⟨_,rfl⟩
  rw [← Ix,← Iy] at g
  rw [← Iy] at P
  rw [← Ix] at Iv ⊢
  have Iz:(c*4294967296+b % 4294967296) / aY*aY+(c*4294967296+b % 4294967296) % aY=c*4294967296+b % 4294967296:=by rw [Nat.mul_comm];exact Nat.div_add_mod _ _
  have IA:=Nat.mod_lt (c*4294967296+b % 4294967296) e
  have IM:(c*4294967296+b % 4294967296) / aY < 4294967296:=by
   rw [Nat.div_lt_iff_lt_mul e];omega
  refine EJ H.symm (by omega) (by omega) G (by omega) (by omega) g P Iv Iz IA IM ?_
  have h:=w4 (EI g Iz) IA
  rw [EK] at h
  rw [h.1,h.2];exact⟨rfl,rfl⟩
def pF(S:List Nat)(L:Nat):List Nat × Int × Int:=if g5 S then(if L=0 then([],0,4) else(z (val S / L),((val S % L:Nat):Int),0)) else([],0,2)
abbrev sA:h4 (List Nat × Int × Int):=nA r2 (lB .u64) (lB .i64)
theorem sA.elim{o Z:V}{v:Value}{y:List Nat × Int × Int}{A:R→Nat→Nat→Int→Int→Prop}(a:sA o Z v y)(g:∀ a c,cH dB o Z a c y.1→A a y.1.length c y.2.1 y.2.2):
  cO v fun k=>cL k fun b eD=>aE b fun a l c=>cL eD fun d e=>aC .u64 d fun Q=>cL e fun f h=>aC .i64 f fun a5=>bG h (A a l c Q a5):=by
 obtain⟨Q,k,a5,O,⟨a,c,i,C⟩,⟨j,_⟩,m,_⟩:=a
 subst O;subst i;subst j;subst m;exact g a c C
theorem EM{Y:J}{a:R}{c l L a5 k:Nat}{S:List Nat}{o:V}{x:Nat}(C:bU o a c S)(E:l=S.length)(j:o.size≤x)(IB:S.length≤8192)(G:L < 18446744073709551616)(IC:a5=S.length)(ID:k=S.length)
  (g:∀ v K,a2 o K→sA o K v (z (val S / L),((val S % L:Nat):Int),0)→Y v K) :
  ∀ (n le:Nat) (aF:List Nat) (Z:V),n≤S.length→aF.length=S.length→le < L→eX Z x aF→a2 o Z→val (aF.drop n)*L+le=val (S.drop n)→
   h7.a8.t Y (n+1) a l c (L:Int) (some ⟨x,0,none⟩) a5 k (le:Int) ((n:Int) - 1) Z:=by
 subst E
 intro n
 induction n with
 | zero=>
  intro le aF Z H P b d e O
  unfold h7.a8.t h7.bS.t
  refine b1 (fun f=>absurd f (by omega)) fun _=>?_
  rw [List.drop_zero,List.drop_zero] at O
  have m:=w4 O b
  unfold h7.aD.t
  refine bE (pA (d.j9 (c:=k) j (by omega)) (by omega)) fun v K ⟨i,h⟩=>?_
  subst i
  have Iv:(z (val aF)).length≤8192:=by
   rw [kT d.words]
   have:=rY aF;omega
  have Iw:eF (val aF)=(z (val aF),0):=by unfold eF;rw [if_pos Iv]
  rw [Iw] at h
  refine h.g9 fun a c C _=>?_
  refine g _ _ e ?_
  rw [m.1,m.2];exact⟨_,_,_,rfl,⟨_,_,rfl,C⟩,⟨rfl,by rw [r4];show 0≤(le:Int)∧(le:Int) < 18446744073709551616;omega⟩,rfl,(by decide:In .i64 0)⟩
 | succ n bD=>
  intro le aF Z H P b d e O
  have Ix:S.getD n 0 < 18446744073709551616:=C.word n
  unfold h7.a8.t h7.bS.t
  refine b1 (fun f=>?_) fun f=>absurd (by omega) f
  refine eW (C.I e) (M:=n) (by omega) rfl (by omega) ?_
  refine bE (AO b Ix G _) fun v K ⟨i,h⟩=>?_
  subst i
  refine h.elim ?_
  have D:0 < L:=Nat.lt_of_le_of_lt (Nat.zero_le _) b
  have Iy:(le*18446744073709551616+S.getD n 0) / L < 18446744073709551616:=by
   rw [Nat.div_lt_iff_lt_mul D];omega
  have IE:=Nat.div_add_mod (le*18446744073709551616+S.getD n 0) L
  have Iz:=Nat.mod_lt (le*18446744073709551616+S.getD n 0) D
  refine j7 d (M:=n) (by omega) (by omega) (by omega) rfl Iy fun s=>?_
  refine b9 ((n:Int) - 1) (by omega) (by omega) (by omega) ?_
  refine bD _ _ _ (by omega) (by simp;omega) Iz s (e.set j) ?_
  have IA:(aF.set n ((le*18446744073709551616+S.getD n 0) / L)).drop n=(le*18446744073709551616+S.getD n 0) / L :: aF.drop (n+1):=by
   rw [gU (by simp;omega),List.drop_set_of_lt (by omega)]
   simp [List.getD,show n < aF.length by omega]
  rw [IA,gU (S:=S) (by omega)]
  simp only [val]
  rw [Nat.add_mul,Nat.mul_assoc,Nat.mul_comm _ L]
  generalize L*((le*18446744073709551616+S.getD n 0) / L)=IF at *
  generalize (le*18446744073709551616+S.getD n 0) % L=a7 at *
  generalize val (aF.drop (n+1))*L=q at *
  omega
theorem AP{a:R}{c l L:Nat}{S:List Nat}{Z:V}(C:bU Z a c S)(d:l=S.length)(f:L < 18446744073709551616):
  aG h7.id #[.slice a l c,.int .u64 (L:Int)] Z fun v K=>a2 Z K∧sA Z K v (pF S L):=by
 refine h7.ok ?_
 unfold h7.t h7.u.t
 refine bE (kY C d) fun v K ⟨g,h⟩=>?_
 subst g;subst h;subst d
 refine bK rfl ?_
 have nil:∀ Q:Int,In .i64 Q→sA K K (.tuple #[.slice none 0 0,.int .u64 0,.int .i64 Q]) ([],0,Q):=fun Q T=>⟨_,_,_,rfl,⟨none,0,rfl,cH.nil _ _⟩,⟨rfl,(by decide:In .u64 0)⟩,rfl,T⟩
 refine kU (fun b=>⟨a2.refl _,?_⟩) fun b=>?_
 ·unfold pF;rw [if_neg (of_decide_eq_false b)];exact nil 2 (by decide)
 have e:=of_decide_eq_true b
 have i:=e.1
 unfold pF;rw [if_pos e]
 refine fP (fun o=>⟨a2.refl _,?_⟩) fun o=>?_
 ·rw [if_pos (by omega)];exact nil 4 (by decide)
 have j:¬ L=0:=by omega
 simp only [if_neg j]
 refine k8 S.length rfl rfl rfl rfl (by omega) fun aI s U=>?_
 unfold h7.a4.t
 refine b9 ((S.length:Int) - 1) rfl (by omega) (by omega) ?_
 refine⟨S.length+1,?_⟩
 refine EM C rfl (Nat.le_refl _) i f rfl rfl (fun v K U m=>⟨U,m⟩) S.length 0 _ aI (Nat.le_refl _) (by simp) (by omega) s U ?_
 rw [List.drop_length,List.drop_of_length_le (by simp)];simp [val]
section
variable {a N:R} {c aB l m:Nat} {S w:List Nat} {Z:V}
end
theorem AQ{a3:FuncId}{args:Array Value}{Z:V}{dC:Value→Prop}(a:aG a3 args Z fun v K=>K=Z∧dC v){cG:Value→V→Prop}(g:∀ v,dC v→cG v Z):aG a3 args Z fun v K=>a2 Z K∧cG v K:=
 bE a fun v K ⟨O,F⟩=>by subst O;exact⟨a2.refl _,g v F⟩
theorem AR{Q:Int}(T:In .u64 Q):Q=((Q.toNat:Nat):Int)∧Q.toNat < 18446744073709551616:=by
 rw [r4] at T;omega
section
variable {a N:R} {c aB l m:Nat} {S w:List Nat} {Z:V} {Q:Int}
theorem EN(aH aY:Nat):In .i64 (e4 aH aY):=by unfold e4;split <;> (try split) <;> decide
end
theorem uP{Z:V}{x off l:Nat}{a bB a7:List Nat}(s:c0 dB Z x (a ++ (bB ++ a7)))(b:a.length=off)(d:l=bB.length)(e:bB.length≤35184372088828){T:Int}{M:Nat}(aK:T=(M:Int))(f:M < bB.length){A:Int→Prop}
  (g:A (bB.getD M 0:Nat)):cC (some ⟨x,off,none⟩) l T 1 fun x=>gI Z x fun v=>aC .u64 v A:=by
 have C:=s.wN (off:=off) (n:=bB.length) (c:=bB.length) e (by simp;omega) (Nat.le_refl _)
 have O:((a ++ (bB ++ a7)).drop off).take bB.length=bB:=by rw [← b,List.drop_left,List.take_left]
 rw [O] at C
 exact DH C aK d f g
def n7(a1:V)(x:Nat)(aI Z:V):Prop:=aV x a1 Z∧aV x aI Z
theorem AS{x y:Nat}{a1 Z K:V}(U:aV x a1 Z)(a:aV y Z K)(g:a1.size≤y)(d:y ≠ x):aV x a1 K:=
 ⟨Nat.le_trans U.le a.le,fun N b e=>(a.pre N (Nat.lt_of_lt_of_le b U.le) (by omega)).trans (U.pre N b e),fun m O=>by
  have c:=U.len m O
  have f:=a.pre x (z4 c) (fun O=>d O.symm)
  unfold o6 at *;rw [f];exact c⟩
theorem uQ{Z a1 aI:V}{x off l:Nat}{a bB a7:List Nat}(s:c0 dB Z x (a ++ (bB ++ a7)))(e:a.length=off)(j:l=bB.length)(b:n7 a1 x aI Z){T:Int}{M:Nat}(aK:T=(M:Int))(f:M < bB.length){Q:Int}{v:Nat}(h:Q=(v:Int))(i:v < 18446744073709551616){A:V→Prop}
  (g:∀ K,c0 dB K x (a ++ (bB.set M v ++ a7))→n7 a1 x aI K→A K):cC (some ⟨x,off,none⟩) l T 1 fun x=>bI Z x (.int .u64 Q) A:=by
 refine wO s aK (by omega) (by simp;omega) (by rw [h];rfl) i fun c d=>?_
 refine g _ ?_ ⟨b.1.trans d,b.2.trans d⟩
 have O:(a ++ (bB ++ a7)).set (off+M) v=a ++ (bB.set M v ++ a7):=by
  rw [← e,List.set_append_right _ _ (by omega),Nat.add_sub_cancel_left,List.set_append_left _ _ f]
 rw [O] at c;exact c
theorem w5{S:List Nat}{T:Nat}:val (S.take (T+1))=val (S.take T)+2 ^ (64*T)*S.getD T 0:=by
 by_cases aK:T < S.length
 ·rw [lV aK,gO,List.length_take,Nat.min_eq_left (by omega)];simp [val]
 ·rw [List.take_of_length_le (by omega),List.take_of_length_le (by omega)]
  simp [List.getD,show S.length≤T by omega]
theorem EO{a N:Nat}(b:a < 18446744073709551616)(b:N < 18446744073709551616):a*N≤340282366920938463426481119284349108225:=Nat.mul_le_mul (show a≤18446744073709551615 by omega) (show N≤18446744073709551615 by omega)
theorem AT{bB w:List Nat}{M L dJ c s c1 eG t:Nat}(a:M < bB.length)(aI:c+L*w.getD M 0+s+t=bB.getD M 0+18446744073709551616*(c1+eG))(O:val bB+L*val (w.take M)=dJ+(c+s)*2 ^ (64*M)):
  val (bB.set M t)+L*val (w.take (M+1))=dJ+(c1+eG)*2 ^ (64*(M+1)):=by
 have aZ:=jQ (aF:=bB) (M:=M) (v:=t) a
 rw [w5,h3]
 generalize 2 ^ (64*M)=P at *
 generalize bB.getD M 0=a5 at *
 have b:(c+L*w.getD M 0+s+t)*P=(a5+18446744073709551616*(c1+eG))*P:=by rw [aI]
 have d:(c+L*w.getD M 0+s+t)*P=(c+s)*P+L*(P*w.getD M 0)+t*P:=by
  have:L*(P*w.getD M 0)=L*w.getD M 0*P:=by rw [Nat.mul_comm P,Nat.mul_assoc]
  rw [this,← Nat.add_mul,← Nat.add_mul];congr 1;omega
 have e:(a5+18446744073709551616*(c1+eG))*P=a5*P+(c1+eG)*(18446744073709551616*P):=by
  rw [Nat.add_mul,Nat.mul_comm 18446744073709551616,Nat.mul_assoc]
 rw [Nat.mul_add]
 omega
theorem AU{S:List Nat}{n:Nat}(Z:S.length=n):S.getD n 0=0:=by simp [List.getD,show S.length≤n by omega]
theorem EP{Y:J}{N:R}{c aB n x off L dJ:Nat}{w i a7:List Nat}{a1 aI:V}(F:bU a1 N aB w)(H:w.length=n)(f:i.length=off)(Iz:eU x N)(P:L < 18446744073709551616)(IG:n < 35184372088820)
  (g:∀ Z s bB,s≤1→bB.length=n+1→c0 dB Z x (i ++ (bB ++ a7))→n7 a1 x aI Z→val bB+L*val w=dJ+s*2 ^ (64*(n+1))→Y (.int .u64 (s:Int)) Z) :
  ∀ (U M b s:Nat) (bB:List Nat) (Z:V),M+U=n→bB.length=n+1→b < 18446744073709551616→s≤1→c0 dB Z x (i ++ (bB ++ a7))→n7 a1 x aI Z→val bB+L*val (w.take M)=dJ+(b+s)*2 ^ (64*M)→
   kF.a8.t Y (U+1) (some ⟨x,off,none⟩) (n+1) c N n aB (L:Int) (b:Int) (s:Int) (n:Int) (M:Int) Z:=by
 intro U
 induction U with
 | zero=>
  intro M b s bB Z IA d Iv j e h O
  have IB:M=n:=by omega
  subst IB
  have IC:bB.getD M 0 < 18446744073709551616:=kV (by decide) (fun Q l=>e.ok Q (List.mem_append_right _ (List.mem_append_left _ l))) M
  unfold kF.a8.t kF.bS.t
  refine b1 (fun m=>absurd m (by omega)) fun _=>?_
  unfold kF.aD.t
  refine uP e f d.symm (by omega) rfl (by omega) ?_
  refine qV rfl rfl rfl j Iv ?_
  refine uQ e f d.symm h rfl (by omega) rfl (Nat.mod_lt _ (by decide)) fun D E G=>?_
  refine g D _ _ (by split <;> omega) (by simp [d]) E G ?_
  have Iw:=AT (w:=w) (L:=L) (dJ:=dJ) (c:=b) (s:=s) (c1:=0) (eG:=if bB.getD M 0 < b+s then 1 else 0) (t:=(bB.getD M 0+18446744073709551616 - b - s) % 18446744073709551616) (show M < bB.length by omega) (by rw [AU H,Nat.mul_zero];split <;> omega) O
  rw [List.take_of_length_le (by omega),Nat.zero_add] at Iw
  exact Iw
 | succ U bD=>
  intro M b s bB Z IA d Iv j e h O
  have IC:bB.getD M 0 < 18446744073709551616:=kV (by decide) (fun Q l=>e.ok Q (List.mem_append_right _ (List.mem_append_left _ l))) M
  have Ix:=F.word M
  have ID:=EO P Ix
  unfold kF.a8.t kF.bS.t
  refine b1 (fun _=>?_) fun m=>absurd (by omega) m
  refine eW (F.aJ Iz h.1) (M:=M) rfl H.symm (by omega) ?_
  refine bE (w3 Ix P Z) fun v K ⟨IE,IF⟩=>?_
  subst IE
  refine IF.elim ?_
  rw [Nat.mul_comm (w.getD M 0) L]
  obtain⟨y,Iy⟩:∃ y,y=L*w.getD M 0:=⟨_,rfl⟩
  rw [← Iy] at ID ⊢
  refine mU (a:=y % 18446744073709551616) (N:=b) (c:=0) rfl rfl rfl (by decide) ?_
  refine cK (y / 18446744073709551616+(y % 18446744073709551616+b+0) / 18446744073709551616) (by omega) (by omega) ?_
  refine uP e f d.symm (by omega) rfl (by omega) ?_
  refine qV rfl rfl rfl j (Nat.mod_lt _ (by decide)) ?_
  refine uQ e f d.symm h rfl (by omega) rfl (Nat.mod_lt _ (by decide)) fun D E G=>?_
  refine b9 ((M+1:Nat):Int) (by omega) (by omega) (by omega) ?_
  refine bD (M+1) _ _ _ D (by omega) (by simp [d]) (by omega) (by split <;> omega) E G (AT (by omega) ?_ O)
  rw [← Iy]
  split <;> omega
theorem EQ{N:R}{c aB l m n x off L:Nat}{w a bB a7:List Nat}{a1 Z:V}(F:bU a1 N aB w)(d:w.length=n)(e:l=n+1)(f:m=n)(g:a.length=off)(h:eU x N)(i:L < 18446744073709551616)(j:n < 35184372088820)(D:bB.length=n+1)(E:c0 dB Z x (a ++ (bB ++ a7)))(G:aV x a1 Z):
  aG kF.id #[.slice (some ⟨x,off,none⟩) l c,.slice N m aB,.int .u64 (L:Int)] Z fun v K=>∃ (s:Nat) (b:List Nat),s≤1∧v=.int .u64 (s:Int)∧b.length=n+1∧c0 dB K x (a ++ (b ++ a7))∧n7 a1 x Z K∧val b+L*val w=val bB+s*2 ^ (64*(n+1)):=by
 subst e;subst f
 refine kF.ok ?_
 unfold kF.t kF.u.t kF.a4.t
 refine⟨m+1,EP (aI:=Z) (dJ:=val bB) F d g h i j (fun Iy s H P Iv Iw Ix O=>⟨s,H,P,rfl,Iv,Iw,Ix,O⟩) m 0 0 0 bB Z (by omega) D (by decide) (by decide) E ⟨G,aV.refl _ _⟩ (by simp [val])⟩
theorem AV{bB w:List Nat}{M cG c c1 t:Nat}(a:M < bB.length)(aI:c+bB.getD M 0+w.getD M 0=t+18446744073709551616*c1)(O:val bB+c*2 ^ (64*M)=cG+val (w.take M)):
  val (bB.set M t)+c1*2 ^ (64*(M+1))=cG+val (w.take (M+1)):=by
 have aZ:=jQ (aF:=bB) (M:=M) (v:=t) a
 rw [w5,h3]
 generalize 2 ^ (64*M)=P at *
 generalize bB.getD M 0=a5 at *
 have b:(c+a5+w.getD M 0)*P=(t+18446744073709551616*c1)*P:=by rw [aI]
 have d:(c+a5+w.getD M 0)*P=c*P+a5*P+P*w.getD M 0:=by rw [Nat.add_mul,Nat.add_mul,Nat.mul_comm P]
 have e:(t+18446744073709551616*c1)*P=t*P+c1*(18446744073709551616*P):=by rw [Nat.add_mul,Nat.mul_comm 18446744073709551616,Nat.mul_assoc]
 omega
theorem ER{Y:J}{N:R}{c aB n x off cG:Nat}{w h a7:List Nat}{a1 aI:V}(F:bU a1 N aB w)(E:w.length=n)(e:h.length=off)(H:eU x N)(Ix:n < 35184372088820)
  (g:∀ Z a bB,a≤1→bB.length=n+1→c0 dB Z x (h ++ (bB ++ a7))→n7 a1 x aI Z→val bB+a*2 ^ (64*(n+1))=cG+val w→Y (.int .u64 (a:Int)) Z) :
  ∀ (U M a:Nat) (bB:List Nat) (Z:V),M+U=n→bB.length=n+1→a≤1→c0 dB Z x (h ++ (bB ++ a7))→n7 a1 x aI Z→val bB+a*2 ^ (64*M)=cG+val (w.take M)→
   kG.a8.t Y (U+1) (some ⟨x,off,none⟩) (n+1) c N n aB (a:Int) (n:Int) (M:Int) Z:=by
 intro U
 induction U with
 | zero=>
  intro M a bB Z P b i d f O
  have Iv:M=n:=by omega
  subst Iv
  have Iw:bB.getD M 0 < 18446744073709551616:=kV (by decide) (fun Q j=>d.ok Q (List.mem_append_right _ (List.mem_append_left _ j))) M
  unfold kG.a8.t kG.bS.t
  refine b1 (fun l=>absurd l (by omega)) fun _=>?_
  unfold kG.aD.t
  refine uP d e b.symm (by omega) rfl (by omega) ?_
  refine mU (N:=0) rfl rfl rfl i ?_
  refine uQ d e b.symm f rfl (by omega) rfl (Nat.mod_lt _ (by decide)) fun m v D=>?_
  refine g m _ _ (by omega) (by simp [b]) v D ?_
  have G:=AV (w:=w) (cG:=cG) (c:=a) (c1:=(bB.getD M 0+0+a) / 18446744073709551616) (t:=(bB.getD M 0+0+a) % 18446744073709551616) (show M < bB.length by omega) (by rw [AU E];omega) O
  rw [List.take_of_length_le (by omega)] at G
  exact G
 | succ U bD=>
  intro M a bB Z P b i d f O
  have Iw:bB.getD M 0 < 18446744073709551616:=kV (by decide) (fun Q j=>d.ok Q (List.mem_append_right _ (List.mem_append_left _ j))) M
  have Iy:=F.word M
  unfold kG.a8.t kG.bS.t
  refine b1 (fun _=>?_) fun l=>absurd (by omega) l
  refine uP d e b.symm (by omega) rfl (by omega) ?_
  refine eW (F.aJ H f.1) (M:=M) rfl E.symm (by omega) ?_
  refine mU rfl rfl rfl i ?_
  refine uQ d e b.symm f rfl (by omega) rfl (Nat.mod_lt _ (by decide)) fun m v D=>?_
  refine b9 ((M+1:Nat):Int) (by omega) (by omega) (by omega) ?_
  exact bD (M+1) _ _ m (by omega) (by simp [b]) (by omega) v D (AV (by omega) (by omega) O)
theorem AW{N:R}{c aB l m n x off:Nat}{w a bB a7:List Nat}{a1 Z:V}(F:bU a1 N aB w)(e:w.length=n)(f:l=n+1)(g:m=n)(h:a.length=off)(i:eU x N)(j:n < 35184372088820)(D:bB.length=n+1)(E:c0 dB Z x (a ++ (bB ++ a7)))(G:aV x a1 Z):
  aG kG.id #[.slice (some ⟨x,off,none⟩) l c,.slice N m aB] Z fun v K=>∃ (b:Nat) (d:List Nat),b≤1∧v=.int .u64 (b:Int)∧d.length=n+1∧c0 dB K x (a ++ (d ++ a7))∧n7 a1 x Z K∧val d+b*2 ^ (64*(n+1))=val bB+val w:=by
 subst f;subst g
 refine kG.ok ?_
 unfold kG.t kG.u.t kG.a4.t
 refine⟨m+1,ER (aI:=Z) (cG:=val bB) F e h i j (fun Iy s H P Iv Iw Ix O=>⟨s,H,P,rfl,Iv,Iw,Ix,O⟩) m 0 0 bB Z (by omega) D (by decide) E ⟨G,aV.refl _ _⟩ (by simp [val])⟩
def n8(aK a6 aB:Nat):Nat:=if aB≤aK then 18446744073709551615 else(aK*18446744073709551616+a6) / aB
theorem ES{aK a6 aB:Nat}(a:a6 < 18446744073709551616):n8 aK a6 aB < 18446744073709551616:=by
 unfold n8
 split
 ·decide
 ·rw [Nat.div_lt_iff_lt_mul (by omega)]
  have:(aK+1)*18446744073709551616≤aB*18446744073709551616:=Nat.mul_le_mul_right _ (by omega)
  omega
theorem ET{aK a6 aB:Nat}(a:a6 < 18446744073709551616)(b:aB < 18446744073709551616)(Z:V):
  aG pG.id #[.int .u64 (aK:Int),.int .u64 (a6:Int),.int .u64 (aB:Int)] Z fun v K=>K=Z∧v=.int .u64 ((n8 aK a6 aB:Nat):Int):=by
 refine pG.ok ?_
 unfold pG.t pG.u.t
 refine b1 (fun c=>?_) fun c=>?_
 ·unfold n8;rw [if_pos (by omega)];exact⟨rfl,rfl⟩
 ·refine bE (AO (by omega) a b Z) fun v K ⟨O,d⟩=>?_
  subst O
  refine d.elim ?_
  unfold n8;rw [if_neg (by omega)];exact⟨rfl,rfl⟩
theorem EU{Y:J}{Iy:R→Nat→Nat→R→Nat→Nat→Int→R→Nat→Nat→Int→V→Prop}{N:R}{c fX aB Iz n a d D IA M dJ b6 uR:Nat}{w E a7 f:List Nat}{a1 aI:V}(F:bU a1 N aB w)(IB:w.length=n)(IC:E.length=M)(ID:eU a N)(IH:a1.size≤d)(i:d ≠ a)(IE:n < 35184372088820)(IW:0 < val w)
  (IX:val w*b6+uR=dJ) (IY:uR < val w) (IZ:dJ < 2 ^ (64*(n+1))) (I0:M < f.length) (I1:D=f.length) (II:b6 < 18446744073709551616)
  (g:∀ b bB,bB.length=n+1→c0 dB b a (E ++ (bB ++ a7))→aV a a1 b→val bB=uR→c0 dB b d (f.set M b6)→g6.dP.t Y Iy (some ⟨a,0,none⟩) Iz fX N n aB (n:Int) (some ⟨d,0,none⟩) D IA (M:Int) b) :
  ∀ (U L:Nat) (bB:List Nat) (Z:V),b6+(U+1)=L→L < 18446744073709551616→bB.length=n+1→c0 dB Z a (E ++ (bB ++ a7))→c0 dB Z d f→aV a a1 Z→val bB+L*val w=dJ+2 ^ (64*(n+1))→
   g6.fM.t Y Iy (U+1) (some ⟨a,0,none⟩) Iz fX N n aB (n:Int) (some ⟨d,0,none⟩) D IA (M:Int) (L:Int) (some ⟨a,M,none⟩) (n+1) c Z:=by
 intro U
 induction U with
 | zero=>
  intro L bB Z IF IJ G H P Iv O
  unfold g6.fM.t g6.gY.t
  refine cK (L - 1) (by omega) (by omega) ?_
  refine bE (AW F IB rfl rfl IC ID IE G H Iv) fun v b ⟨e,j,IK,cI,l,m,h,IL⟩=>?_
  subst cI
  refine bJ rfl ?_
  have IM:Words j:=fun Q IN=>m.ok Q (List.mem_append_right _ (List.mem_append_left _ IN))
  have IP:=gE IM
  rw [l] at IP
  have IQ:L*val w=val w*b6+val w:=by rw [← IF,Nat.add_mul,Nat.mul_comm b6];omega
  have Iw:e=1:=by
   rcases Nat.lt_or_ge e 1 with o | o
   ·have:e=0:=by omega
    subst this
    omega
   ·omega
  subst Iw
  refine fP (fun _=>?_) fun Ix=>absurd rfl Ix
  have IS:c0 dB b d f:=P.aJ i h.2
  have IT:L - 1=b6:=by omega
  rw [IT]
  refine uB IS (M:=M) (v:=b6) rfl (by omega) (by omega) rfl II fun IU IG=>?_
  exact g _ j l (m.aJ (fun O=>i O.symm) IG) (AS h.1 IG IH i) (by omega) IU
 | succ U bD=>
  intro L bB Z IF IJ G H P Iv O
  unfold g6.fM.t g6.gY.t
  refine cK (L - 1) (by omega) (by omega) ?_
  refine bE (AW F IB rfl rfl IC ID IE G H Iv) fun v b ⟨e,j,IK,cI,l,m,h,IL⟩=>?_
  subst cI
  refine bJ rfl ?_
  have IQ:L*val w=(L - 1)*val w+val w:=by
   have:L=L - 1+1:=by omega
   conv=>lhs;rw [this,Nat.add_mul,Nat.one_mul]
  have I2:dJ < (L - 1)*val w:=by
   have IV:(b6+1)*val w≤(L - 1)*val w:=Nat.mul_le_mul_right _ (by omega)
   rw [Nat.add_mul,Nat.one_mul,Nat.mul_comm] at IV
   omega
  have Iw:e=0:=by
   rcases Nat.lt_or_ge e 1 with o | o
   ·omega
   ·have:e=1:=by omega
    subst this
    omega
  subst Iw
  refine fP (fun Ix=>absurd Ix (by decide)) fun _=>?_
  exact bD (L - 1) j b (by omega) (by omega) l m (P.aJ i h.2) h.1 (by omega)
theorem AX{a:List Nat}{U b:Nat}(e:b≤2 ^ (64*U))(Z:val a < b)(c:Words a):val (a.drop U)=0∧val (a.take U)=val a:=by
 have O:val a=val (a.take U)+2 ^ (64*U)*val (a.drop U):=by
  by_cases d:U≤a.length
  ·conv=>lhs;rw [← List.take_append_drop U a]
   rw [gO,List.length_take,Nat.min_eq_left d]
  ·rw [List.take_of_length_le (by omega),List.drop_of_length_le (by omega)];simp [val]
 have o:val (a.drop U)=0:=by
  rw [jA c];exact Nat.div_eq_of_lt (by omega)
 rw [o] at O
 exact⟨o,by omega⟩
theorem uS{S:List Nat}(a:Words S){m:Nat}(b:S.length=m+1):val S / 2 ^ (64*m)=S.getD m 0:=by
 rw [← jA a,gU (by omega),List.drop_of_length_le (by omega)];simp [val]
theorem EV{S:List Nat}(a:Words S){m:Nat}(b:S.length=m+2):val S / 2 ^ (64*m)=S.getD m 0+18446744073709551616*S.getD (m+1) 0:=by
 rw [← jA a,gU (by omega),gU (by omega),List.drop_of_length_le (by omega)];simp [val]
theorem EW{bB w:List Nat}{n dJ:Nat}(c:Words bB)(d:Words w)(h:bB.length=n+1)(i:w.length=n)(j:0 < n)(l:w.getD (n - 1) 0 ≠ 0)(e:val bB=dJ)(a:dJ < 18446744073709551616*val w):
  dJ / val w≤n8 (bB.getD n 0) (bB.getD (n - 1) 0) (w.getD (n - 1) 0):=by
 have f:0 < val w:=by
  rcases Nat.eq_zero_or_pos (val w) with O | O
  ·rw [O] at a;omega
  ·exact O
 unfold n8
 split
 ·have:dJ / val w < 18446744073709551616:=by rw [Nat.div_lt_iff_lt_mul f];exact a
  omega
 ·have b:=uS d (m:=n - 1) (by omega)
  have g:=EV c (m:=n - 1) (by omega)
  rw [show n - 1+1=n by omega,e] at g
  rw [show bB.getD n 0*18446744073709551616+bB.getD (n - 1) 0=dJ / 2 ^ (64*(n - 1)) by omega,← b,Nat.div_div_eq_div_mul]
  refine Nat.div_le_div_left (Nat.mul_div_le _ _) ?_
  rw [b];exact Nat.mul_pos (Nat.pow_pos (by decide)) (by omega)
theorem EX{Y:J}{N:R}{aB n d h b fX gF:Nat}{w fL:List Nat}{a1:V}(F:bU a1 N aB w)(E:w.length=n)(IE:eU d N)(IU:a1.size≤h)(Iy:h ≠ d)(IV:n < 35184372088820)(Jl:0 < n)(IW:w.getD (n - 1) 0 ≠ 0)(JF:b < 35184372088820)(JG:b≤fX)(JH:n < b)
  (Jm:val fL=gF) (JI:fL.length=b) (IX:Words fL)
  (Jn:∀ Z a e,a.length=b→e.length=b - n→c0 dB Z d a→c0 dB Z h e→aV d a1 Z→val a=gF % val w→val e=gF / val w→Y (.slice (some ⟨h,0,none⟩) (b - n) (b - n)) Z) :
  ∀ (M:Nat) (a e:List Nat) (Z:V),M≤b - n→a.length=b→e.length=b - n→c0 dB Z d a→c0 dB Z h e→aV d a1 Z→a.take M=fL.take M→val (a.drop M) < val w→val (e.drop M)*val w+val (a.drop M)=gF / 2 ^ (64*M)→
   g6.eC.t Y (M+1) (some ⟨d,0,none⟩) b fX N n aB (n:Int) (some ⟨h,0,none⟩) (b - n) (b - n) ((M:Int) - 1) Z:=by
 have IY:=gE F.words
 rw [E] at IY
 have G:0 < val w:=by
  rcases Nat.eq_zero_or_pos (val w) with O | O
  ·exfalso
   have:=uS F.words (m:=n - 1) (by omega)
   rw [O,Nat.zero_div] at this;exact IW this.symm
  ·exact O
 intro M
 induction M with
 | zero=>
  intro a e Z Jo Iz IA H IF IB _ IC O
  unfold g6.eC.t g6.cW.t
  refine b1 (fun IG=>absurd IG (by omega)) fun _=>?_
  rw [List.drop_zero] at IC O
  rw [List.drop_zero,Nat.mul_zero,Nat.pow_zero,Nat.div_one] at O
  unfold g6.a4.t
  refine Jn Z a e Iz IA H IF IB ?_ ?_
  ·rw [← O,Nat.mul_comm,Nat.mul_add_mod,Nat.mod_eq_of_lt IC]
  ·rw [← O,Nat.mul_comm,Nat.mul_add_div G,Nat.div_eq_of_lt IC,Nat.add_zero]
 | succ M bD=>
  intro a e Z Jo Iz IA H IF IB IZ IC O
  have I0:Words a:=H.ok
  unfold g6.eC.t g6.cW.t
  refine b1 (fun _=>?_) fun IG=>absurd (by omega) IG
  unfold g6.dX.t
  have Jp:(((M+1:Nat):Int) - 1)=(M:Int):=by omega
  rw [Jp]
  obtain⟨f,IH⟩:∃ f,f=a.take M:=⟨_,rfl⟩
  obtain⟨bB,ID⟩:∃ bB,bB=(a.drop M).take (n+1):=⟨_,rfl⟩
  obtain⟨a7,II⟩:∃ a7,a7=a.drop (M+(n+1)):=⟨_,rfl⟩
  have I1:a=f ++ (bB ++ a7):=by
   rw [IH,ID,II,← List.drop_drop,List.take_append_drop,List.take_append_drop]
  have Iv:f.length=M:=by rw [IH,List.length_take];omega
  have I2:bB.length=n+1:=by rw [ID,List.length_take,List.length_drop];omega
  have JJ:a7.length=b - (M+(n+1)):=by rw [II,List.length_drop];omega
  have JK:val (a.drop M)=a.getD M 0+18446744073709551616*val (a.drop (M+1)):=jI a M
  have JL:a.getD M 0 < 18446744073709551616:=kV (by decide) I0 M
  have IJ:val (a.drop M) < 18446744073709551616*val w:=by omega
  have I3:val (a.drop M) < 2 ^ (64*(n+1)):=by
   rw [h3]
   calc val (a.drop M) < 18446744073709551616*val w:=IJ
    _≤18446744073709551616*2 ^ (64*n):=Nat.mul_le_mul_left _ (Nat.le_of_lt IY)
  have I4:Words (a.drop M):=fun Q j=>I0 Q (List.mem_of_mem_drop j)
  have I5:=AX (Nat.le_refl _) I3 I4
  have I6:val bB=val (a.drop M):=by rw [ID];exact I5.2
  have I7:Words bB:=fun Q j=>I4 Q (by rw [ID] at j;exact List.mem_of_mem_take j)
  have Jq:val a7=0:=by
   have:=I5.1
   rw [List.drop_drop] at this
   rw [II];exact this
  have I8:bU Z (some ⟨d,0,none⟩) b a:=(H.o8 (c:=b) (by show _≤35184372088828;omega) (by omega)).uA
  have I9:∀ T,T < n+1→a.getD (M+T) 0=bB.getD T 0:=by
   intro T aK
   rw [I1]
   simp only [List.getD]
   rw [List.getElem?_append_right (by omega),Iv,Nat.add_sub_cancel_left,List.getElem?_append_left (by omega)]
  refine b9 ((M+n:Nat):Int) (by omega) (by omega) (by omega) ?_
  refine eW I8 (M:=M+n) rfl Iz.symm (by omega) ?_
  refine b9 ((M+n:Nat):Int) (by omega) (by omega) (by omega) ?_
  refine b9 ((M+(n - 1):Nat):Int) (by omega) (by omega) (by omega) ?_
  refine eW I8 (M:=M+(n - 1)) rfl Iz.symm (by omega) ?_
  refine b9 ((n - 1:Nat):Int) (by omega) (by omega) (by omega) ?_
  refine eW (F.aJ IE IB) (M:=n - 1) rfl E.symm (by omega) ?_
  rw [I9 n (by omega),I9 (n - 1) (by omega)]
  have Ja:=tT I7 (n - 1)
  refine bE (ET Ja (F.word _) Z) fun v Jr ⟨Iw,Ix⟩=>?_
  subst Iw;subst Ix
  refine bJ rfl ?_
  have Jb:=EW I7 F.words I2 E Jl IW I6 IJ
  have IK:=ES (aK:=bB.getD n 0) (aB:=w.getD (n - 1) 0) Ja
  generalize n8 (bB.getD n 0) (bB.getD (n - 1) 0) (w.getD (n - 1) 0)=L at Jb IK ⊢
  refine b9 ((M+n:Nat):Int) (by omega) (by omega) (by omega) ?_
  refine b9 ((M+n+1:Nat):Int) (by omega) (by omega) (by omega) ?_
  have Js:∀ {A:R→Nat→Nat→Prop},A (some ⟨d,M,none⟩) (n+1) (fX - M)→gT 1 (some ⟨d,0,none⟩) b fX (some (.int .i64 (M:Int))) (some (.int .i64 ((M+n+1:Nat):Int))) none A:=by
   intro A g
   refine⟨⟨by omega,by omega⟩,⟨by omega,by omega⟩,?_⟩
   show A (g7 (some ⟨d,0,none⟩) fX ((M:Int)).toNat 1) ((((M+n+1:Nat):Int)).toNat - ((M:Int)).toNat) (fX - ((M:Int)).toNat)
   have Iw:(((M+n+1:Nat):Int)).toNat - ((M:Int)).toNat=n+1:=by omega
   have Ix:fX - ((M:Int)).toNat=fX - M:=by omega
   have l:g7 (some ⟨d,0,none⟩) fX ((M:Int)).toNat 1=some ⟨d,M,none⟩:=by
    unfold g7
    rw [if_neg (by omega),Int.toNat_natCast,Nat.mul_one]
    show some ((⟨d,0,none⟩:Addr).add M)=_
    rw [aT]
   rw [Iw,Ix,l];exact g
  refine Js ?_
  have Jt:c0 dB Jr d (f ++ (bB ++ a7)):=by rw [← I1];exact H
  have Jc:val (a.drop M) / val w < 18446744073709551616:=by rw [Nat.div_lt_iff_lt_mul G];exact IJ
  have Jd:=Nat.mod_lt (val (a.drop M)) G
  have Ju:=Nat.div_add_mod (val (a.drop M)) (val w)
  have Jv:a.take M=fL.take M:=by
   have:=congrArg (List.take M) IZ
   rwa [List.take_take,List.take_take,Nat.min_eq_left (by omega)] at this
  have Jw:a.getD M 0=fL.getD M 0:=by
   have Iw:(a.take (M+1)).getD M 0=a.getD M 0:=by simp [List.getD]
   have Ix:(fL.take (M+1)).getD M 0=fL.getD M 0:=by simp [List.getD]
   rw [← Iw,← Ix,IZ]
  have next:∀ D i,i.length=n+1→c0 dB D d (f ++ (i ++ a7))→aV d a1 D→val i=val (a.drop M) % val w→c0 dB D h (e.set M (val (a.drop M) / val w))→
    g6.dP.t Y (g6.eC.t Y (M+1)) (some ⟨d,0,none⟩) b fX N n aB (n:Int) (some ⟨h,0,none⟩) (b - n) (b - n) (M:Int) D:=by
   intro D i JM Jx Jy Jz IL
   unfold g6.dP.t
   refine b9 ((M:Int) - 1) (by omega) (by omega) (by omega) ?_
   have Je:(f ++ (i ++ a7)).drop M=i ++ a7:=by rw [← Iv,List.drop_left]
   have Jf:val (i ++ a7)=val (a.drop M) % val w:=by rw [gO,Jq,Jz];simp
   refine bD (f ++ (i ++ a7)) (e.set M (val (a.drop M) / val w)) D (by omega) (by simp;omega) (by simp [IA]) Jx IL Jy ?_ ?_ ?_
   ·have Jg:(f ++ (i ++ a7)).take f.length=f:=List.take_left
    rw [Iv] at Jg;rw [Jg,IH];exact Jv
   ·rw [Je,Jf];exact Jd
   ·rw [Je,Jf]
    have JA:(e.set M (val (a.drop M) / val w)).drop M=val (a.drop M) / val w :: e.drop (M+1):=by
     rw [gU (by simp;omega),List.drop_set_of_lt (by omega)]
     simp [List.getD,show M < e.length by omega]
    have JB:gF / 2 ^ (64*M)=fL.getD M 0+18446744073709551616*(gF / 2 ^ (64*(M+1))):=by
     rw [← Jm,← jA IX,← jA IX,jI]
    rw [JA,JB,← O,← Jw]
    simp only [val]
    rw [Nat.add_mul,Nat.mul_comm (val (a.drop M) / val w),Nat.mul_assoc]
    generalize val (e.drop (M+1))*val w=P at *
    omega
  refine bE (EQ (c:=fX - M) F E rfl rfl Iv IE IK IV I2 Jt IB) fun v IM ⟨s,IN,JN,cI,IP,IQ,IS,l⟩=>?_
  subst cI
  refine bJ rfl ?_
  rw [I6] at l
  have Jh:c0 dB IM h e:=IF.aJ Iy IS.2
  have JC:Words IN:=fun Q j=>IQ.ok Q (List.mem_append_right _ (List.mem_append_left _ j))
  have JD:=gE JC
  rw [IP] at JD
  refine fP (fun Ji=>?_) fun Jj=>?_
  ·have Ji:s=0:=by omega
   subst Ji
   have IT:L=val (a.drop M) / val w:=by
    refine Nat.le_antisymm ?_ Jb
    rw [Nat.le_div_iff_mul_le G];omega
   refine uB Jh (M:=M) (v:=val (a.drop M) / val w) rfl (by omega) (by omega) (by rw [IT];rfl) Jc fun IL Jk=>?_
   refine next _ IN IP (IQ.aJ (fun O=>Iy O.symm) Jk) (AS IS.1 Jk IU Iy) ?_ IL
   rw [IT,Nat.mul_comm] at l
   omega
  ·have Jj:s=1:=by omega
   subst Jj
   rw [Nat.one_mul] at l
   have IT:val (a.drop M) / val w < L:=by
    refine Nat.lt_of_not_le fun JE=>?_
    have:L*val w≤val (a.drop M) / val w*val w:=Nat.mul_le_mul_right _ JE
    rw [Nat.mul_comm (val (a.drop M) / val w)] at this
    omega
   refine⟨L - val (a.drop M) / val w - 1+1,?_⟩
   exact EU (aI:=IM) (dJ:=val (a.drop M)) (b6:=val (a.drop M) / val w) (uR:=val (a.drop M) % val w) F E Iv IE IU Iy IV G Ju Jd I3 (by omega) IA.symm Jc next _ L IN IM (by omega) IK IP IQ Jh IS.1 l
theorem EY{N:R}{aB l n c a fX:Nat}{w b:List Nat}{Z:V}(F:bU Z N aB w)(j:w.length=n)(m:l=n)(D:eU c N)(E:0 < n)(G:w.getD (n - 1) 0 ≠ 0)(H:a < 35184372088820)(P:a≤fX)(Iv:n < a)(h:b.length=a)(e:c0 dB Z c b)(Iw:val (b.drop (a - n)) < val w):
  aG g6.id #[.slice (some ⟨c,0,none⟩) a fX,.slice N l aB] Z fun v K=>∃ f g d,v=.slice (some ⟨f,0,none⟩) (a - n) (a - n)∧g.length=a∧d.length=a - n∧c0 dB K c g∧c0 dB K f d∧aV c Z K∧Z.size≤f∧val g=val b % val w∧val d=val b / val w:=by
 subst m
 have IG:=e.lt
 refine g6.ok ?_
 unfold g6.t g6.u.t g6.aD.t
 refine b9 ((a - l:Nat):Int) (by omega) (by omega) (by omega) ?_
 refine k8 (a - l) rfl rfl rfl rfl (by omega) fun aI Ix cQ=>?_
 unfold g6.bP.t
 refine b9 ((a - l:Nat):Int) (by omega) (by omega) (by omega) ?_
 refine b9 (((a - l:Nat):Int) - 1) rfl (by omega) (by omega) ?_
 refine⟨a - l+1,?_⟩
 rw [Int.toNat_natCast]
 have i:Words b:=e.ok
 refine EX (gF:=val b) (fL:=b) F j D (Nat.le_refl _) (by omega) (by omega) E G H P Iv rfl h i (fun IH Iy d Iz IA IB IC ID IE IF=>⟨Z.size,Iy,d,rfl,Iz,IA,IB,IC,ID,Nat.le_refl _,IE,IF⟩) (a - l) b (List.replicate (a - l) 0) aI (Nat.le_refl _) h (by simp) (e.I cQ) Ix.wS cQ.wK rfl Iw ?_
 rw [List.drop_of_length_le (by simp)]
 simp only [val,Nat.zero_mul,Nat.zero_add]
 exact jA i _
theorem EZ{F Q:Nat}(aZ:F≤64):Q / 2 ^ (64 - F)=Q*2 ^ F / 18446744073709551616:=by
 have O:18446744073709551616=2 ^ (64 - F)*2 ^ F:=by rw [← Nat.pow_add,show 64 - F+F=64 by omega]
 rw [O,Nat.mul_div_mul_right _ _ (Nat.pow_pos (by decide))]
theorem E0{Y:J}{n F e x:Nat}{fL:List Nat}{o:V}(j:o.size≤x)(IB:0 < F)(aZ:F < 64)(IC:fL.length=n)(ID:n < 35184372088820)(m:Words fL)(v:val fL*2 ^ F=e)(IE:e < 2 ^ (64*n))
  (D:∀ Z a,a.length=n→eX Z x a→a2 o Z→val a=e→Y (.slice (some ⟨x,0,none⟩) n n) Z) :
  ∀ (U T c:Nat) (a:List Nat) (Z:V),T+U=n→a.length=n→eX Z x a→a2 o Z→a.drop T=fL.drop T→c < 2 ^ F→val (a.take T)+c*2 ^ (64*T)=val (fL.take T)*2 ^ F→
   jW.a8.t Y (U+1) (F:Int) (some ⟨x,0,none⟩) n n (c:Int) (n:Int) (T:Int) Z:=by
 intro U
 induction U with
 | zero=>
  intro T c a Z aK b s f g d O
  unfold jW.a8.t jW.bS.t
  refine b1 (fun h=>absurd h (by omega)) fun _=>?_
  unfold jW.aD.t
  have E:T=n:=by omega
  subst E
  rw [List.take_of_length_le (by omega),List.take_of_length_le (by omega),v] at O
  have G:c=0:=by
   rcases Nat.eq_zero_or_pos c with o | o
   ·exact o
   ·have:1*2 ^ (64*T)≤c*2 ^ (64*T):=Nat.mul_le_mul_right _ o
    omega
  subst G
  exact D Z a b s f (by omega)
 | succ U bD=>
  intro T c a Z aK b s f g d O
  have i:a.getD T 0=fL.getD T 0:=by
   have:=congrArg (fun l=>l.headD 0) g
   simpa [tV] using this
  have H:=tT m T
  unfold jW.a8.t jW.bS.t
  refine b1 (fun _=>?_) fun h=>absurd (by omega) h
  have C:bU Z (some ⟨x,0,none⟩) n a:=s.rd (by omega)
  have Iv:c < 18446744073709551616:=Nat.lt_trans d (wJ aZ)
  refine eW C (M:=T) rfl b.symm (by omega) ?_
  rw [i]
  refine nC rfl F (2 ^ F) (by omega) rfl rfl ?_
  refine uI rfl rfl (Nat.mod_lt _ (by decide)) Iv ?_
  rw [Nat.or_comm,AF aZ d]
  refine eW C (M:=T) rfl b.symm (by omega) ?_
  rw [i]
  refine b9 ((64 - F:Nat):Int) (by omega) (by omega) (by omega) ?_
  refine jS rfl (64 - F) (2 ^ (64 - F)) (by omega) rfl rfl ?_
  rw [EZ (by omega)]
  have Iw:=AH (Q:=fL.getD T 0) aZ d
  have Ix:=AG (U:=F) H
  refine j7 s (M:=T) rfl b.symm (by omega) rfl Iw fun Iy=>?_
  refine b9 ((T+1:Nat):Int) (by omega) (by omega) (by omega) ?_
  refine bD (T+1) _ _ _ (by omega) (by simp [b]) Iy (aV.I f (aV.set _ _ _ _) j) ?_ Ix ?_
  ·rw [List.drop_set_of_lt (by omega),← List.drop_drop,← List.drop_drop,g]
  ·have Iz:(a.set T (fL.getD T 0*2 ^ F % 18446744073709551616+c)).take (T+1)=a.take T ++ [fL.getD T 0*2 ^ F % 18446744073709551616+c]:=mQ (by omega)
   rw [Iz,gO,List.length_take,Nat.min_eq_left (by omega),w5,Nat.add_mul,← O,h3]
   have IA:2 ^ (64*T)*fL.getD T 0*2 ^ F=fL.getD T 0*2 ^ F*2 ^ (64*T):=by rw [Nat.mul_assoc,Nat.mul_comm]
   rw [IA]
   generalize fL.getD T 0*2 ^ F=k
   generalize 2 ^ (64*T)=P
   simp only [val,Nat.mul_zero,Nat.add_zero]
   have IF:k*P=k % 18446744073709551616*P+k / 18446744073709551616*(18446744073709551616*P):=by
    rw [← Nat.mul_assoc,← Nat.add_mul];congr 1;omega
   rw [Nat.mul_add,Nat.mul_comm P,Nat.mul_comm P]
   omega
theorem AY(aF:List Nat)(m:Nat):val (aF ++ List.replicate m 0)=val aF:=by rw [gO,o7];simp
theorem AZ{a:R}{c l n F:Nat}{S:List Nat}{Z:V}(C:bU Z a c S)(g:l=S.length)(aZ:F < 64)(h:S.length≤n)(i:n < 35184372088820)(j:val S*2 ^ F < 2 ^ (64*n)):
  aG jW.id #[.slice a l c,.int .i64 (F:Int),.int .i64 (n:Int)] Z fun v K=>a2 Z K∧∃ x b,v=.slice (some ⟨x,0,none⟩) n n∧Z.size≤x∧eX K x b∧b.length=n∧val b=val S*2 ^ F:=by
 refine jW.ok ?_
 unfold jW.t jW.u.t
 refine k8 n rfl rfl rfl rfl (by omega) fun aI m cQ=>?_
 rw [Int.toNat_natCast]
 refine tU m (C.I cQ) (by simp) g (Nat.le_refl _) cQ fun D d f=>?_
 have E:List.take (List.replicate n 0).length S ++ List.drop S.length (List.replicate n 0)=S ++ List.replicate (n - S.length) 0:=by
  rw [List.length_replicate,List.take_of_length_le h,List.drop_replicate]
 rw [E] at d
 have e:(S ++ List.replicate (n - S.length) 0).length=n:=by simp;omega
 refine fP (fun G=>?_) fun G=>?_
 ·have:F=0:=by omega
  subst this
  exact⟨f,Z.size,_,rfl,Nat.le_refl _,d,e,by rw [AY];simp⟩
 ·unfold jW.a4.t
  refine⟨n+1,E0 (fL:=S ++ List.replicate (n - S.length) 0) (Nat.le_refl Z.size) (by omega) aZ e i d.words (by rw [AY]) j (fun Iw b H P Iv cI=>⟨Iv,Z.size,b,rfl,Nat.le_refl _,P,H,cI⟩) n 0 0 _ D (by omega) e d f rfl (Nat.pow_pos (by decide)) (by simp [val])⟩
theorem E1{N x:Nat}(Z:N ≠ x):eU x (some ⟨N,0,none⟩):=fun y O=>by cases O;exact Z
def pH(S w:List Nat):List Nat × List Nat × Int:=if g5 S∧g5 w then(if val w=0 then([],[],4) else(z (val S / val w),z (val S % val w),0)) else([],[],2)
abbrev qY:h4 (List Nat × List Nat × Int):=nA r2 r2 (lB .i64)
theorem qY.mk{o Z:V}{a N:R}{c aB l m:Nat}{S w:List Nat}{Q:Int}(C:cH dB o Z a c S)(F:cH dB o Z N aB w)(b:l=S.length)(d:m=w.length)(T:In .i64 Q):qY o Z (.tuple #[.slice a l c,.slice N m aB,.int .i64 Q]) (S,w,Q):=by
 subst b;subst d
 exact⟨_,_,_,rfl,⟨_,_,rfl,C⟩,⟨_,_,rfl,F⟩,rfl,T⟩
def lD(o Z:V)(v:Value)(y:List Nat × List Nat × Int):Prop:=qY o Z v y∧∀ a l c N m aB Q,v=.tuple #[.slice a l c,.slice N m aB,Q]→uF o.size Z.size Z [(a,l,c),(N,m,aB)] [y.1,y.2.1]
theorem lD.mk{o Z:V}{a N:R}{c aB l m:Nat}{S w:List Nat}{Q:Int}(U:Nat)(aI:o.size≤U)(b:U≤Z.size)(s:(fG o.size U Z (a,l,c) S∧fG U Z.size Z (N,m,aB) w)∨(fG U Z.size Z (a,l,c) S∧fG o.size U Z (N,m,aB) w))(T:In .i64 Q):
  lD o Z (.tuple #[.slice a l c,.slice N m aB,.int .i64 Q]) (S,w,Q):=by
 refine⟨?_,fun d e c1 f dM g h O=>?_⟩
 ·rcases s with ⟨y,x⟩ | ⟨y,x⟩
  ·exact qY.mk (fG.iO y (Nat.le_refl _)) (fG.iO x aI) y.1 x.1 T
  ·exact qY.mk (fG.iO y aI) (fG.iO x (Nat.le_refl _)) y.1 x.1 T
 ·simp only [Value.tuple.injEq,Array.mk.injEq,List.cons.injEq,Value.slice.injEq,and_true] at O
  obtain⟨⟨rfl,rfl,rfl⟩,⟨rfl,rfl,rfl⟩,rfl⟩:=O
  exact uF.pair aI b s
theorem lD.none{o Z:V}{Q:Int}(U:o.size≤Z.size)(T:In .i64 Q:=by decide):lD o Z (.tuple #[.slice Option.none 0 0,.slice Option.none 0 0,.int .i64 Q]) ([],[],Q):=
 lD.mk o.size (Nat.le_refl _) U (Or.inl ⟨fG.nil _ _ _,fG.nil _ _ _⟩) T
theorem E2{w:List Nat}(a3:cV w=w)(Z:w ≠ []):w.getD (w.length - 1) 0 ≠ 0:=(qL.mp a3).resolve_left Z
theorem E3{a N:R}{c aB l m:Nat}{S w:List Nat}{Z:V}(C:bU Z a c S)(F:bU Z N aB w)(I3:l=S.length)(I4:m=w.length):
  aG lE.id #[.slice a l c,.slice N m aB] Z fun v K=>a2 Z K∧lD Z K v (pH S w):=by
 subst I3;subst I4
 refine lE.ok ?_
 unfold lE.t lE.u.t
 refine bE (kY C rfl) fun v aI ⟨e,f⟩=>?_
 subst e;subst f
 refine bK rfl ?_
 refine kU (fun Ix=>⟨a2.refl _,?_⟩) fun Ix=>?_
 ·unfold pH;rw [if_neg (fun j=>of_decide_eq_false Ix j.1)];exact lD.none (Nat.le_refl _)
 refine bE (kY F rfl) fun v JK ⟨e,f⟩=>?_
 subst e;subst f
 refine bK rfl ?_
 refine kU (fun Iy=>⟨a2.refl _,?_⟩) fun Iy=>?_
 ·unfold pH;rw [if_neg (fun j=>of_decide_eq_false Iy j.2)];exact lD.none (Nat.le_refl _)
 have D:=of_decide_eq_true Ix
 have H:=of_decide_eq_true Iy
 have P:=D.z C.words
 have I5:=H.z F.words
 have II:=D.1;have I6:=H.1
 unfold lE.aD.t
 unfold pH
 rw [if_pos ⟨D,H⟩]
 refine fP (fun o=>⟨a2.refl _,?_⟩) fun o=>?_
 ·have:w=[]:=List.length_eq_zero_iff.mp (by omega)
  subst this
  rw [if_pos (show val []=0 from rfl)];exact lD.none (Nat.le_refl _)
 have IJ:w ≠ []:=fun O=>o (by subst O;rfl)
 have Iz:=E2 H.2 IJ
 have I7:0 < w.length:=List.length_pos_iff.mpr IJ
 have Iv:=uS F.words (m:=w.length - 1) (by omega)
 have IK:2 ^ (64*(w.length - 1))≤val w:=by
  refine Nat.le_of_not_lt fun j=>?_
  rw [Nat.div_eq_of_lt j] at Iv
  exact Iz Iv.symm
 have IL:val w ≠ 0:=by
  have:0 < 2 ^ (64*(w.length - 1)):=Nat.pow_pos (by decide)
  omega
 rw [if_neg IL]
 refine bE (w2 C F rfl rfl) fun v JL ⟨e,f⟩=>?_
 subst e;subst f
 refine bJ rfl ?_
 refine b1 (fun g=>?_) fun g=>?_
 ·have IM:val S < val w:=by unfold e4 at g;split at g <;> (try split at g) <;> omega
  refine bE (wW C rfl) fun v IA ⟨E,d⟩=>?_
  rw [D.eF C.words] at d
  refine d.g9 fun I8 I9 IB _=>⟨E,?_⟩
  rw [Nat.div_eq_of_lt IM,Nat.mod_eq_of_lt IM,cP,P]
  exact lD.mk _ (Nat.le_refl _) E.le (Or.inl ⟨fG.nil _ _ _,fG.r5 IB rfl (Nat.le_refl _) (Nat.le_refl _)⟩) (by decide)
 have Ja:val w≤val S:=by unfold e4 at g;split at g <;> (try split at g) <;> omega
 refine fP (fun aI=>?_) fun aI=>?_
 ·have Jb:w.length=1:=by omega
  have Jc:w.getD 0 0=val w:=by
   rw [Jb] at Iv
   simpa using Iv.symm
  have IN:=F.word 0
  refine eW F (M:=0) rfl rfl (by omega) ?_
  rw [Jc] at IN ⊢
  refine bE (AP C rfl IN) fun v IA ⟨E,d⟩=>?_
  have JM:=Nat.mod_lt (val S) (show 0 < val w by omega)
  have Jd:pF S (val w)=(z (val S / val w),((val S % val w:Nat):Int),0):=by unfold pF;rw [if_pos D,if_neg IL]
  rw [Jd] at d
  refine d.elim fun I8 I9 IB=>?_
  refine bE (AL (L:=val S % val w) (by omega) IA) fun v Je ⟨i,Jf⟩=>?_
  refine uE.g9 Jf fun JN JO Jg=>?_
  exact⟨E.trans i,lD.mk _ E.le i.le (Or.inl ⟨(fG.r5 IB rfl (Nat.le_refl _) (Nat.le_refl _)).I i,fG.r5 Jg rfl (Nat.le_refl _) (Nat.le_refl _)⟩) (by decide)⟩
 refine b9 ((w.length - 1:Nat):Int) (by omega) (by omega) (by omega) ?_
 refine eW F (M:=w.length - 1) rfl rfl (by omega) ?_
 have Jh:=F.word (w.length - 1)
 refine bE (AM Jh _) fun v IA ⟨e,f⟩=>?_
 subst e;subst f
 refine bJ rfl ?_
 have JP:=lY Iz
 have JQ:=r0 F.words (n:=w.length - 1) (by omega) Iz
 obtain⟨b,Ji⟩:∃ b,b=64 - dK (w.getD (w.length - 1) 0):=⟨_,rfl⟩
 rw [← Ji]
 have IP:b < 64:=by omega
 have JR:(2:Nat) ^ 64=18446744073709551616:=by decide
 have JS:dK (w.getD (w.length - 1) 0)≤64:=hH.mpr (by omega)
 refine b9 ((S.length+1:Nat):Int) (by omega) (by omega) (by omega) ?_
 have Jj:2 ^ b≤2 ^ 64:=Nat.pow_le_pow_right (by decide) (by omega)
 have h:0 < 2 ^ b:=Nat.pow_pos (by decide)
 have IQ:=gE C.words
 have Jk:val S*2 ^ b < 2 ^ (64*(S.length+1)):=by
  rw [Nat.mul_add,Nat.pow_add,Nat.mul_one]
  calc val S*2 ^ b < 2 ^ (64*S.length)*2 ^ b:=Nat.mul_lt_mul_of_pos_right IQ h
   _≤_:=Nat.mul_le_mul_left _ Jj
 have IS:val w*2 ^ b < 2 ^ (64*w.length):=by
  have aI:val w < 2 ^ (64*(w.length - 1)+dK (w.getD (w.length - 1) 0)):=hH.mp (by omega)
  have e:64*w.length=64*(w.length - 1)+dK (w.getD (w.length - 1) 0)+b:=by omega
  rw [e,Nat.pow_add]
  exact Nat.mul_lt_mul_of_pos_right aI h
 refine bE (AZ (n:=S.length+1) C rfl IP (by omega) (by omega) Jk) fun v Je ⟨i,IT,Jl,cI,Jm,IC,Jn,IU⟩=>?_
 subst cI
 refine aQ rfl ?_
 refine bE (AZ (n:=w.length) (F.I i) rfl IP (Nat.le_refl _) (by omega) IS) fun v Jo ⟨IV,IW,bN,cI,JT,IX,Jp,ID⟩=>?_
 subst cI
 refine aQ rfl ?_
 have Jq:bN.getD (w.length - 1) 0 ≠ 0:=by
  rw [← uS IX.words (m:=w.length - 1) (by omega),ID]
  have aI:2 ^ (64*(w.length - 1))≤val w*2 ^ b:=Nat.le_trans IK (Nat.le_mul_of_pos_right _ h)
  have:=Nat.div_pos aI (Nat.pow_pos (by decide))
  omega
 have JU:w.length≤S.length:=by
  rw [← P,← I5];exact lW Ja
 have Jr:val (Jl.drop (S.length+1 - w.length)) < val bN:=by
  rw [jA IC.words,IU,ID,Nat.div_lt_iff_lt_mul (Nat.pow_pos (by decide))]
  calc val S*2 ^ b < 2 ^ (64*S.length)*2 ^ b:=Nat.mul_lt_mul_of_pos_right IQ h
   _=2 ^ (64*(w.length - 1))*2 ^ b*2 ^ (64*(S.length+1 - w.length)):=by
    rw [← Nat.pow_add,← Nat.pow_add,← Nat.pow_add];congr 1;omega
   _≤_:=Nat.mul_le_mul_right _ (Nat.mul_le_mul_right _ IK)
 have JV:=IC.lt
 have Js:bU Jo (some ⟨IW,0,none⟩) w.length bN:=IX.rd (by omega)
 have Jt:IW ≠ IT:=by omega
 refine bE (EY Js Jp rfl (E1 Jt) I7 Jq (by omega) (Nat.le_refl _) (by omega) Jn (IC.I IV).wS Jr) fun v IY ⟨Ju,IZ,I0,cI,JW,Jv,I1,Jw,Jx,JX,G,eq⟩=>?_
 subst cI
 refine aQ rfl ?_
 rw [IU,ID] at G eq
 rw [Nat.mul_mod_mul_right] at G
 rw [Nat.mul_div_mul_right _ _ h] at eq
 have IE:val IZ < 2 ^ (64*w.length):=by
  rw [G]
  exact Nat.lt_trans (Nat.mul_lt_mul_of_pos_right (Nat.mod_lt _ (by omega)) h) IS
 have Jy:=AX (Nat.le_refl _) IE I1.ok
 refine rX rfl (by omega) ?_
 have Jz:bU IY (some ⟨IT,0,none⟩) (S.length+1) (IZ.take w.length):=((I1.o8 (c:=S.length+1) (by show _≤35184372088828;omega) (by omega)).uA).take _
 refine bE (wW Jz (by rw [List.length_take];omega)) fun v JY ⟨Iw,d⟩=>?_
 rw [Jy.2,G] at d
 have JZ:val S % val w < val w:=Nat.mod_lt _ (by omega)
 have I2:(z (val S % val w*2 ^ b)).length≤8192:=Nat.le_trans (e2.mpr (by rw [G] at IE;exact IE)) I6
 have JA:eF (val S % val w*2 ^ b)=(z (val S % val w*2 ^ b),0):=by unfold eF;rw [if_pos I2]
 rw [JA] at d
 refine d.elim fun J0 J1 JB=>?_
 refine bE (AJ JB rfl (by omega)) fun v JC ⟨IF,d⟩=>?_
 have JD:(z (val S % val w)).length≤8192:=Nat.le_trans (lW (Nat.mod_le _ _)) (by rw [P];exact II)
 have JE:pE (z (val S % val w*2 ^ b)) (b:Int)=(z (val S % val w),0):=by
  unfold pE
  rw [if_neg (by omega),if_pos ⟨I2,o3 _⟩,dZ,Int.toNat_natCast,Nat.mul_div_cancel _ h]
  unfold eF;rw [if_pos JD]
 rw [JE] at d
 refine d.g9 fun J2 J3 JF _=>?_
 have JG:bU JC (some ⟨Ju,0,none⟩) (S.length+1 - w.length) I0:=((Jw.o8 (c:=S.length+1 - w.length) (by show _≤35184372088828;omega) (by omega)).uA).I (Iw.trans IF)
 refine bE (wW JG Jv.symm) fun v J4 ⟨IG,d⟩=>?_
 have JH:(z (val S / val w)).length≤8192:=Nat.le_trans (lW (Nat.div_le_self _ _)) (by rw [P];exact II)
 have JI:eF (val I0)=(z (val S / val w),0):=by rw [eq];unfold eF;rw [if_pos JH]
 rw [JI] at d
 refine d.g9 fun J5 J6 JJ _=>?_
 have IH:a2 _ IY:=Jx.I (i.trans IV) Jm
 exact⟨IH.trans (Iw.trans (IF.trans IG)),lD.mk _ (IH.trans (Iw.trans IF)).le IG.le (Or.inr ⟨fG.r5 JJ rfl (Nat.le_refl _) (Nat.le_refl _),(fG.r5 JF rfl (IH.trans Iw).le (Nat.le_refl _)).I IG⟩) (by decide)⟩
theorem E4{a N:R}{c aB l m:Nat}{S w:List Nat}{Z:V}(C:bU Z a c S)(F:bU Z N aB w)(b:l=S.length)(d:m=w.length):
  aG lE.id #[.slice a l c,.slice N m aB] Z fun v K=>a2 Z K∧qY Z K v (pH S w):=
 bE (E3 C F b d) fun v K ⟨U,t⟩=>⟨U,t.1⟩
end Go.Proofs.Ytelmicicapbgeaa.G
