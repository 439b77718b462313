import Derived.Test.YtjijdlkpmngolaaGreatKM
import Derived.Test.YtjijdlkpmngolaaGreatKF
import Derived.Test.YtjijdlkpmngolaaGreatKB
set_option linter.unusedVariables false
namespace Go.Proofs.YtjijdlkpmngolaaGreat.G
open Go.Gv
set_option linter.unusedVariables false
structure nK(last m a K v L:Nat):Prop where
 le:L≤last
 eq:v=(a*L+K) % m
 least:∀ aT,aT≤last→v≤(a*aT+K) % m
theorem JF{last m K:Nat}(a3:K < m):nK last m 0 K K 0:=
 ⟨Nat.zero_le _,by rw [Nat.zero_mul,Nat.zero_add,Nat.mod_eq_of_lt a3],fun aT _=>by rw [Nat.zero_mul,Nat.zero_add,Nat.mod_eq_of_lt a3];exact Nat.le_refl _⟩
theorem JG{last m a K v L:Nat}(c:a < m)(Z:nK last m (m - a) ((K+a*last) % m) v L):nK last m a K v (last - L):=by
 have key:∀ aT,aT≤last→((m - a)*aT+(K+a*last) % m) % m=(a*(last - aT)+K) % m:=by
  intro aT b
  rw [Nat.add_mod_mod]
  have N:(m - a)*aT+(K+a*last)=a*(last - aT)+K+m*aT:=by
   have d:(m - a)*aT+a*aT=m*aT:=by rw [← Nat.add_mul,Nat.sub_add_cancel (Nat.le_of_lt c)]
   have e:a*(last - aT)+a*aT=a*last:=by rw [← Nat.mul_add,Nat.sub_add_cancel b]
   omega
  rw [N,Nat.add_mul_mod_self_left]
 refine⟨Nat.sub_le _ _,?_,fun aT b=>?_⟩
 ·rw [Z.eq,key L Z.le]
 ·have:=Z.least (last - aT) (Nat.sub_le _ _)
  rw [key (last - aT) (Nat.sub_le _ _),show last - (last - aT)=aT by omega] at this
  exact this
theorem JH{last m a K:Nat}(c:K < m)(Z:(a*last+K) / m=0):nK last m a K K 0:=by
 have d:∀ aT,aT≤last→(a*aT+K) % m=a*aT+K:=by
  intro aT b
  have a1:a*last+K < m:=by
   rcases Nat.div_eq_zero_iff.mp Z with Z | Z
   ·omega
   ·exact Z
  have e:=Nat.mul_le_mul_left a b
  exact Nat.mod_eq_of_lt (by omega)
 refine⟨Nat.zero_le _,?_,fun aT b=>?_⟩
 ·rw [Nat.mul_zero,Nat.zero_add,Nat.mod_eq_of_lt c]
 ·rw [d aT b];exact Nat.le_add_left _ _
def k3(m a:Nat):Nat:=if m % a=0 then 0 else a - m % a
theorem JI{m a:Nat}(b:0 < a):∃ E,m+k3 m a=a*E:=by
 have a1:=Nat.div_add_mod m a
 have c:=Nat.mod_lt m b
 unfold k3
 split
 ·exact⟨m / a,by omega⟩
 ·refine⟨m / a+1,?_⟩
  rw [Nat.mul_add,Nat.mul_one];omega
theorem JJ{m a:Nat}(b:0 < a):k3 m a < a:=by
 unfold k3;split <;> omega
theorem Fl{m a K aI aT t:Nat}(b:0 < a)(f:1≤aI)(Z:t+aI*m=a*aT+K):t % a=(k3 m a*(aI - 1)+(K+k3 m a) % a) % a:=by
 obtain⟨E,dA⟩:=JI (m:=m) b
 generalize k3 m a=aG at *
 rw [Nat.add_mod_mod]
 obtain⟨p,rfl⟩:∃ p,aI=p+1:=⟨aI - 1,by omega⟩
 rw [Nat.add_sub_cancel]
 have N:t+a*((p+1)*E)=aG*p+(K+aG)+a*aT:=by
  have c:a*((p+1)*E)=(p+1)*m+(p+1)*aG:=by
   rw [Nat.mul_left_comm,← dA,Nat.mul_add]
  have d:(p+1)*aG=aG*p+aG:=by rw [Nat.add_mul,Nat.one_mul,Nat.mul_comm]
  rw [c,d]
  omega
 have a1:(t+a*((p+1)*E)) % a=t % a:=Nat.add_mul_mod_self_left _ _ _
 have e:(aG*p+(K+aG)+a*aT) % a=(aG*p+(K+aG)) % a:=Nat.add_mul_mod_self_left _ _ _
 rw [← a1,N,e]
theorem Fm{last m a K v aD bR:Nat}(c:0 < a)(g:K < m)(d:bR=(a*last+K) / m)(a2:bR ≠ 0)(Z:nK (bR - 1) a (k3 m a) ((K+k3 m a) % a) v aD):∀ aT,aT≤last→K≤(a*aT+K) % m∨v≤(a*aT+K) % m:=by
 intro aT e
 have h:0 < m:=by omega
 have a1:=Nat.div_add_mod (a*aT+K) m
 have i:(a*aT+K) / m≤bR:=by
  rw [d];exact Nat.div_le_div_right (by have:=Nat.mul_le_mul_left a e;omega)
 generalize j:(a*aT+K) / m=aI at *
 generalize (a*aT+K) % m=t at *
 by_cases f:aI=0
 ·left;rw [f,Nat.mul_zero] at a1;have:=Nat.zero_le (a*aT);omega
 ·right
  have b:=Z.least (aI - 1) (by omega)
  rw [← Fl (aT:=aT) (t:=t) (aI:=aI) c (by omega) (by rw [Nat.mul_comm aI m];omega)] at b
  exact Nat.le_trans b (Nat.mod_le _ _)
theorem JK{last m a K v aD bR:Nat}(c:0 < a)(b:K < m)(d:bR=(a*last+K) / m)(a2:bR ≠ 0)(Z:nK (bR - 1) a (k3 m a) ((K+k3 m a) % a) v aD)(f:K≤v):nK last m a K K 0:=by
 refine⟨Nat.zero_le _,by rw [Nat.mul_zero,Nat.zero_add,Nat.mod_eq_of_lt b],fun aT e=>?_⟩
 rcases Fm c b d a2 Z aT e with a1 | a1 <;> omega
def sQ(F a:Nat):Nat:=if F % a=0 then F / a else F / a+1
theorem up_mul{F a:Nat}(b:0 < a):F≤a*sQ F a∧a*sQ F a < F+a:=by
 have a1:=Nat.div_add_mod F a
 have c:=Nat.mod_lt F b
 unfold sQ
 split
 ·omega
 ·rw [Nat.mul_add,Nat.mul_one];omega
theorem JL{last m a K v aD bR:Nat}(b:0 < a)(k:a < m)(e:K < m)(c:bR=(a*last+K) / m)(a2:bR ≠ 0)(Z:nK (bR - 1) a (k3 m a) ((K+k3 m a) % a) v aD)(l:v < K):nK last m a K v (sQ ((aD+1)*m - K) a):=by
 obtain⟨eL,n⟩:=up_mul (F:=(aD+1)*m - K) b
 have o:=Z.le
 have p:m≤(aD+1)*m:=Nat.le_mul_of_pos_left m (by omega)
 generalize q:sQ ((aD+1)*m - K) a=L at *
 obtain⟨t,d⟩:∃ t,t+(aD+1)*m=a*L+K:=⟨a*L+K - (aD+1)*m,by omega⟩
 have f:t < a:=by omega
 have b5:v=t:=by
  rw [Z.eq,← Nat.mod_eq_of_lt f,Fl (aI:=aD+1) (aT:=L) (K:=K) b (by omega) d,Nat.add_sub_cancel]
 have g:(a*L+K) % m=t:=by
  rw [← d,Nat.add_mul_mod_self_right,Nat.mod_eq_of_lt (by omega)]
 refine⟨?_,by rw [g,b5],fun aT h=>?_⟩
 ·have a1:=Nat.div_mul_le_self (a*last+K) m
  rw [← c] at a1
  have r:(aD+1)*m≤bR*m:=Nat.mul_le_mul_right m (by omega)
  refine Nat.le_of_not_lt fun i=>?_
  have j:=Nat.mul_le_mul_left a (show last+1≤L from i)
  rw [Nat.mul_add,Nat.mul_one] at j
  omega
 ·rcases Fm b e c a2 Z aT h with a1 | a1 <;> omega
theorem JM{last m a K:Nat}(b:a < m)(a3:K < m):(a*last+K) / m≤last:=by
 refine Nat.le_of_lt_succ ((Nat.div_lt_iff_lt_mul (by omega)).mpr ?_)
 have a1:a*last≤m*last:=Nat.mul_le_mul_right last (Nat.le_of_lt b)
 rw [Nat.succ_mul,Nat.mul_comm last m];omega
theorem JN{Y:aF}{a:S}{c l:Nat}{aC:List Nat}{Z:U}(r:cJ Z a c aC)(e:l=aC.length)(g:Y (.slice a (eA aC).length c) Z):
  ∀ n:Nat,n≤aC.length→eA (aC.take n)=eA aC→mW.cP.t Y (n+1) a l c (n:Int) Z:=by
 have a1:=r.len
 intro n
 have fin:∀ n:Nat,n≤aC.length→eA aC=aC.take n→mW.a5.t Y a l c (n:Int) Z:=by
  intro n b N
  refine w4 rfl (Nat.le_trans b r.cap) ?_
  have f:(eA aC).length=n:=by rw [N,List.length_take];omega
  rw [← f];exact g
 induction n with
 | zero=>
  intro b d
  unfold mW.cP.t mW.cF.t
  refine cE (fun Z=>absurd Z (by omega)) fun _=>fin 0 b ?_
  rw [← d];rfl
 | succ n bZ=>
  intro b d
  refine cE (fun _=>?_) fun Z=>absurd (by omega) Z
  refine cT (n:Int) (by omega) (by omega) (by omega) ?_
  refine gJ r (aD:=n) rfl e (by omega) ?_
  have es:=mV (aC:=aC) (n:=n) (by omega)
  refine gL (fun h=>?_) fun h=>?_
  ·refine cT (n:Int) (by omega) (by omega) (by omega) ?_
   refine bZ (by omega) ?_
   rw [← d,es,show aC.getD n 0=0 by omega,w5]
  ·refine fin (n+1) b ?_
   rw [← d,es,yU _ (by omega)]
theorem yV{a:S}{c l:Nat}{aC:List Nat}{Z:U}(r:cJ Z a c aC)(b:l=aC.length):
  a4 mW.id #[.slice a l c] Z fun v aB=>aB=Z∧v=.slice a (eA aC).length c∧cJ Z a c (eA aC):=by
 have d:cJ Z a c (eA aC):=by
  have:∀ n:Nat,n≤aC.length→eA (aC.take n)=eA aC→∃ m,eA aC=aC.take m:=by
   intro n
   induction n with
   | zero=>intro _ N;exact⟨0,by rw [← N];rfl⟩
   | succ n bZ=>
    intro e N
    have es:=mV (aC:=aC) (n:=n) (by omega)
    by_cases a2:aC.getD n 0=0
    ·refine bZ (by omega) ?_;rw [← N,es,a2,w5]
    ·refine⟨n+1,?_⟩;rw [← N,es,yU _ a2]
  obtain⟨m,N⟩:=this aC.length (Nat.le_refl _) (by rw [List.take_length])
  rw [N];exact r.take m
 refine mW.ok ?_
 unfold mW.t mW.aP.t
 refine⟨aC.length+1,?_⟩
 subst b
 exact JN r rfl ⟨rfl,rfl,d⟩ aC.length (Nat.le_refl _) (by rw [List.take_length])
theorem u5{a:S}{c l:Nat}{aC:List Nat}{a2 Z:U}(g:cX dL a2 Z a c aC)(b:l=aC.length):
  a4 oB.id #[.slice a l c] Z fun v aB=>aB=Z∧fB a2 Z v (fW (val aC)):=by
 have r:=g.eS
 refine oB.ok ?_
 unfold oB.t oB.aP.t
 refine cD (yV r b) fun v aB ⟨d,e,f⟩=>?_
 subst d;subst e
 have N:=mU r.words
 refine cE (fun a3=>?_) fun a3=>?_
 ·refine⟨rfl,?_⟩
  unfold fW;rw [N,if_neg (by omega)];exact fB.none
 ·refine⟨rfl,?_⟩
  unfold fW;rw [N,if_pos (by omega)];exact fB.mk rfl rfl g.trim (show In .i64 0 by decide)
theorem oC{a:S}{c l:Nat}{aC:List Nat}{Z:U}(r:cJ Z a c aC)(e:l=aC.length):
  a4 k4.id #[.slice a l c] Z fun v aB=>aB=Z∧v=.bool (decide (jM aC)):=by
 subst e
 have a1:=r.len
 refine k4.ok ?_
 unfold k4.t k4.aP.t
 refine cE (fun a3=>?_) fun a3=>?_
 ·refine gL (fun a2=>?_) fun a2=>?_
  ·refine⟨rfl,?_⟩
   have N:aC=[]:=List.length_eq_zero_iff.mp (by omega)
   subst N;rfl
  ·refine cT ((aC.length - 1:Nat):Int) (by omega) (by omega) (by omega) ?_
   refine gJ r (aD:=aC.length - 1) rfl rfl (by omega) ⟨rfl,?_⟩
   have d:=@w6 aC
   by_cases b:aC.getD (aC.length - 1) 0=0
   ·rw [b]
    have:¬ jM aC:=fun f=>by
     rcases d.mp f.2 with N | N
     ·subst N;simp at a2
     ·exact N b
    simp [this]
   ·have:jM aC:=⟨by omega,d.mpr (Or.inr b)⟩
    simp only [this,decide_true]
    congr 1
    exact bne_iff_ne.mpr (by omega)
 ·refine⟨rfl,?_⟩
  have:¬ jM aC:=fun f=>by have:=f.1;omega
  simp [this]
theorem CA{a:S}{c l:Nat}{aC:List Nat}{Z:U}(r:cJ Z a c aC)(e:l=aC.length):
  a4 rK.id #[.slice a l c] Z fun v aB=>bK Z aB∧fB Z aB v (fW (val aC)):=by
 refine rK.ok ?_
 unfold rK.t rK.aP.t
 refine cD (yV r e) fun v aB ⟨f,g,b⟩=>?_
 subst f;subst g
 have N:=mU r.words
 refine cE (fun a3=>?_) fun a3=>?_
 ·refine⟨bK.refl _,?_⟩
  unfold fW;rw [N,if_neg (by omega)];exact fB.none
 ·have a1:=b.len
  refine oD (eA aC).length rfl rfl rfl rfl a1 fun a1 aQ R=>?_
  refine AL aQ (b.aU R) (by simp) rfl (Nat.le_refl _) R fun j d h=>?_
  refine⟨h,?_⟩
  unfold fW;rw [N,if_pos (by omega)]
  have i:List.take (List.replicate (eA aC).length 0).length (eA aC) ++ List.drop (eA aC).length (List.replicate (eA aC).length 0)=eA aC:=by simp
  rw [i] at d
  exact fB.mk (by simp) rfl (d.nH (Nat.le_refl _) (by simp)) (show In .i64 0 by decide)
theorem JO{Y:aF}{a K:S}{c aZ l m:Nat}{aC aX:List Nat}{Z:U}(r:cJ Z a c aC)(aG:cJ Z K aZ aX)(d:l=aC.length)(e:m=aX.length)(f:aC.length=aX.length)(g:Y (.bool (decide (aC=aX))) Z):
  ∀ R n:Nat,n+R=aC.length→aC.take n=aX.take n→h8.bU.t Y (R+1) a l c K m aZ (n:Int) Z:=by
 subst d;subst e
 have a1:=r.len
 intro R
 induction R with
 | zero=>
  intro n h b
  refine cE (fun a3=>absurd a3 (by omega)) fun _=>?_
  have N:aC=aX:=by
   rw [← List.take_length (l:=aC),← List.take_length (l:=aX),← f,show aC.length=n by omega];exact b
  show Y (.bool true) Z
  simpa [N] using g
 | succ R bZ=>
  intro n h b
  refine cE (fun a3=>?_) fun a3=>absurd (by omega) a3
  refine gJ r (aD:=n) rfl rfl (by omega) ?_
  refine gJ aG (aD:=n) rfl rfl (by omega) ?_
  refine j8 (fun i=>?_) fun j=>?_
  ·have N:aC ≠ aX:=fun N=>i (by rw [N])
   simpa [N] using g
  ·refine cT ((n+1:Nat):Int) (by omega) (by omega) (by omega) ?_
   refine bZ (n+1) (by omega) ?_
   rw [mV (by omega),mV (by omega),b,show aC.getD n 0=aX.getD n 0 by omega]
theorem JP{a K:S}{c aZ l m:Nat}{aC aX:List Nat}{Z:U}(r:cJ Z a c aC)(aG:cJ Z K aZ aX)(b:l=aC.length)(d:m=aX.length):
  h9 h8.id #[.slice a l c,.slice K m aZ] Z fun v=>v=.bool (decide (aC=aX)):=by
 refine⟨.bool (decide (aC=aX)),?_,rfl⟩
 refine h8.ok ?_
 unfold h8.t h8.aP.t
 refine j8 (fun e=>?_) fun f=>?_
 ·have N:aC ≠ aX:=fun N=>e (by rw [b,d,N])
  simp [N]
 ·refine⟨l+1,?_⟩
  refine JO r aG b d (by omega) ⟨rfl,rfl⟩ l 0 (by omega) ?_
  simp
theorem JQ{a K:S}{c aZ l m:Nat}{aC aX:List Nat}{Z:U}(r:cJ Z a c aC)(aG:cJ Z K aZ aX)(b:l=aC.length)(d:m=aX.length){aH:Bool→Prop}(g:aH (decide (aC=aX))):
  h9 h8.id #[.slice a l c,.slice K m aZ] Z fun v=>eU v aH:=by
 obtain⟨v,e,N⟩:=JP r aG b d
 subst N
 exact⟨_,e,g⟩
theorem AM{L:Int}{aT:Int}{n:Nat}(a:L=(n:Int))(aG p:Nat)(bH:aG≤64)(b:p=2 ^ aG)(c:aT=(aG:Int)){aH:Int→Prop}(g:aH ((n / p:Nat):Int)):bB (hG .u64 L aT) aH:=by
 subst a;subst c;subst b
 refine⟨?_⟩
 show aH (Int.fdiv (n:Int) (2 ^ (min (aG:Int).toNat 64)))
 have N:min (aG:Int).toNat 64=aG:=by omega
 rw [N]
 have d:Int.fdiv (n:Int) (2 ^ aG)=((n / 2 ^ aG:Nat):Int):=by
  rw [Int.fdiv_eq_ediv_of_nonneg _ (Int.le_of_lt (Int.pow_pos (by decide)))]
  norm_cast
 rw [d];exact g
theorem kU{L aT:Int}(N:L=aT){aH:Int→Prop}(g:aH aT):bB L aH:=by subst N;exact⟨g⟩
theorem JR{aG:ByteArray}{L:Int}{n:Nat}{K:UInt8}(a:L=(n:Int))(N:aG[n]?=some K){aH:Int→Prop}(g:aH (K.toNat:Int)):x8 aG L aH:=by
 subst a
 refine⟨by omega,?_⟩
 rw [Int.toNat_natCast,N];exact g
theorem JS:(List.range 256).all (fun L=>decide ((⟨#[0,1,2,2,3,3,3,3,4,4,4,4,4,4,4,4,5,5,5,5,5,5,5,5,5,5,5,5,5,5,5,5,6,6,6,6,6,6,6,6,6,6,6,6,6,6,6,6,6,6,6,6,6,6,6,6,6,6,6,6,6,6,6,6,7,7,7,7,7,7,7,7,7,7,7,7,7,7,7,7,7,7,7,7,7,7,7,7,7,7,7,7,7,7,7,7,7,7,7,7,7,7,7,7,7,7,7,7,7,7,7,7,7,7,7,7,7,7,7,7,7,7,7,7,7,7,7,7,8,8,8,8,8,8,8,8,8,8,8,8,8,8,8,8,8,8,8,8,8,8,8,8,8,8,8,8,8,8,8,8,8,8,8,8,8,8,8,8,8,8,8,8,8,8,8,8,8,8,8,8,8,8,8,8,8,8,8,8,8,8,8,8,8,8,8,8,8,8,8,8,8,8,8,8,8,8,8,8,8,8,8,8,8,8,8,8,8,8,8,8,8,8,8,8,8,8,8,8,8,8,8,8,8,8,8,8,8,8,8,8,8,8,8,8,8,8,8,8,8,8,8,8,8,8,8,8]⟩:ByteArray)[L]?=some (UInt8.ofNat (eJ L))))=true:=by decide +kernel
theorem Fo{Y:aF}{n aG:Nat}{L aT:Int}(b:L=(n:Int))(c:aT=(aG:Int))(d:n < 256)(bH:aG≤64){Z:U}(g:Y (.int .i64 ((aG+eJ n:Nat):Int)) Z):nL.cF.t Y L aT Z:=by
 subst b;subst c
 unfold nL.cF.t
 have a3:eJ n≤8:=iL.mpr (by omega)
 have a:=List.all_eq_true.mp JS n (by simpa using d)
 have a:=of_decide_eq_true a
 have e:IntKind.u8.wrap (n:Int)=(n:Int):=by
  simp only [IntKind.wrap,IntKind.bits,IntKind.signed,Bool.false_and,Bool.false_eq_true,if_false];omega
 refine kU e ?_
 refine JR rfl a ?_
 have f:((UInt8.ofNat (eJ n)).toNat:Int)=(eJ n:Int):=by
  rw [UInt8.toNat_ofNat'];omega
 refine cT (eJ n:Int) f (by omega) (by omega) ?_
 refine cT ((aG+eJ n:Nat):Int) (by omega) (by omega) (by omega) ?_
 exact g
theorem Fp{L:Int}{n:Nat}(a:L=(n:Int))(f:n < 18446744073709551616)(Z:U):
  a4 nL.id #[.int .u64 L] Z fun v aB=>aB=Z∧v=.int .i64 (eJ n:Int):=by
 subst a
 refine nL.ok ?_
 unfold nL.t nL.aP.t
 have low:∀ (m aG:Nat) (L aT:Int),L=(m:Int)→aT=(aG:Int)→m < 65536→aG≤48→aG+eJ m=eJ n→nL.bM.t (fun v aB=>aB=Z∧v=.int .i64 (eJ n:Int)) L aT Z:=by
  intro m aG L aT a c e bH N
  subst a;subst c
  unfold nL.bM.t
  refine cE (fun a3=>⟨by omega,?_⟩) fun a3=>?_
  ·refine AM rfl 8 256 (by omega) (by omega) rfl ?_
   refine cT ((aG+8:Nat):Int) (by omega) (by omega) (by omega) ?_
   have:=u0 m 8
   have d:8 < eJ m:=Nat.lt_of_not_le fun b=>by have:=iL.mp b;omega
   refine Fo rfl rfl (by omega) (by omega) ⟨rfl,?_⟩
   rw [← N,show(256:Nat)=2 ^ 8 by decide,this]
   congr 2;omega
  ·refine Fo rfl rfl (by omega) (by omega) ⟨rfl,by rw [N]⟩
 have k5:∀ (m aG:Nat) (L aT:Int),L=(m:Int)→aT=(aG:Int)→m < 4294967296→aG≤32→aG+eJ m=eJ n→nL.a5.t (fun v aB=>aB=Z∧v=.int .i64 (eJ n:Int)) L aT Z:=by
  intro m aG L aT a c e bH N
  subst a;subst c
  unfold nL.a5.t
  refine cE (fun a3=>⟨by omega,?_⟩) fun a3=>?_
  ·refine AM rfl 16 65536 (by omega) (by omega) rfl ?_
   refine cT ((aG+16:Nat):Int) (by omega) (by omega) (by omega) ?_
   have:=u0 m 16
   have d:16 < eJ m:=Nat.lt_of_not_le fun b=>by have:=iL.mp b;omega
   refine low _ _ _ _ rfl rfl (by omega) (by omega) ?_
   rw [← N,show(65536:Nat)=2 ^ 16 by decide,this];omega
  ·exact low _ _ _ _ rfl rfl (by omega) (by omega) N
 refine cE (fun a3=>⟨by omega,?_⟩) fun a3=>?_
 ·refine AM rfl 32 4294967296 (by omega) (by omega) rfl ?_
  have:=u0 n 32
  have d:32 < eJ n:=Nat.lt_of_not_le fun b=>by have:=iL.mp b;omega
  refine k5 _ 32 _ _ rfl rfl (by omega) (by omega) ?_
  rw [show(4294967296:Nat)=2 ^ 32 by decide,this];omega
 ·exact k5 _ 0 _ _ rfl rfl (by omega) (by omega) (by omega)
theorem Fq{a:S}{c l:Nat}{aC:List Nat}{Z:U}(r:cJ Z a c aC)(g:l=aC.length):
  a4 pS.id #[.slice a l c] Z fun v aB=>aB=Z∧v=.int .i64 (eJ (val aC):Int):=by
 refine pS.ok ?_
 unfold pS.t pS.aP.t
 refine cD (yV r g) fun v aB ⟨e,f,d⟩=>?_
 subst e;subst f
 refine bL rfl ?_
 rw [← sN aC]
 have a1:=d.len
 refine gL (fun a2=>⟨rfl,?_⟩) fun a2=>?_
 ·have N:eA aC=[]:=List.length_eq_zero_iff.mp (by omega)
  rw [N];rfl
 ·obtain⟨n,b⟩:∃ n,(eA aC).length=n+1:=⟨(eA aC).length - 1,by omega⟩
  rw [b]
  refine cT (n:Int) (by omega) (by omega) (by omega) ?_
  refine cT ((64*n:Nat):Int) (by omega) (by omega) (by omega) ?_
  refine cT (n:Int) (by omega) (by omega) (by omega) ?_
  refine gJ d (aD:=n) rfl b.symm (by omega) ?_
  have h:(eA aC).getD n 0 ≠ 0:=by
   rcases w6.mp (CB aC) with N | N
   ·rw [N] at b;simp at b
   ·rwa [b] at N
  have a3:=yN d.words b h
  have i:eJ ((eA aC).getD n 0)≤64:=iL.mpr (d.word n)
  refine cD (Fp rfl (d.word n) _) fun v aB ⟨e,f⟩=>?_
  subst e;subst f
  refine b0 rfl ?_
  refine cT (eJ (val (eA aC)):Int) (by omega) (by omega) (by omega) ⟨rfl,rfl⟩
theorem rL{L aT:Int}{n:Nat}(a:L=(n:Int))(aG p:Nat)(bH:aG≤64)(b:p=2 ^ aG)(c:aT=(aG:Int)){aH:Int→Prop}(g:aH ((n*p % 18446744073709551616:Nat):Int)):0≤aT∧bB (iQ .u64 L aT) aH:=by
 subst a;subst c;subst b
 refine⟨by omega,⟨?_⟩⟩
 show aH (IntKind.u64.wrap ((n:Int)*2 ^ (min (aG:Int).toNat 64)))
 have N:min (aG:Int).toNat 64=aG:=by omega
 rw [N,wrap_u64]
 have d:((n:Int)*2 ^ aG) % 18446744073709551616=((n*2 ^ aG % 18446744073709551616:Nat):Int):=by
  have e:(2:Int) ^ aG=((2 ^ aG:Nat):Int):=by rw [Int.natCast_pow];rfl
  rw [e,← Int.natCast_mul];omega
 rw [d];exact g
theorem nM{L aT:Int}{n:Nat}(a:L=(n:Int))(aG p:Nat)(bH:aG≤64)(b:p=2 ^ aG)(c:aT=(aG:Int)){aH:Int→Prop}(g:aH ((n / p:Nat):Int)):0≤aT∧bB (hG .u64 L aT) aH:=
 ⟨by omega,AM a aG p bH b c g⟩
theorem AN(a:Nat):BitVec.ofInt 64 (a:Int)=BitVec.ofNat 64 a:=BitVec.ofInt_natCast 64 a
theorem AO{L aT:Int}{a K:Nat}(b:L=(a:Int))(c:aT=(K:Int))(d:a < 18446744073709551616)(a3:K < 18446744073709551616){aH:Int→Prop}(g:aH ((a ||| K:Nat):Int)):bB (wH .u64 L aT) aH:=by
 subst b;subst c
 refine⟨?_⟩
 show aH (IntKind.u64.wrap (BitVec.ofInt 64 (a:Int) ||| BitVec.ofInt 64 (K:Int)).toNat)
 have N:(BitVec.ofInt 64 (a:Int) ||| BitVec.ofInt 64 (K:Int)).toNat=a ||| K:=by
  rw [AN,AN,BitVec.toNat_or,BitVec.toNat_ofNat,BitVec.toNat_ofNat,Nat.mod_eq_of_lt (by omega),Nat.mod_eq_of_lt (by omega)]
 have dC:a ||| K < 18446744073709551616:=Nat.or_lt_two_pow (n:=64) d a3
 rw [N,CC (by omega) (by omega)];exact g
theorem Fs{L aT:Int}{a K:Nat}(b:L=(a:Int))(c:aT=(K:Int))(d:a < 18446744073709551616)(a3:K < 18446744073709551616){aH:Int→Prop}(g:aH ((a &&& K:Nat):Int)):bB (j1 .u64 L aT) aH:=by
 subst b;subst c
 refine⟨?_⟩
 show aH (IntKind.u64.wrap (BitVec.ofInt 64 (a:Int) &&& BitVec.ofInt 64 (K:Int)).toNat)
 have N:(BitVec.ofInt 64 (a:Int) &&& BitVec.ofInt 64 (K:Int)).toNat=a &&& K:=by
  rw [AN,AN,BitVec.toNat_and,BitVec.toNat_ofNat,BitVec.toNat_ofNat,Nat.mod_eq_of_lt (by omega),Nat.mod_eq_of_lt (by omega)]
 have dC:a &&& K≤a:=Nat.and_le_left
 rw [N,CC (by omega) (by omega)];exact g
theorem Ft{O a K:Nat}(Z:K < 2 ^ O):K ||| (2 ^ O*a)=2 ^ O*a+K:=by
 rw [Nat.or_comm,Nat.two_pow_add_eq_or_of_lt Z]
theorem dM{L:Int}(aT:Nat)(N:L=(aT:Int))(Z:aT < 18446744073709551616){aH:Int→Prop}(g:aH (aT:Int)):bB (IntKind.u64.wrap L) aH:=by
 subst N;refine⟨?_⟩;show aH _;rw [CC (by omega) (by omega)];exact g
theorem o4(n m:Nat):Int.tdiv (n:Int) (m:Int)=((n / m:Nat):Int):=by
 rw [Int.tdiv_eq_ediv_of_nonneg (by omega)];norm_cast
theorem sR(n m:Nat):Int.tmod (n:Int) (m:Int)=((n % m:Nat):Int):=by
 rw [Int.tmod_eq_emod_of_nonneg (by omega)];norm_cast
theorem u6{a K:Nat}(b:a < 4294967296)(a3:K < 4294967296):a*K≤18446744065119617025:=Nat.mul_le_mul (show a≤4294967295 by omega) (show K≤4294967295 by omega)
theorem oE{L:Int}{n:Nat}(a:L=(n:Int))(b:n < 18446744073709551616){aH:Int→Prop}(g:aH ((n % 4294967296:Nat):Int)):bB (j1 .u64 L 4294967295) aH:=by
 refine Fs (K:=4294967295) a rfl b (by decide) ?_
 have:n &&& 4294967295=n % 4294967296:=Nat.and_two_pow_sub_one_eq_mod n 32
 rw [this];exact g
theorem k6{L:Int}(aT:Nat)(N:L=(aT:Int))(Z:aT < 4294967296){aH:Int→Prop}(g:aH (aT:Int)):bB (IntKind.u32.wrap L) aH:=by
 subst N;refine⟨?_⟩;show aH _
 have:IntKind.u32.wrap (aT:Int)=(aT:Int):=by
  simp only [IntKind.wrap,IntKind.bits,IntKind.signed,Bool.false_and,Bool.false_eq_true,if_false];omega
 rw [this];exact g
theorem sS{L:Int}{n:Nat}(a:L=(n:Int)){aH:Int→Prop}(g:aH ((n / 4294967296:Nat):Int)):0≤(32:Int)∧bB (hG .u64 L 32) aH:=
 nM a 32 4294967296 (by decide) (by decide) rfl g
theorem CD{L:Int}{n:Nat}(a:L=(n:Int))(b:n < 4294967296){aH:Int→Prop}(g:aH ((n*4294967296:Nat):Int)):0≤(32:Int)∧bB (iQ .u64 L 32) aH:=by
 refine rL a 32 4294967296 (by decide) (by decide) rfl ?_
 rw [Nat.mod_eq_of_lt (by omega)];exact g
theorem sT{a2 Z:U}{a:S}{l c n:Nat}{L:Int}{aC:List Nat}(g:cX cA a2 Z a c aC)(e:bK a2 Z)(f:l=aC.length)(h:L=(n:Int))(i:n < 4294967296)(j:aC.length+1≤70368744177656)(k:c < aC.length+1→aC.length+1≤35184372088832){aH:S→Nat→Nat→U→Prop}
  (post:∀ b dI aB,cX cA a2 aB b dI (aC ++ [n])→bK a2 aB→(aC.length+1≤c→dI=c)→aH b (aC.length+1) dI aB):dX Z 89 [.int .u32 L] fun aI m=>g3 m 89 iW a l c (.slice (some aI) 1 1) aH:=
 Fb cA g e [n] (by rw [h];rfl) (fun aT d=>by rw [List.mem_singleton] at d;subst d;exact i) f rfl rfl 0 rfl qR 4 rfl (by decide) j (fun Z=>by have:=k (by simpa using Z);simp;omega) post
theorem CE{a2 Z:U}{a:S}{l c n:Nat}{L:Int}{aC:List Nat}(g:cX dL a2 Z a c aC)(e:bK a2 Z)(f:l=aC.length)(h:L=(n:Int))(i:n < 18446744073709551616)(j:aC.length+1≤35184372088828)(k:c < aC.length+1→aC.length+1≤17592186044416){aH:S→Nat→Nat→U→Prop}
  (post:∀ b dI aB,cX dL a2 aB b dI (aC ++ [n])→bK a2 aB→(aC.length+1≤c→dI=c)→aH b (aC.length+1) dI aB):dX Z 35 [.int .u64 L] fun aI m=>g3 m 35 j6 a l c (.slice (some aI) 1 1) aH:=
 Fb dL g e [n] (by rw [h];rfl) (fun aT d=>by rw [List.mem_singleton] at d;subst d;exact i) f rfl rfl 0 rfl Co 8 rfl (by decide) j (fun Z=>by have:=k (by simpa using Z);simp;omega) post
theorem Fu{Y:aF}{a:S}{c l:Nat}{aC:List Nat}{Z:U}(r:cL cA Z a c aC)(i:l=aC.length)(n:Nat)(d:n≤aC.length)(N:eA aC=aC.take n)(g:∀ v aB,bK Z aB→gX Z aB v (D.val aC)→Y v aB):g6.a5.t Y a l c (n:Int) Z:=by
 have a1:=r.oA
 unfold g6.a5.t
 refine qS cA 0 n n rfl qR 4 rfl (by decide) rfl rfl (Nat.le_refl _) (by omega) fun j aQ R=>?_
 refine w4 rfl (Nat.le_trans d r.cap) ?_
 have e:=(r.take n).aU R
 have dC:(aC.take n).length=n:=by rw [List.length_take];omega
 refine Jz aQ e (by simp) dC.symm fun k b f=>?_
 have h:(aC.take n).take (min (aC.take n).length n) ++ (List.replicate n 0).drop (min (aC.take n).length n)=D.aN (D.val aC):=by
  rw [D.mU r.ok,N,dC,Nat.min_self,List.take_take];simp
 rw [Int.toNat_natCast] at b ⊢
 rw [h] at b
 refine g _ _ (f.aU R (Nat.le_refl _)) ⟨some ⟨Z.size,0,none⟩,n,?_,b.nH (Nat.le_refl _) (by rw [D.mU r.ok,N,dC];show n≤70368744177656;omega) ?_⟩
 ·rw [D.mU r.ok,N,dC]
 ·rw [D.mU r.ok,N,dC]
theorem JT{Y:aF}{a:S}{c l:Nat}{aC:List Nat}{Z:U}(r:cL cA Z a c aC)(d:l=aC.length)(g:∀ v aB,bK Z aB→gX Z aB v (D.val aC)→Y v aB):
  ∀ n:Nat,n≤aC.length→eA (aC.take n)=eA aC→g6.cP.t Y (n+1) a l c (n:Int) Z:=by
 have a1:=r.oA
 intro n
 induction n with
 | zero=>
  intro e b
  unfold g6.cP.t g6.cF.t
  refine cE (fun Z=>absurd Z (by omega)) fun _=>Fu r d 0 e ?_ g
  rw [← b];rfl
 | succ n bZ=>
  intro e b
  refine cE (fun _=>?_) fun Z=>absurd (by omega) Z
  refine cT (n:Int) (by omega) (by omega) (by omega) ?_
  refine jJ r (aD:=n) rfl d (by omega) ?_
  have es:=mV (aC:=aC) (n:=n) (by omega)
  refine gL (fun f=>?_) fun f=>?_
  ·refine cT (n:Int) (by omega) (by omega) (by omega) ?_
   refine bZ (by omega) ?_
   rw [← b,es,show aC.getD n 0=0 by omega,w5]
  ·refine Fu r d (n+1) e ?_ g
   rw [← b,es,yU _ (by omega)]
theorem oF{a:S}{c l:Nat}{aC:List Nat}{Z:U}(r:cL cA Z a c aC)(b:l=aC.length):
  a4 g6.id #[.slice a l c] Z fun v aB=>bK Z aB∧gX Z aB v (D.val aC):=by
 refine g6.ok ?_
 unfold g6.t g6.aP.t
 refine⟨aC.length+1,?_⟩
 subst b
 exact JT r rfl (fun v aB R aG=>⟨R,aG⟩) aC.length (Nat.le_refl _) (by rw [List.take_length])
theorem sU{a2 Z:U}{a:S}{c l a7:Nat}{aC:List Nat}(g:cX cA a2 Z a c aC)(b:l=aC.length)(d:D.val aC=a7)(R:bK a2 Z){Y:aF}(post:∀ v aB,bK a2 aB→gX a2 aB v a7→Y v aB):
  a4 g6.id #[.slice a l c] Z fun v aB=>aR v fun a l c=>Y (.slice a l c) aB:=by
 subst d
 refine cD (oF g.rd b) fun v aB ⟨e,aG⟩=>?_
 refine aG.elim fun bO bN f=>?_
 exact post _ _ (R.trans e) ⟨_,_,rfl,f.from R.le⟩
theorem JU{Y:aF}{a:S}{c l m:Nat}{b:List Nat}{a2:U}(r:cL cA a2 a c b)(j:l=b.length)(post:∀ a c aB,bK a2 aB→cX dL a2 aB a c (join b)→Y (.slice a (join b).length c) aB)(o:(b.length+1) / 2≤m):
  ∀ (R O:Nat) (bO:S) (Z:U),O+R=(b.length+1) / 2→cX dL a2 Z bO m (join (b.take (2*O)))→bK a2 Z→
   k7.bU.t Y (R+1) a l c bO O m ((2*O:Nat):Int) Z:=by
 subst j
 have a1:=r.oA
 intro R
 induction R with
 | zero=>
  intro O bO Z a8 g cO
  unfold k7.bU.t k7.cH.t
  refine cE (fun a3=>absurd a3 (by omega)) fun _=>?_
  unfold k7.a5.t
  have N:b.take (2*O)=b:=List.take_of_length_le (by omega)
  rw [N] at g
  have:=post _ _ _ cO g
  have k:(join b).length=O:=by rw [Cx];omega
  rw [k] at this;exact this
 | succ R bZ=>
  intro O bO Z a8 g cO
  have p:=r.lY (2*O)
  have n:=r.lY (2*O+1)
  have e:(join (b.take (2*O))).length=O:=by rw [Cx,List.length_take];omega
  have i:(b.take (2*O)).length % 2=0:=by rw [List.length_take];omega
  unfold k7.bU.t k7.cH.t
  refine cE (fun _=>?_) fun a3=>absurd (by omega) a3
  refine jJ (r.aU cO) (aD:=2*O) rfl rfl (by omega) ?_
  refine dM (b.getD (2*O) 0) rfl (by omega) ?_
  refine cT ((2*O+1:Nat):Int) (by omega) (by omega) (by omega) ?_
  refine cE (fun a3=>?_) fun a3=>?_
  ·refine cT ((2*O+1:Nat):Int) (by omega) (by omega) (by omega) ?_
   refine jJ (r.aU cO) (aD:=2*O+1) rfl rfl (by omega) ?_
   refine dM (b.getD (2*O+1) 0) rfl (by omega) ?_
   refine CD rfl n ?_
   refine dM (b.getD (2*O) 0+b.getD (2*O+1) 0*4294967296) (by omega) (by omega) ?_
   refine CE g cO e.symm rfl (by omega) (by omega) (by omega) fun f dI aB d c1 h=>?_
   obtain rfl:=h (by omega)
   refine cT ((2*(O+1):Nat):Int) (by omega) (by omega) (by omega) ?_
   rw [e]
   have N:b.take (2*(O+1))=b.take (2*O) ++ [b.getD (2*O) 0,b.getD (2*O+1) 0]:=by
    rw [show 2*(O+1)=2*O+1+1 by omega,mV (by omega),mV (by omega)];simp
   rw [← Fi i,← N] at d
   exact bZ (O+1) f aB (by omega) d c1
  ·refine CE g cO e.symm rfl (by omega) (by omega) (by omega) fun f dI aB d c1 h=>?_
   obtain rfl:=h (by omega)
   refine cT ((2*(O+1):Nat):Int) (by omega) (by omega) (by omega) ?_
   rw [e]
   have N:b.take (2*(O+1))=b.take (2*O) ++ [b.getD (2*O) 0]:=by
    rw [← mV (by omega),List.take_of_length_le (by omega),List.take_of_length_le (by omega)]
   rw [← Fj i,← N] at d
   exact bZ (O+1) f aB (by omega) d c1
theorem JV{a:S}{c l:Nat}{aC:List Nat}{Z:U}(r:cL cA Z a c aC)(e:l=aC.length):
  a4 k7.id #[.slice a l c] Z fun v aB=>bK Z aB∧u1 Z aB v (aN (D.val aC)):=by
 refine k7.ok ?_
 unfold k7.t k7.aP.t
 refine cD (oF r e) fun v a1 ⟨cC,aG⟩=>?_
 refine aG.elim fun aM aK b=>?_
 have h:=b.rd.oA
 have f:Int.tdiv (((D.aN (D.val aC)).length:Nat):Int) 2=(((D.aN (D.val aC)).length / 2:Nat):Int):=o4 _ 2
 refine⟨by decide,?_⟩
 rw [f]
 refine cT (((D.aN (D.val aC)).length / 2:Nat):Int) rfl (by omega) (by omega) ?_
 refine cT (((D.aN (D.val aC)).length / 2+1:Nat):Int) (by omega) (by omega) (by omega) ?_
 refine qS dL 0 0 ((D.aN (D.val aC)).length / 2+1) rfl Co 8 rfl (by decide) rfl rfl (by omega) (by omega) fun g aQ R=>?_
 unfold k7.bM.t
 refine⟨((D.aN (D.val aC)).length+1) / 2+1,?_⟩
 rw [Int.toNat_natCast]
 refine JU b.rd rfl (fun i dI aB c1 d=>?_) (by omega) _ 0 _ g (by omega) ?_ R
 ·have N:join (D.aN (D.val aC))=aN (D.val aC):=JC _
  rw [N] at d ⊢
  exact⟨cC.trans c1,_,_,rfl,d.from cC.le⟩
 ·exact dZ.iF (aC:=join ((D.aN (D.val aC)).take (2*0))) (rest:=List.replicate ((D.aN (D.val aC)).length / 2+1) 0) (by simpa [join] using aQ) (Nat.le_refl _) (by simp [join]) (by simp [join]) (by simp [join])
theorem Fv{a:S}{c l a7:Nat}{Z:U}(r:cL cA Z a c (D.aN a7))(b:l=(D.aN a7).length):
  a4 k7.id #[.slice a l c] Z fun v aB=>bK Z aB∧u1 Z aB v (aN a7):=by
 have:=JV r b
 rw [D.e9] at this;exact this
theorem o5{L:Int}{aE:Nat}(a:L=(aE:Int))(d:aE < 18446744073709551616)(Z:U):a4 gN.id #[.int .u64 L] Z fun v aB=>bK Z aB∧gX Z aB v aE:=by
 refine gN.ok ?_
 unfold gN.t gN.aP.t
 refine oE a d ?_
 refine k6 (aE % 4294967296) rfl (by omega) ?_
 refine sS a ?_
 refine k6 (aE / 4294967296) rfl (by omega) ?_
 refine rJ cA [aE % 4294967296,aE / 4294967296] rfl (fun aT b=>?_) fun a1 aQ R=>?_
 ·simp only [List.mem_cons,List.not_mem_nil,or_false] at b
  show aT < 4294967296
  rcases b with N | N <;> omega
 ·refine sU (a2:=Z) (Y:=fun v aB=>bK Z aB∧gX Z aB v aE) (aQ.nH (c:=2) (Nat.le_refl _) (show 2≤70368744177656 by decide) rfl) (by rfl) (a7:=aE) ?_ R (fun v aB R aG=>⟨R,aG⟩)
  simp only [D.val];omega
theorem JW{Y:aF}{a K:S}{c aZ:Nat}{aC aX:List Nat}{Z:U}(r:cL cA Z a c aC)(aG:cL cA Z K aZ aX)(d:aC.length=aX.length)(g:Y (.int .i64 (fU (D.val aC) (D.val aX))) Z):
  ∀ n:Nat,n≤aC.length→aC.drop n=aX.drop n→jN.bU.t Y (n+1) a aC.length c K aX.length aZ ((n:Int) - 1) Z:=by
 have a1:=r.oA
 intro n
 induction n with
 | zero=>
  intro e b
  unfold jN.bU.t jN.cH.t
  refine cE (fun a3=>absurd a3 (by omega)) fun _=>?_
  unfold jN.a5.t
  rw [List.drop_zero,List.drop_zero] at b
  rw [b] at g
  simpa [fU] using g
 | succ n bZ=>
  intro e b
  unfold jN.bU.t jN.cH.t
  refine cE (fun a3=>?_) fun a3=>absurd (by omega) a3
  refine jJ r (aD:=n) (by omega) rfl (by omega) ?_
  refine jJ aG (aD:=n) (by omega) rfl (by omega) ?_
  refine cE (fun a3=>?_) fun a3=>?_
  ·have b5:=D.uZ r.ok aG.ok d (aD:=n) (by omega) b (by omega)
   unfold fU at g;rw [if_pos b5] at g;exact g
  ·refine jJ r (aD:=n) (by omega) rfl (by omega) ?_
   refine jJ aG (aD:=n) (by omega) rfl (by omega) ?_
   refine cE (fun f=>?_) fun f=>?_
   ·have b5:=D.uZ aG.ok r.ok d.symm (aD:=n) (by omega) b.symm (by omega)
    unfold fU at g;rw [if_neg (by omega),if_neg (by omega)] at g;exact g
   ·refine cT ((n:Int) - 1) (by omega) (by omega) (by omega) ?_
    refine bZ (by omega) ?_
    rw [jD (aC:=aC) (by omega),jD (aC:=aX) (by omega),b,show aC.getD n 0=aX.getD n 0 by omega]
theorem AP{a K:S}{c aZ l m a7 bQ:Nat}{Z:U}(r:cL cA Z a c (D.aN a7))(aG:cL cA Z K aZ (D.aN bQ))(e:l=(D.aN a7).length)(f:m=(D.aN bQ).length):
  a4 jN.id #[.slice a l c,.slice K m aZ] Z fun v aB=>aB=Z∧v=.int .i64 (fU a7 bQ):=by
 subst e;subst f
 have a1:=r.oA
 refine jN.ok ?_
 unfold jN.t jN.aP.t
 have b:D.val (D.aN a7)=a7:=D.e9 a7
 have d:D.val (D.aN bQ)=bQ:=D.e9 bQ
 refine j8 (fun g=>?_) fun h=>?_
 ·refine cE (fun a3=>⟨rfl,?_⟩) fun a3=>⟨rfl,?_⟩
  ·have:=D.sO r.ok (D.rH bQ) (by omega)
   rw [b,d] at this
   unfold fU;rw [if_pos this]
  ·have:=D.sO aG.ok (D.rH a7) (by omega)
   rw [b,d] at this
   unfold fU;rw [if_neg (by omega),if_neg (by omega)]
 ·unfold jN.bM.t
  refine cT (((D.aN a7).length:Int) - 1) rfl (by omega) (by omega) ?_
  refine⟨(D.aN a7).length+1,?_⟩
  refine JW r aG (by omega) ?_ _ (Nat.le_refl _) ?_
  ·rw [b,d];exact⟨rfl,rfl⟩
  ·rw [List.drop_length,List.drop_of_length_le (by omega)]
theorem AQ{Y:aF}{a K:S}{c aZ R m T:Nat}{aC aX:List Nat}{a2:U}(O:Nat)(a9:List Nat)(b:Nat)(bO:S)(Z:U)(L:Int)(d:L=(b:Int))(f:b < 18446744073709551616)(a8:O < m)(w:m≤35184372088832)(g:cX cA a2 Z bO m a9)(cO:bK a2 Z)(e:a9.length=O)
  (bZ:∀ bO Z,cX cA a2 Z bO m (a9 ++ [b % 4294967296])→bK a2 Z→g0.bU.t Y R a aC.length c K aX.length aZ bO (O+1) m ((b / 4294967296:Nat):Int) ((O+1:Nat):Int) Z) :
  bB (j1 .u64 L 4294967295) fun h=>bB (IntKind.u32.wrap h) fun i=>dX Z 89 [.int .u32 i] fun j k=>g3 k 89 iW bO O m (.slice (some j) 1 1) fun l n o p=>
   0≤(32:Int)∧bB (hG .u64 L 32) fun q=>bB (IntKind.i64.wrap ((O:Int)+1)) fun r=>g0.bU.t Y R a aC.length c K aX.length aZ l n o q r p:=by
 refine oE d f ?_
 refine k6 (b % 4294967296) rfl (by omega) ?_
 refine sT g cO e.symm rfl (by omega) (by omega) (by omega) fun s dI aB u c1 v=>?_
 obtain rfl:=v (by omega)
 refine sS d ?_
 refine cT ((O+1:Nat):Int) (by omega) (by omega) (by omega) ?_
 rw [e]
 exact bZ s aB u c1
theorem JX{Y:aF}{a K:S}{c aZ m T:Nat}{aC aX:List Nat}{a2:U}(r:cL cA a2 a c aC)(aG:cL cA a2 K aZ aX)(o:aC.length < m)(p:aX.length < m)(h:m≤35184372088832)(post:∀ v aB,bK a2 aB→gX a2 aB v T→Y v aB):
  ∀ (R O b:Nat) (a9:List Nat) (bO:S) (Z:U),O+R=m→a9.length=O→b≤1→(m≤O→b=0)→D.val a9+(D.val (aC.drop O)+D.val (aX.drop O)+b)*2 ^ (32*O)=T→cX cA a2 Z bO m a9→bK a2 Z→
   g0.bU.t Y (R+1) a aC.length c K aX.length aZ bO O m (b:Int) (O:Int) Z:=by
 intro R
 induction R with
 | zero=>
  intro O b a9 bO Z a8 d l k N g cO
  unfold g0.bU.t g0.cH.t
  refine cE (fun a3=>absurd a3 (by omega)) fun _=>?_
  refine cE (fun a3=>absurd a3 (by omega)) fun _=>?_
  rw [List.drop_of_length_le (by omega),List.drop_of_length_le (by omega)] at N
  have j:=k (by omega)
  refine cE (fun a3=>absurd a3 (by omega)) fun _=>?_
  unfold g0.a5.t
  refine sU g d.symm ?_ cO post
  rw [j] at N
  simpa [D.val] using N
 | succ R bZ=>
  intro O b a9 bO Z a8 d l k N g cO
  have q:=r.lY O
  have s:=aG.lY O
  have c3:∀ t dI,(aC.getD O 0+aX.getD O 0+b)=t+4294967296*dI→D.val (a9 ++ [t])+(D.val (aC.drop (O+1))+D.val (aX.drop (O+1))+dI)*2 ^ (32*(O+1))=T:=by
   intro t dI u
   have a1:=D.mD aC O
   have w:=D.mD aX O
   rw [← N]
   exact D.Fk (aG:=aC.getD O 0+aX.getD O 0) d (by omega) (by omega)
  have more:O < aC.length∨O < aX.length∨0 < b→g0.dD.t Y (g0.bU.t Y (R+1)) a aC.length c K aX.length aZ bO O m (b:Int) (O:Int) Z:=by
   intro _
   unfold g0.dD.t
   refine cE (fun a3=>?_) fun a3=>?_
   ·refine jJ (r.aU cO) (aD:=O) rfl rfl (by omega) ?_
    refine dM (aC.getD O 0) rfl (by omega) ?_
    refine dM (b+aC.getD O 0) (by omega) (by omega) ?_
    refine cE (fun i=>?_) fun i=>?_
    ·refine jJ (aG.aU cO) (aD:=O) rfl rfl (by omega) ?_
     refine dM (aX.getD O 0) rfl (by omega) ?_
     refine dM (b+aC.getD O 0+aX.getD O 0) (by omega) (by omega) ?_
     exact AQ (T:=T) O a9 _ bO Z _ rfl (by omega) (by omega) h g cO d fun e aB f c1=>bZ (O+1) _ _ e aB (by omega) (by simp [d]) (by omega) (by omega) (c3 _ _ (by omega)) f c1
    ·have n:aX.getD O 0=0:=by simp [List.getD,show aX.length≤O by omega]
     exact AQ (T:=T) O a9 _ bO Z _ rfl (by omega) (by omega) h g cO d fun e aB f c1=>bZ (O+1) _ _ e aB (by omega) (by simp [d]) (by omega) (by omega) (c3 _ _ (by omega)) f c1
   ·have x:aC.getD O 0=0:=by simp [List.getD,show aC.length≤O by omega]
    refine cE (fun i=>?_) fun i=>?_
    ·refine jJ (aG.aU cO) (aD:=O) rfl rfl (by omega) ?_
     refine dM (aX.getD O 0) rfl (by omega) ?_
     refine dM (b+aX.getD O 0) (by omega) (by omega) ?_
     exact AQ (T:=T) O a9 _ bO Z _ rfl (by omega) (by omega) h g cO d fun e aB f c1=>bZ (O+1) _ _ e aB (by omega) (by simp [d]) (by omega) (by omega) (c3 _ _ (by omega)) f c1
    ·have n:aX.getD O 0=0:=by simp [List.getD,show aX.length≤O by omega]
     exact AQ (T:=T) O a9 _ bO Z _ rfl (by omega) (by omega) h g cO d fun e aB f c1=>bZ (O+1) _ _ e aB (by omega) (by simp [d]) (by omega) (by omega) (c3 _ _ (by omega)) f c1
  unfold g0.bU.t g0.cH.t
  refine cE (fun a3=>more (by omega)) fun a3=>?_
  refine cE (fun a3=>more (by omega)) fun i=>?_
  refine cE (fun a3=>more (by omega)) fun y=>?_
  have j:b=0:=by omega
  unfold g0.a5.t
  refine sU g d.symm ?_ cO post
  rw [List.drop_of_length_le (by omega),List.drop_of_length_le (by omega),j] at N
  simpa [D.val] using N
theorem CF{a K:S}{c aZ l n a7 bQ:Nat}{Z:U}(r:cL cA Z a c (D.aN a7))(aG:cL cA Z K aZ (D.aN bQ))(b:l=(D.aN a7).length)(d:n=(D.aN bQ).length)(f:(D.aN a7).length≤1099511627776)(g:(D.aN bQ).length≤1099511627776):
  a4 g0.id #[.slice a l c,.slice K n aZ] Z fun v aB=>bK Z aB∧gX Z aB v (a7+bQ):=by
 subst b;subst d
 refine g0.ok ?_
 unfold g0.t g0.aP.t
 have N:(if (((D.aN bQ).length:Nat):Int) > (((D.aN a7).length:Nat):Int) then(((D.aN bQ).length:Nat):Int) else(((D.aN a7).length:Nat):Int))=((max (D.aN a7).length (D.aN bQ).length:Nat):Int):=by split <;> omega
 rw [N]
 refine cT ((max (D.aN a7).length (D.aN bQ).length+1:Nat):Int) (by omega) (by omega) (by omega) ?_
 refine qS cA 0 0 (max (D.aN a7).length (D.aN bQ).length+1) rfl qR 4 rfl (by decide) rfl rfl (by omega) (by omega) fun e aQ R=>?_
 unfold g0.bM.t
 refine⟨max (D.aN a7).length (D.aN bQ).length+2,?_⟩
 rw [Int.toNat_natCast]
 refine JX (T:=a7+bQ) r aG (by omega) (by omega) (by omega) (fun v aB R aG=>⟨R,aG⟩) _ 0 0 [] _ e (by omega) rfl (by omega) (by omega) ?_ ?_ R
 ·simp [D.val,D.e9]
 ·exact dZ.iF (aC:=[]) (rest:=List.replicate (max (D.aN a7).length (D.aN bQ).length+1) 0) (by simpa using aQ) (Nat.le_refl _) (by simp) (by simp) (by simp)
theorem CG{a2 Z:U}{K l:Nat}{a9:List Nat}(aQ:dZ cA Z K a9)(cO:bK a2 Z)(a3:a2.size≤K){O:Int}{aD:Nat}(a8:O=(aD:Int))(e:l=a9.length)(a:aD < a9.length){L:Int}{v:Nat}(b:L=(v:Int))(b5:v < 4294967296){aH:U→Prop}
  (g:∀ aB,dZ cA aB K (a9.set aD v)→bK a2 aB→aH aB):c6 (some ⟨K,0,none⟩) l O 1 fun aI=>cM Z aI (.int .u32 L) aH:=
 AG aQ a8 (by omega) a (by rw [b];rfl) b5 fun c d=>g _ c (d.aU cO a3)
theorem JY{aE:Nat}(Z:aE ≠ 0):eJ aE=eJ (aE / 2)+1:=by
 have a1:=u0 aE 1
 have a:=rI Z
 rw [show aE / 2=aE / 2 ^ 1 by rfl];omega
theorem JZ{Y:aF}{Z:U}{T:Nat}(f:T < 4611686018427387904)(g:Y (.int .i64 (T:Int)) Z):∀ (R L aE:Nat),aE < 2 ^ R→L+eJ aE=T→R≤32→k8.bU.t Y (R+1) (L:Int) (aE:Int) Z:=by
 intro R
 induction R with
 | zero=>
  intro L aE a N _
  have:aE=0:=by simpa using a
  subst this
  unfold k8.bU.t k8.cH.t
  refine cE (fun a3=>absurd a3 (by omega)) fun _=>?_
  unfold k8.a5.t
  rw [show L=T by simpa [Fw] using N];exact g
 | succ R bZ=>
  intro L aE a N b
  unfold k8.bU.t k8.cH.t
  refine cE (fun a3=>?_) fun a3=>?_
  ·have c:aE ≠ 0:=by omega
   have h:=JY c
   refine cT ((L+1:Nat):Int) (by omega) (by omega) (by omega) ?_
   refine⟨by decide,?_⟩
   have d:Int.tdiv (aE:Int) 2=((aE / 2:Nat):Int):=o4 aE 2
   rw [d]
   have e:2 ^ (R+1)≤2 ^ 32:=Nat.pow_le_pow_right (by decide) b
   refine k6 (aE / 2) rfl (by rw [show(2:Nat) ^ 32=4294967296 from rfl] at e;omega) ?_
   exact bZ (L+1) (aE / 2) (by rw [Nat.pow_succ] at a;omega) (by omega) (by omega)
  ·have:aE=0:=by omega
   subst this
   unfold k8.a5.t
   rw [show L=T by simpa [Fw] using N];exact g
theorem Fx{a:S}{c l:Nat}{aC:List Nat}{Z:U}(r:cL cA Z a c aC)(d:l=aC.length)(e:eA aC=aC):
  a4 k8.id #[.slice a l c] Z fun v aB=>aB=Z∧v=.int .i64 ((eJ (D.val aC):Nat):Int):=by
 subst d
 have a1:=r.oA
 refine k8.ok ?_
 unfold k8.t k8.aP.t
 refine gL (fun a2=>?_) fun a2=>?_
 ·have N:aC=[]:=List.length_eq_zero_iff.mp (by omega)
  subst N;exact⟨rfl,rfl⟩
 ·have f:aC.getD (aC.length - 1) 0 ≠ 0:=by
   rcases w6.mp e with N | N
   ·subst N;simp at a2
   ·exact N
  have a3:=D.yN r.ok (n:=aC.length - 1) (by omega) f
  have b:=r.lY (aC.length - 1)
  have g:eJ (aC.getD (aC.length - 1) 0)≤32:=iL.mpr b
  refine cT ((aC.length - 1:Nat):Int) (by omega) (by omega) (by omega) ?_
  refine cT ((32*(aC.length - 1):Nat):Int) (by omega) (by omega) (by omega) ?_
  unfold k8.bM.t
  refine cT ((aC.length - 1:Nat):Int) (by omega) (by omega) (by omega) ?_
  refine jJ r (aD:=aC.length - 1) rfl rfl (by omega) ?_
  refine⟨33,?_⟩
  rw [a3]
  exact JZ (by omega) ⟨rfl,rfl⟩ 32 _ _ b rfl (Nat.le_refl _)
theorem J0{a:S}{c l a7:Nat}{Z:U}(r:cL cA Z a c (D.aN a7))(b:l=(D.aN a7).length):
  a4 k8.id #[.slice a l c] Z fun v aB=>aB=Z∧v=.int .i64 ((eJ a7:Nat):Int):=by
 have:=Fx r b (D.rH a7)
 rw [D.e9] at this;exact this
theorem Fy{a9:List Nat}{O t v:Nat}(Z:O ≠ t):(a9.set O v).getD t 0=a9.getD t 0:=by
 simp [List.getD,Z]
theorem J1{Y:aF}{j:S→Nat→Nat→S→Nat→Nat→S→Nat→Nat→Int→U→Prop}{a K:S}{aK bN n O aI T L:Nat}{aC aX:List Nat}{a2:U}
  (aG:cL cA a2 K bN aX) (a8:O < aC.length) (m:L < 4294967296) (y:n=aC.length+aX.length) (k:a2.size≤aI) (o:n≤70368744177656)
  (g:∀ aB a9,bK a2 aB→dZ cA aB aI a9→a9.length=n→(∀ t,O+1+aX.length≤t→a9.getD t 0=0)→D.val a9+D.val (aC.drop (O+1))*D.val aX*2 ^ (32*(O+1))=T→j a aC.length aK K aX.length bN (some ⟨aI,0,none⟩) n n ((O+1:Nat):Int) aB) :
  ∀ (R aD b:Nat) (a9:List Nat) (Z:U),aD+R=aX.length→b < 4294967296→a9.length=n→dZ cA Z aI a9→bK a2 Z→(∀ t,O+aX.length≤t→a9.getD t 0=0)→
   D.val a9+(L*D.val (aX.drop aD)+b)*2 ^ (32*(O+aD))+D.val (aC.drop (O+1))*D.val aX*2 ^ (32*(O+1))=T→
   hS.mF.t Y j (R+1) a aC.length aK K aX.length bN (some ⟨aI,0,none⟩) n n (O:Int) (b:Int) (L:Int) (aD:Int) Z:=by
 intro R
 induction R with
 | zero=>
  intro aD b a9 Z q f d aQ cO e N
  unfold hS.mF.t hS.sV.t
  refine cE (fun a3=>absurd a3 (by omega)) fun a3=>?_
  have s:aD=aX.length:=by omega
  subst s
  unfold hS.eZ.t
  refine cT ((O+aX.length:Nat):Int) (by omega) (by omega) (by omega) ?_
  refine k6 b rfl f ?_
  refine CG aQ cO k (aD:=O+aX.length) rfl d.symm (by omega) rfl f fun u h i=>?_
  unfold hS.dD.t
  refine cT ((O+1:Nat):Int) (by omega) (by omega) (by omega) ?_
  refine g _ _ i h (by simp [d]) (fun t l=>?_) ?_
  ·rw [Fy (by omega)];exact e t (by omega)
  ·have bH:=D.mT (a9:=a9) (aD:=O+aX.length) (v:=b) (by omega)
   rw [e _ (Nat.le_refl _)] at bH
   rw [List.drop_length] at N
   simp only [D.val,Nat.zero_mul,Nat.mul_zero,Nat.zero_add,Nat.add_zero] at bH N
   omega
 | succ R bZ=>
  intro aD b a9 Z q f d aQ cO e N
  have w:=aG.lY aD
  have z:a9.getD (O+aD) 0 < 4294967296:=n9 (by decide) aQ.ok _
  have A:=u6 m w
  unfold hS.mF.t hS.sV.t
  refine cE (fun a3=>?_) fun a3=>absurd (by omega) a3
  refine cT ((O+aD:Nat):Int) (by omega) (by omega) (by omega) ?_
  refine jJ (aQ.n7 (c:=n) (by rw [d];exact o) (by omega)) (aD:=O+aD) rfl d.symm (by omega) ?_
  refine dM (a9.getD (O+aD) 0) rfl (by omega) ?_
  refine jJ (aG.aU cO) (aD:=aD) rfl rfl (by omega) ?_
  refine dM (aX.getD aD 0) rfl (by omega) ?_
  have c3:L*D.val (aX.drop aD)=L*aX.getD aD 0+4294967296*(L*D.val (aX.drop (aD+1))):=by
   rw [D.mD,Nat.mul_add,Nat.mul_left_comm]
  rw [c3] at N
  have x:(L:Int)*((aX.getD aD 0:Nat):Int)=((L*aX.getD aD 0:Nat):Int):=(Int.natCast_mul _ _).symm
  rw [x]
  generalize L*aX.getD aD 0=p at *
  refine dM p rfl (by omega) ?_
  refine dM (a9.getD (O+aD) 0+p) (by omega) (by omega) ?_
  refine dM (p+b+a9.getD (O+aD) 0) (by omega) (by omega) ?_
  refine cT ((O+aD:Nat):Int) (by omega) (by omega) (by omega) ?_
  refine oE rfl (by omega) ?_
  refine k6 ((p+b+a9.getD (O+aD) 0) % 4294967296) rfl (by omega) ?_
  refine CG aQ cO k (aD:=O+aD) rfl d.symm (by omega) rfl (by omega) fun u h i=>?_
  refine sS rfl ?_
  refine cT ((aD+1:Nat):Int) (by omega) (by omega) (by omega) ?_
  refine bZ (aD+1) _ _ _ (by omega) (by omega) (by simp [d]) h i (fun t l=>?_) ?_
  ·rw [Fy (by omega)];exact e t l
  ·have bH:=D.mT (a9:=a9) (aD:=O+aD) (v:=(p+b+a9.getD (O+aD) 0) % 4294967296) (by omega)
   have:=Az (bA:=4294967296) (p:=p) (c:=b) (r:=L*D.val (aX.drop (aD+1))) (kE:=(p+b+a9.getD (O+aD) 0) % 4294967296) (dI:=(p+b+a9.getD (O+aD) 0) / 4294967296) (by omega) bH
   rw [show O+(aD+1)=O+aD+1 by omega,D.kR (O+aD),this];exact N
theorem J2{Y:aF}{a K:S}{aK bN n aI T:Nat}{aC aX:List Nat}{a2:U}
  (r:cL cA a2 a aK aC) (aG:cL cA a2 K bN aX) (f:n=aC.length+aX.length) (c:a2.size≤aI) (d:n≤70368744177656) (post:∀ v aB,bK a2 aB→gX a2 aB v T→Y v aB) :
  ∀ (R O:Nat) (a9:List Nat) (Z:U),O+R=aC.length→a9.length=n→dZ cA Z aI a9→bK a2 Z→(∀ t,O+aX.length≤t→a9.getD t 0=0)→D.val a9+D.val (aC.drop O)*D.val aX*2 ^ (32*O)=T→
   hS.bU.t Y (R+1) a aC.length aK K aX.length bN (some ⟨aI,0,none⟩) n n (O:Int) Z:=by
 intro R
 induction R with
 | zero=>
  intro O a9 Z a8 b aQ cO e N
  unfold hS.bU.t hS.cH.t
  refine cE (fun a3=>absurd a3 (by omega)) fun a3=>?_
  unfold hS.a5.t
  refine sU (aQ.nH c (by rw [b];exact d) b.symm) b.symm ?_ cO post
  rw [List.drop_of_length_le (by omega)] at N
  simpa [D.val] using N
 | succ R bZ=>
  intro O a9 Z a8 b aQ cO e N
  have g:=r.lY O
  unfold hS.bU.t hS.cH.t
  refine cE (fun a3=>?_) fun a3=>absurd (by omega) a3
  unfold hS.eX.t
  refine jJ (r.aU cO) (aD:=O) rfl rfl (by omega) ?_
  refine dM (aC.getD O 0) rfl (by omega) ?_
  unfold hS.gS.t
  refine⟨aX.length+1,?_⟩
  refine J1 (T:=T) (L:=aC.getD O 0) aG (by omega) g f c d (fun aB h c1 fO i j k=>?_) aX.length 0 0 a9 Z (by omega) (by omega) b aQ cO e ?_
  ·exact bZ (O+1) h aB (by omega) i fO c1 j k
  ·rw [D.mD] at N
   rw [← N,D.kR,List.drop_zero,Nat.add_zero,Nat.add_zero,Nat.add_mul,Nat.add_mul]
   have l:D.val (aC.drop (O+1))*D.val aX*(4294967296*2 ^ (32*O))=4294967296*D.val (aC.drop (O+1))*D.val aX*2 ^ (32*O):=by
    rw [Nat.mul_left_comm,Nat.mul_assoc 4294967296,Nat.mul_assoc 4294967296]
   rw [l];omega
theorem D.J3(n t:Nat):(List.replicate n 0).getD t 0=0:=by
 simp only [List.getD,List.getElem?_replicate];split <;> rfl
theorem Fz{a K:S}{c aZ l n a7 bQ:Nat}{Z:U}(r:cL cA Z a c (D.aN a7))(aG:cL cA Z K aZ (D.aN bQ))(b:l=(D.aN a7).length)(d:n=(D.aN bQ).length)(f:(D.aN a7).length≤1099511627776)(g:(D.aN bQ).length≤1099511627776):
  a4 hS.id #[.slice a l c,.slice K n aZ] Z fun v aB=>bK Z aB∧gX Z aB v (a7*bQ):=by
 subst b;subst d
 refine hS.ok ?_
 unfold hS.t hS.aP.t
 refine cT (((D.aN a7).length+(D.aN bQ).length:Nat):Int) (by omega) (by omega) (by omega) ?_
 refine qS cA 0 ((D.aN a7).length+(D.aN bQ).length) ((D.aN a7).length+(D.aN bQ).length) rfl qR 4 rfl (by decide) rfl rfl (by omega) (by omega) fun e aQ R=>?_
 unfold hS.bM.t
 refine⟨(D.aN a7).length+1,?_⟩
 rw [Int.toNat_natCast]
 refine J2 (T:=a7*bQ) r aG rfl (Nat.le_refl _) (by omega) (fun v aB R aG=>⟨R,aG⟩) _ 0 _ e (by omega) (by simp) aQ R (fun t _=>D.J3 _ _) ?_
 rw [D.uY,List.drop_zero,D.e9,D.e9];simp
theorem J4{Y:aF}{a:S}{c aE aI:Nat}{aC:List Nat}{a2:U}(r:cL cA a2 a c aC)(k:a2.size≤aI)(q:aE < 4294967296)(d:0 < aE)
  (post:∀ v aB,bK a2 aB→(∃ g dI,v=.tuple #[.slice g (D.aN (D.val aC / aE)).length dI,.int .u32 ((D.val aC % aE:Nat):Int)]∧cX cA a2 aB g dI (D.aN (D.val aC / aE)))→Y v aB) :
  ∀ (n le:Nat) (a9:List Nat) (Z:U),n≤aC.length→a9.length=aC.length→le < aE→dZ cA Z aI a9→bK a2 Z→D.val (a9.drop n)*aE+le=D.val (aC.drop n)→
   j9.bU.t Y (n+1) a aC.length c (aE:Int) (some ⟨aI,0,none⟩) aC.length aC.length (le:Int) ((n:Int) - 1) Z:=by
 have a1:=r.oA
 intro n
 induction n with
 | zero=>
  intro le a9 Z l b e aQ cO N
  unfold j9.bU.t j9.cH.t
  refine cE (fun a3=>absurd a3 (by omega)) fun _=>?_
  unfold j9.a5.t
  rw [List.drop_zero,List.drop_zero] at N
  have aW:D.val a9=D.val aC / aE∧le=D.val aC % aE:=by
   rw [← N,Nat.mul_comm,Nat.mul_add_div d,Nat.div_eq_of_lt e,Nat.mul_add_mod,Nat.mod_eq_of_lt e];simp
  refine cD (oF (aQ.n7 (c:=aC.length) (by rw [b];exact a1) (by omega)) b.symm) fun v aB ⟨f,aG⟩=>?_
  refine aG.elim fun bO bN h=>?_
  refine k6 le rfl (by omega) ?_
  rw [aW.1] at h ⊢
  rw [aW.2]
  exact post _ _ (cO.trans f) ⟨_,_,rfl,h.from cO.le⟩
 | succ n bZ=>
  intro le a9 Z l b e aQ cO N
  have s:=r.lY n
  unfold j9.bU.t j9.cH.t
  refine cE (fun a3=>?_) fun a3=>absurd (by omega) a3
  refine CD rfl (by omega) ?_
  refine jJ (r.aU cO) (aD:=n) (by omega) rfl (by omega) ?_
  refine dM (aC.getD n 0) rfl (by omega) ?_
  refine dM (le*4294967296+aC.getD n 0) (by omega) (by omega) ?_
  refine dM aE rfl (by omega) ?_
  have i:(aE:Int) ≠ 0:=by omega
  refine⟨i,?_⟩
  have j:(le*4294967296+aC.getD n 0) / aE < 4294967296:=by
   rw [Nat.div_lt_iff_lt_mul d]
   have:le*4294967296+4294967296≤aE*4294967296:=by omega
   rw [Nat.mul_comm 4294967296];omega
  have u:=Nat.div_add_mod (le*4294967296+aC.getD n 0) aE
  have m:=Nat.mod_lt (le*4294967296+aC.getD n 0) d
  rw [o4]
  refine dM ((le*4294967296+aC.getD n 0) / aE) rfl (by omega) ?_
  refine k6 ((le*4294967296+aC.getD n 0) / aE) rfl j ?_
  refine CG aQ cO k (aD:=n) (by omega) b.symm (by omega) rfl j fun w o f=>?_
  refine dM aE rfl (by omega) ?_
  refine⟨i,?_⟩
  rw [sR]
  refine kU rfl ?_
  refine cT ((n:Int) - 1) (by omega) (by omega) (by omega) ?_
  refine bZ _ _ _ (by omega) (by simp [b]) m o f ?_
  have p:(a9.set n ((le*4294967296+aC.getD n 0) / aE)).drop n=(le*4294967296+aC.getD n 0) / aE :: a9.drop (n+1):=by
   rw [jD (by simp;omega),List.drop_set_of_lt (by omega)]
   simp [List.getD,show n < a9.length by omega]
  rw [p,jD (aC:=aC) (by omega)]
  simp only [D.val]
  rw [Nat.add_mul,Nat.mul_assoc,Nat.mul_comm _ aE]
  generalize aE*((le*4294967296+aC.getD n 0) / aE)=x at *
  generalize (le*4294967296+aC.getD n 0) % aE=bA at *
  generalize D.val (a9.drop (n+1))*aE=aO at *
  omega
theorem CH{a:S}{c l aE:Nat}{aC:List Nat}{Z:U}(r:cL cA Z a c aC)(e:l=aC.length){L:Int}(f:L=(aE:Int))(g:aE < 4294967296)(b:0 < aE):
  a4 j9.id #[.slice a l c,.int .u32 L] Z fun v aB=>bK Z aB∧∃ d dI,v=.tuple #[.slice d (D.aN (D.val aC / aE)).length dI,.int .u32 ((D.val aC % aE:Nat):Int)]∧cX cA Z aB d dI (D.aN (D.val aC / aE)):=by
 subst e;subst f
 have a1:=r.oA
 refine j9.ok ?_
 unfold j9.t j9.aP.t
 refine gL (fun a2=>absurd a2 (by omega)) fun _=>?_
 refine qS cA 0 aC.length aC.length rfl qR 4 rfl (by decide) rfl rfl (by omega) (by omega) fun h aQ R=>?_
 unfold j9.bM.t
 refine cT ((aC.length:Int) - 1) rfl (by omega) (by omega) ?_
 refine⟨aC.length+1,?_⟩
 rw [Int.toNat_natCast]
 refine J4 r (Nat.le_refl _) g b (fun v aB R aG=>⟨R,aG⟩) aC.length 0 _ h (Nat.le_refl _) (by simp) b aQ R ?_
 rw [List.drop_length,List.drop_of_length_le (by simp)];simp [D.val]
theorem CI{R:Nat}(b:R < 32):2 ^ R < 4294967296:=Nat.pow_lt_pow_right (a:=2) (by decide) b
theorem CJ{R:Nat}(b:R < 32){L:Int}(c:L=(R:Int)){aH:Int→Prop}(g:aH ((2 ^ R:Nat):Int)):0≤L∧bB (iQ .u32 1 L) aH:=by
 subst c
 refine⟨by omega,⟨?_⟩⟩
 show aH (IntKind.u32.wrap (1*2 ^ (min (R:Int).toNat 32)))
 have N:min (R:Int).toNat 32=R:=by omega
 have e:2 ^ R < 4294967296:=Nat.pow_lt_pow_right (a:=2) (by decide) b
 have d:(1:Int)*2 ^ R=((2 ^ R:Nat):Int):=by rw [Int.natCast_pow,Int.one_mul];rfl
 rw [N,d]
 have:IntKind.u32.wrap ((2 ^ R:Nat):Int)=((2 ^ R:Nat):Int):=by
  simp only [IntKind.wrap,IntKind.bits,IntKind.signed,Bool.false_and,Bool.false_eq_true,if_false]
  generalize 2 ^ R=p at *
  omega
 rw [this];exact g
theorem pT{n:Nat}(b:n < 9223372036854775808){L:Int}(a:L=(n:Int)){aH:Int→Prop}(g:aH ((n / 32:Nat):Int)):(32:Int) ≠ 0∧bB (IntKind.i64.wrap (Int.tdiv L 32)) aH:=by
 subst a
 refine⟨by decide,?_⟩
 have N:Int.tdiv (n:Int) 32=((n / 32:Nat):Int):=o4 n 32
 rw [N];exact cT _ rfl (by omega) (by omega) g
theorem AR{n:Nat}{L:Int}(a:L=(n:Int)){aH:Int→Prop}(g:aH ((n % 32:Nat):Int)):(32:Int) ≠ 0∧bB (Int.tmod L 32) aH:=by
 subst a
 refine⟨by decide,?_⟩
 have N:Int.tmod (n:Int) 32=((n % 32:Nat):Int):=sR n 32
 rw [N];exact⟨g⟩
theorem FA(n:Nat):2 ^ n=2 ^ (32*(n / 32))*2 ^ (n % 32):=by rw [← Nat.pow_add,Nat.div_add_mod]
theorem CK{a:S}{c l a7:Nat}{Z:U}(r:cL cA Z a c (D.aN a7))(g:l=(D.aN a7).length){L:Int}{n:Nat}(h:L=(n:Int))(f:n < 9223372036854775808):
  a4 lK.id #[.slice a l c,.int .i64 L] Z fun v aB=>bK Z aB∧gX Z aB v (a7 / 2 ^ n):=by
 subst g;subst h
 have e:D.val (D.aN a7)=a7:=D.e9 a7
 have a1:=r.oA
 refine lK.ok ?_
 unfold lK.t lK.aP.t
 refine cE (fun a2=>?_) fun a2=>?_
 ·have:n=0:=by omega
  subst this
  refine cD (oF r rfl) fun v aB ⟨d,aG⟩=>?_
  refine aG.elim fun bO bN b=>⟨d,bO,bN,?_,?_⟩
  ·rw [e];simp
  ·rw [e] at b;simpa using b
 ·refine pT f rfl ?_
  refine cE (fun a3=>?_) fun a3=>?_
  ·refine cD (o5 (aE:=0) rfl (by decide) Z) fun v aB ⟨d,aG⟩=>?_
   refine aG.elim fun bO bN b=>⟨d,bO,bN,?_,?_⟩
   all_goals
    have dC:=D.gZ.mp (Nat.le_of_eq (rfl:(D.aN a7).length=_))
    have p:2 ^ (32*(D.aN a7).length)≤2 ^ n:=Nat.pow_le_pow_right (by decide) (by omega)
    have i:a7 / 2 ^ n=0:=Nat.div_eq_of_lt (by omega)
    rw [i]
   exact b
  ·refine pT f rfl ?_
   refine FB rfl (by omega) ?_
   have j:=r.drop (m:=c) (n / 32) (by omega) r.cap
   refine AR rfl ?_
   refine CJ (R:=n % 32) (by omega) rfl ?_
   have k:2 ^ (n % 32) < 4294967296:=CI (show n % 32 < 32 by omega)
   refine cD (CH j (by simp) rfl k (Nat.pow_pos (by decide))) fun v aB ⟨d,bO,bN,o,b⟩=>?_
   subst o
   have c3:D.val ((D.aN a7).drop (n / 32)) / 2 ^ (n % 32)=a7 / 2 ^ n:=by
    rw [D.lW (D.qP a7),e,Nat.div_div_eq_div_mul,← FA]
   rw [c3] at b ⊢
   refine gY rfl (cS (bL rfl (cS (b0 rfl (eG ?_)))))
   exact⟨d,_,_,rfl,b⟩
theorem FC{a:S}{c l a7:Nat}{Z:U}(r:cL cA Z a c (D.aN a7))(u:l=(D.aN a7).length){L:Int}{n:Nat}(w:L=(n:Int))(d:n < 9223372036854775808)(B:(D.aN a7).length≤1099511627776):
  a4 kG.id #[.slice a l c,.int .i64 L] Z fun v aB=>bK Z aB∧gX Z aB v (a7 % 2 ^ n):=by
 subst u;subst w
 have h:D.val (D.aN a7)=a7:=D.e9 a7
 have a1:=r.oA
 refine kG.ok ?_
 unfold kG.t kG.aP.t
 refine cE (fun a2=>?_) fun a2=>?_
 ·have:n=0:=by omega
  subst this
  refine cD (o5 (aE:=0) rfl (by decide) Z) fun v aB ⟨e,aG⟩=>?_
  refine aG.elim fun bO bN b=>⟨e,bO,bN,?_,?_⟩
  ·simp [Nat.mod_one]
  ·simpa [Nat.mod_one] using b
 ·refine pT d rfl ?_
  refine cE (fun a3=>?_) fun a3=>?_
  ·refine cD (oF r rfl) fun v aB ⟨e,aG⟩=>?_
   have dC:=D.gZ.mp (Nat.le_of_eq (rfl:(D.aN a7).length=_))
   have x:2 ^ (32*(D.aN a7).length)≤2 ^ n:=Nat.pow_le_pow_right (by decide) (by omega)
   have k:a7 % 2 ^ n=a7:=Nat.mod_eq_of_lt (by omega)
   refine aG.elim fun bO bN b=>⟨e,bO,bN,?_,?_⟩
   ·rw [h,k]
   ·rw [h] at b;rw [k];exact b
  ·have o:n / 32 < (D.aN a7).length:=by omega
   refine pT d rfl ?_
   refine w4 rfl (by have:=r.cap;omega) ?_
   have p:=r.take (n / 32)
   have q:((D.aN a7).take (n / 32)).length=n / 32:=by rw [List.length_take];omega
   refine cD (oF p q.symm) fun v y ⟨e,aG⟩=>?_
   refine aG.elim fun bO bN b=>?_
   have C:(D.aN (D.val ((D.aN a7).take (n / 32)))).length≤n / 32:=by
    rw [D.mU p.ok]
    have:=w7 ((D.aN a7).take (n / 32));omega
   have E:=r.lY (n / 32)
   have key:∀ (R:Nat) (a9:List Nat) (c9:S) (cZ:Nat) (f:U),a9.length+R=n / 32→D.val a9=D.val ((D.aN a7).take (n / 32))→cX cA Z f c9 cZ a9→bK Z f→
     kG.cP.t (fun v aB=>bK Z aB∧gX Z aB v (a7 % 2 ^ n)) (R+1) a (D.aN a7).length c (n:Int) c9 a9.length cZ f:=by
    intro R
    induction R with
    | zero=>
     intro a9 c9 cZ f z c3 i g
     unfold kG.cP.t kG.cF.t
     refine pT d rfl ?_
     refine cE (fun a3=>absurd a3 (by omega)) fun _=>?_
     unfold kG.a5.t
     refine pT d rfl ?_
     refine jJ (r.aU g) (aD:=n / 32) rfl rfl o ?_
     refine AR rfl ?_
     refine CJ (R:=n % 32) (by omega) rfl ?_
     have F:0 < 2 ^ (n % 32):=Nat.pow_pos (by decide)
     refine⟨by omega,?_⟩
     rw [sR]
     refine kU rfl ?_
     have x:(D.aN a7).getD (n / 32) 0 % 2 ^ (n % 32)≤(D.aN a7).getD (n / 32) 0:=Nat.mod_le _ _
     refine sT i g rfl rfl (by omega) (by omega) (by omega) fun s dI aB j c1 _=>?_
     refine sU (Y:=fun v aB=>bK Z aB∧gX Z aB v (a7 % 2 ^ n)) j (by simp) ?_ c1 fun v aB R aG=>⟨R,aG⟩
     have A:a9.length=n / 32:=by omega
     rw [D.h5,A,c3]
     have b5:=D.Cn (D.qP a7) (m:=n / 32) (R:=n % 32) o (by omega)
     rw [h,Nat.div_add_mod,D.h5,q] at b5
     exact b5
    | succ R bZ=>
     intro a9 c9 cZ f z c3 i g
     unfold kG.cP.t kG.cF.t
     refine pT d rfl ?_
     refine cE (fun _=>?_) fun a3=>absurd (by omega) a3
     refine sT (n:=0) i g rfl rfl (by decide) (by omega) (by omega) fun s dI aB j c1 _=>?_
     have:=bZ (a9 ++ [0]) s dI aB (by simp;omega) (by rw [D.h5,c3];simp [D.val]) j c1
     simpa using this
   refine⟨n / 32 - (D.aN (D.val ((D.aN a7).take (n / 32)))).length+1,?_⟩
   exact key _ _ bO bN y (by omega) (by rw [D.e9]) b e
theorem FD{a9 aC aX:List Nat}{O L aT t aQ fO:Nat}(a:a9.length=O)(Z:L+4294967296*fO=t+aT+aQ)(a8:D.val a9+D.val (aX.take O)=D.val (aC.take O)+aQ*2 ^ (32*O))(b:D.val (aC.take (O+1))=D.val (aC.take O)+2 ^ (32*O)*L)(c:D.val (aX.take (O+1))=D.val (aX.take O)+2 ^ (32*O)*aT):
  D.val (a9 ++ [t])+D.val (aX.take (O+1))=D.val (aC.take (O+1))+fO*2 ^ (32*(O+1)):=by
 rw [D.h5,a,b,c,D.kR]
 simp only [D.val,Nat.mul_zero,Nat.add_zero]
 generalize 2 ^ (32*O)=P at *
 have N:P*(L+4294967296*fO)=P*(t+aT+aQ):=by rw [Z]
 have d:P*(L+4294967296*fO)=P*L+fO*(4294967296*P):=by rw [Nat.mul_add,Nat.mul_left_comm,Nat.mul_comm P fO,Nat.mul_left_comm]
 have e:P*(t+aT+aQ)=P*t+P*aT+aQ*P:=by rw [Nat.mul_add,Nat.mul_add,Nat.mul_comm P aQ]
 omega
theorem w8{aC:List Nat}{O:Nat}:D.val (aC.take (O+1))=D.val (aC.take O)+2 ^ (32*O)*aC.getD O 0:=by
 by_cases Z:O < aC.length
 ·rw [mV Z,D.h5,List.length_take,Nat.min_eq_left (by omega)];simp [D.val]
 ·rw [List.take_of_length_le (by omega),List.take_of_length_le (by omega)]
  simp [List.getD,show aC.length≤O by omega]
theorem FE{Y:aF}{a K:S}{c aZ R m:Nat}{aC aX:List Nat}{a2:U}(i:m=aC.length)(O L take:Nat)(a9:List Nat)(bO:S)(Z:U)(aT:Int)(j:aT=(take:Int))(k:L=aC.getD O 0)(P:L < 4294967296)(Q:take≤4294967296)(a8:O < m)(T:m≤70368744177656)(r:cL cA Z a c aC)(g:cX cA a2 Z bO m a9)(cO:bK a2 Z)(b:a9.length=O)
  (bZ:∀ (t aQ:Nat) bO Z,L+4294967296*aQ=t+take→aQ≤1→t < 4294967296→cX cA a2 Z bO m (a9 ++ [t])→bK a2 Z→hE.bU.t Y R a aC.length c K aX.length aZ bO (O+1) m (aQ:Int) ((O+1:Nat):Int) Z) :
  c6 a aC.length (O:Int) 1 fun l=>fZ Z l fun n=>a0 .u32 n fun o=>bB (IntKind.u64.wrap o) fun d=>
   cond (decide (d < aT)) (bB (IntKind.u64.wrap (d+4294967296)) fun p=>bB (IntKind.u64.wrap (p - aT)) fun q=>bB (IntKind.u32.wrap q) fun s=>dX Z 89 [.int .u32 s] fun u v=>g3 v 89 iW bO O m (.slice (some u) 1 1) fun w x y z=>bB (IntKind.i64.wrap ((O:Int)+1)) fun A=>hE.bU.t Y R a aC.length c K aX.length aZ w x y 1 A z)
    (bB (IntKind.u64.wrap (d - aT)) fun B=>bB (IntKind.u32.wrap B) fun C=>dX Z 89 [.int .u32 C] fun D E=>g3 E 89 iW bO O m (.slice (some D) 1 1) fun F G H I=>bB (IntKind.i64.wrap ((O:Int)+1)) fun J=>hE.bU.t Y R a aC.length c K aX.length aZ F G H 0 J I):=by
 subst j;subst i
 refine jJ r (aD:=O) rfl rfl a8 ?_
 rw [← k]
 refine dM L rfl (by omega) ?_
 refine cE (fun a3=>?_) fun a3=>?_
 ·refine dM (L+4294967296) (by omega) (by omega) ?_
  refine dM (L+4294967296 - take) (by omega) (by omega) ?_
  refine k6 (L+4294967296 - take) rfl (by omega) ?_
  refine sT g cO b.symm rfl (by omega) (by omega) (by omega) fun e dI aB f c1 h=>?_
  obtain rfl:=h (by omega)
  refine cT ((O+1:Nat):Int) (by omega) (by omega) (by omega) ?_
  rw [b]
  exact bZ _ 1 e aB (by omega) (by omega) (by omega) f c1
 ·refine dM (L - take) (by omega) (by omega) ?_
  refine k6 (L - take) rfl (by omega) ?_
  refine sT g cO b.symm rfl (by omega) (by omega) (by omega) fun e dI aB f c1 h=>?_
  obtain rfl:=h (by omega)
  refine cT ((O+1:Nat):Int) (by omega) (by omega) (by omega) ?_
  rw [b]
  exact bZ _ 0 e aB (by omega) (by omega) (by omega) f c1
theorem J5{Y:aF}{a K:S}{c aZ:Nat}{aC aX:List Nat}{a2:U}(r:cL cA a2 a c aC)(aG:cL cA a2 K aZ aX)(o:D.val aX≤D.val aC)(p:aX.length≤aC.length)(post:∀ v aB,bK a2 aB→gX a2 aB v (D.val aC - D.val aX)→Y v aB):
  ∀ (R O b:Nat) (a9:List Nat) (bO:S) (Z:U),O+R=aC.length→a9.length=O→b≤1→D.val a9+D.val (aX.take O)=D.val (aC.take O)+b*2 ^ (32*O)→cX cA a2 Z bO aC.length a9→bK a2 Z→
   hE.bU.t Y (R+1) a aC.length c K aX.length aZ bO O aC.length (b:Int) (O:Int) Z:=by
 have a1:=r.oA
 intro R
 induction R with
 | zero=>
  intro O b a9 bO Z a8 d j N g cO
  unfold hE.bU.t hE.cH.t
  refine cE (fun a3=>absurd a3 (by omega)) fun _=>?_
  unfold hE.a5.t
  refine sU g d.symm ?_ cO post
  rw [List.take_of_length_le (by omega),List.take_of_length_le (by omega)] at N
  have dC:=D.iK (aC:=a9) g.rd.ok
  rw [d] at dC
  have:b=0:=by
   rcases Nat.lt_or_ge b 1 with k | k
   ·omega
   ·have:b=1:=by omega
    subst this;omega
  subst this
  omega
 | succ R bZ=>
  intro O b a9 bO Z a8 d j N g cO
  have i:=r.lY O
  have q:=aG.lY O
  unfold hE.bU.t hE.cH.t
  refine cE (fun _=>?_) fun a3=>absurd (by omega) a3
  refine cE (fun a3=>?_) fun a3=>?_
  ·refine jJ (aG.aU cO) (aD:=O) rfl rfl (by omega) ?_
   refine dM (aX.getD O 0) rfl (by omega) ?_
   refine dM (aX.getD O 0+b) (by omega) (by omega) ?_
   exact FE rfl O (aC.getD O 0) (aX.getD O 0+b) a9 bO Z _ rfl rfl i (by omega) (by omega) a1 (r.aU cO) g cO d fun t aQ e aB l f m h c1=>bZ (O+1) aQ _ e aB (by omega) (by simp [d]) f (FD d (by omega) N w8 w8) h c1
  ·have n:aX.getD O 0=0:=by simp [List.getD,show aX.length≤O by omega]
   exact FE rfl O (aC.getD O 0) b a9 bO Z _ rfl rfl i (by omega) (by omega) a1 (r.aU cO) g cO d fun t aQ e aB l f m h c1=>bZ (O+1) aQ _ e aB (by omega) (by simp [d]) f (FD d (by omega) N w8 (aT:=0) (by rw [w8,n])) h c1
theorem FF{a K:S}{c aZ l n a7 bQ:Nat}{Z:U}(r:cL cA Z a c (D.aN a7))(aG:cL cA Z K aZ (D.aN bQ))(d:l=(D.aN a7).length)(e:n=(D.aN bQ).length):
  a4 hE.id #[.slice a l c,.slice K n aZ] Z fun v aB=>bK Z aB∧gX Z aB v (a7 - bQ):=by
 subst d;subst e
 have a1:=r.oA
 refine hE.ok ?_
 unfold hE.t hE.aP.t
 refine cD (AP r aG rfl rfl) fun v aB ⟨f,g⟩=>?_
 subst f;subst g
 refine b0 rfl ?_
 refine cE (fun a3=>?_) fun a3=>?_
 ·refine cD (o5 (aE:=0) rfl (by decide) aB) fun v b ⟨h,s2⟩=>?_
  have i:a7 - bQ=0:=by unfold fU at a3;split at a3 <;> (try split at a3) <;> omega
  rw [i]
  refine s2.elim fun bO bN j=>⟨h,bO,bN,rfl,j⟩
 ·have dC:bQ < a7:=by unfold fU at a3;split at a3 <;> (try split at a3) <;> omega
  have k:(D.aN bQ).length≤(D.aN a7).length:=D.o1 (Nat.le_of_lt dC)
  refine qS cA 0 0 (D.aN a7).length rfl qR 4 rfl (by decide) rfl rfl (by omega) (by omega) fun b aQ R=>?_
  unfold hE.bM.t
  refine⟨(D.aN a7).length+1,?_⟩
  rw [Int.toNat_natCast]
  refine J5 r aG (by rw [D.e9,D.e9];omega) k (fun v o m iU=>⟨m,by rw [D.e9,D.e9] at iU;exact iU⟩) _ 0 0 [] _ b (by omega) rfl (by omega) (by simp [D.val]) ?_ R
  ·exact dZ.iF (aC:=[]) (rest:=List.replicate (D.aN a7).length 0) (by simpa using aQ) (Nat.le_refl _) (by simp) (by simp) (by simp)
theorem J6{Y:aF}{a:S}{c aE T m:Nat}{aC:List Nat}{a2:U}(r:cL cA a2 a c aC)(i:aE < 4294967296)(l:m=aC.length+1)(n:m≤70368744177656)(post:∀ v aB,bK a2 aB→gX a2 aB v T→Y v aB):
  ∀ (R O b:Nat) (a9:List Nat) (bO:S) (Z:U),O+R=aC.length→a9.length=O→b < 4294967296→D.val a9+(D.val (aC.drop O)*aE+b)*2 ^ (32*O)=T→cX cA a2 Z bO m a9→bK a2 Z→
   k9.bU.t Y (R+1) a aC.length c (aE:Int) bO O m (b:Int) (O:Int) Z:=by
 intro R
 induction R with
 | zero=>
  intro O b a9 bO Z a8 d e N g cO
  unfold k9.bU.t k9.cH.t
  refine cE (fun a3=>absurd a3 (by omega)) fun _=>?_
  unfold k9.a5.t
  refine k6 b rfl e ?_
  refine sT g cO d.symm rfl e (by omega) (by omega) fun h dI aB f c1 e=>?_
  refine sU f (by simp) ?_ c1 post
  rw [List.drop_of_length_le (by omega)] at N
  rw [D.h5,d,← N]
  simp [D.val,Nat.mul_comm]
 | succ R bZ=>
  intro O b a9 bO Z a8 d e N g cO
  have j:=r.lY O
  have o:=u6 j i
  unfold k9.bU.t k9.cH.t
  refine cE (fun _=>?_) fun a3=>absurd (by omega) a3
  refine jJ (r.aU cO) (aD:=O) rfl rfl (by omega) ?_
  refine dM (aC.getD O 0) rfl (by omega) ?_
  refine dM aE rfl (by omega) ?_
  have k:((aC.getD O 0:Nat):Int)*(aE:Int)=((aC.getD O 0*aE:Nat):Int):=(Int.natCast_mul _ _).symm
  rw [k]
  have c3:D.val (aC.drop O)*aE=aC.getD O 0*aE+4294967296*(D.val (aC.drop (O+1))*aE):=by
   rw [D.mD,Nat.add_mul,Nat.mul_assoc]
  rw [c3] at N
  generalize aC.getD O 0*aE=p at *
  refine dM p rfl (by omega) ?_
  refine dM (b+p) (by omega) (by omega) ?_
  refine oE rfl (by omega) ?_
  refine k6 ((b+p) % 4294967296) rfl (by omega) ?_
  refine sT g cO d.symm rfl (by omega) (by omega) (by omega) fun h dI aB f c1 e=>?_
  obtain rfl:=e (by omega)
  refine sS rfl ?_
  refine cT ((O+1:Nat):Int) (by omega) (by omega) (by omega) ?_
  rw [d]
  refine bZ (O+1) _ _ h aB (by omega) (by simp [d]) (by omega) ?_ f c1
  rw [← N]
  exact D.Fk (aG:=p) (t:=(b+p) % 4294967296) (dI:=(b+p) / 4294967296) d rfl (by omega)
theorem FG{a:S}{c l aE bS:Nat}{aC:List Nat}{Z:U}(r:cL cA Z a c aC)(b:l=aC.length){L aT:Int}(d:L=(aE:Int))(e:aT=(bS:Int))(f:aE < 4294967296)(g:bS < 4294967296)(i:aC.length≤1099511627777):
  a4 k9.id #[.slice a l c,.int .u32 L,.int .u32 aT] Z fun v aB=>bK Z aB∧gX Z aB v (D.val aC*aE+bS):=by
 subst b;subst d;subst e
 refine k9.ok ?_
 unfold k9.t k9.aP.t
 refine cT ((aC.length+1:Nat):Int) (by omega) (by omega) (by omega) ?_
 refine qS cA 0 0 (aC.length+1) rfl qR 4 rfl (by decide) rfl rfl (by omega) (by omega) fun h aQ R=>?_
 refine dM bS rfl (by omega) ?_
 unfold k9.bM.t
 refine⟨aC.length+1,?_⟩
 rw [Int.toNat_natCast]
 refine J6 (T:=D.val aC*aE+bS) r f rfl (by omega) (fun v aB R aG=>⟨R,aG⟩) _ 0 bS [] _ h (by omega) rfl g ?_ ?_ R
 ·simp [D.val]
 ·exact dZ.iF (aC:=[]) (rest:=List.replicate (aC.length+1) 0) (by simpa using aQ) (Nat.le_refl _) (by simp) (by simp) (by simp)
theorem FH{a7 aE R:Nat}(a:(D.aN a7).length≤R)(b:aE < 4294967296):(D.aN (a7*aE)).length≤R+1:=by
 rw [D.gZ] at a ⊢
 rw [D.kR]
 rcases Nat.eq_zero_or_pos aE with Z | Z
 ·subst Z;simp [Nat.pow_pos]
 ·calc a7*aE < 2 ^ (32*R)*aE:=Nat.mul_lt_mul_of_pos_right a Z
   _≤2 ^ (32*R)*4294967296:=Nat.mul_le_mul_left _ (Nat.le_of_lt b)
   _=4294967296*2 ^ (32*R):=Nat.mul_comm _ _
theorem AS{a:S}{c l a7:Nat}{Z:U}(r:cL cA Z a c (D.aN a7))(h:l=(D.aN a7).length){L:Int}{n:Nat}(i:L=(n:Int))(u:n≤35184372088832)(w:(D.aN a7).length≤1099511627776):
  a4 lA.id #[.slice a l c,.int .i64 L] Z fun v aB=>bK Z aB∧gX Z aB v (a7*2 ^ n):=by
 subst h;subst i
 have d:D.val (D.aN a7)=a7:=D.e9 a7
 refine lA.ok ?_
 unfold lA.t lA.aP.t
 have same:∀ bQ,a7=bQ→a4 g6.id #[.slice a (D.aN a7).length c] Z fun v aB=>aR v fun a l c=>(fun v aB=>bK Z aB∧gX Z aB v bQ) (.slice a l c) aB:=by
  intro bQ N
  refine cD (oF r rfl) fun v aB ⟨j,aG⟩=>?_
  rw [d,N] at aG
  refine aG.elim fun bO bN e=>⟨j,bO,bN,rfl,e⟩
 refine cE (fun a2=>?_) fun a2=>?_
 ·have:n=0:=by omega
  subst this;exact same _ (by simp)
 ·refine gL (fun a1=>?_) fun a1=>?_
  ·refine same _ ?_
   have N:D.aN a7=[]:=List.length_eq_zero_iff.mp (by omega)
   have:a7=0:=by rw [← d,N];rfl
   subst this;simp
  ·unfold lA.a5.t
   refine pT (by omega) rfl ?_
   refine pT (by omega) rfl ?_
   refine cT ((n / 32+(D.aN a7).length:Nat):Int) (by omega) (by omega) (by omega) ?_
   refine cT ((n / 32+(D.aN a7).length+1:Nat):Int) (by omega) (by omega) (by omega) ?_
   refine qS cA 0 (n / 32) (n / 32+(D.aN a7).length+1) rfl qR 4 rfl (by decide) rfl rfl (by omega) (by omega) fun k aQ R=>?_
   refine AR rfl ?_
   refine CJ (R:=n % 32) (by omega) rfl ?_
   have f:2 ^ (n % 32) < 4294967296:=CI (show n % 32 < 32 by omega)
   refine cD (FG (bS:=0) (r.aU R) rfl rfl rfl f (by decide) (by omega)) fun v x ⟨b,aG⟩=>?_
   rw [d,Nat.add_zero] at aG
   refine aG.elim fun bO bN e=>?_
   have y:=FH (Nat.le_refl (D.aN a7).length) f
   have g:cX cA Z k (some ⟨Z.size,0,none⟩) (n / 32+(D.aN a7).length+1) (List.replicate (n / 32) 0):=by
    refine dZ.iF (rest:=List.replicate ((D.aN a7).length+1) 0) ?_ (Nat.le_refl _) ?_ (by simp;omega) (by simp;omega)
    ·rw [List.replicate_append_replicate,show n / 32+((D.aN a7).length+1)=n / 32+(D.aN a7).length+1 by omega];exact aQ
    ·simp;show n / 32≤70368744177656;omega
   rw [Int.toNat_natCast,Int.toNat_natCast]
   refine Fa (g.aU b) (Nat.le_trans R.le b.le) e.rd (by simp) rfl rfl 0 rfl qR 4 rfl (by decide) ?_ ?_ fun eI eN m o p _=>?_
   ·simp only [List.length_replicate];show n / 32+_≤70368744177656;omega
   ·intro q;simp only [List.length_replicate] at q;omega
   ·have s:bK Z m:=p.aU (R.trans b) (g.aU b).yQ
    refine sU (Y:=fun v aB=>bK Z aB∧gX Z aB v (a7*2 ^ n)) o (by simp) ?_ s fun v aB R aG=>⟨R,aG⟩
    rw [D.h5,D.uY,D.e9,List.length_replicate,FA n,Nat.zero_add,Nat.mul_left_comm]
theorem J7{a7 R m:Nat}(a:R < 32):a7 / 2 ^ (32*m+R) % 2=(a7 / 2 ^ (32*m) % 4294967296) / 2 ^ R % 2:=by
 rw [Nat.pow_add,← Nat.div_div_eq_div_mul]
 generalize a7 / 2 ^ (32*m)=bQ
 have N:(4294967296:Nat)=2 ^ R*(2*2 ^ (31 - R)):=by
  rw [← Nat.pow_succ',← Nat.pow_add,show R+(31 - R+1)=32 by omega]
 rw [N,Nat.mod_mul,Nat.add_comm,Nat.mul_add_div (Nat.pow_pos (by decide)),Nat.div_eq_of_lt (Nat.mod_lt _ (Nat.pow_pos (by decide))),Nat.add_zero,Nat.mod_mul_right_mod]
theorem D.J8{aC:List Nat}(a:D.Words aC)(m:Nat):aC.getD m 0=D.val aC / 2 ^ (32*m) % 4294967296:=by
 rw [← D.lW a,D.mD,Nat.add_mul_mod_self_left]
 exact(Nat.mod_eq_of_lt (n9 (by decide) a m)).symm
theorem J9{L aT:Int}{n R:Nat}(a:L=(n:Int))(b:aT=(R:Int))(d:R < 32){aH:Int→Prop}(g:aH ((n / 2 ^ R:Nat):Int)):0≤aT∧bB (hG .u32 L aT) aH:=by
 subst a;subst b
 refine⟨by omega,⟨?_⟩⟩
 show aH (Int.fdiv (n:Int) (2 ^ (min (R:Int).toNat 32)))
 have N:min (R:Int).toNat 32=R:=by omega
 rw [N]
 have c:Int.fdiv (n:Int) (2 ^ R)=((n / 2 ^ R:Nat):Int):=by
  rw [Int.fdiv_eq_ediv_of_nonneg _ (Int.le_of_lt (Int.pow_pos (by decide)))]
  norm_cast
 rw [c];exact g
theorem Ka{L:Int}{n:Nat}(a:L=(n:Int))(d:n < 4294967296){aH:Int→Prop}(g:aH ((n % 2:Nat):Int)):bB (j1 .u32 L 1) aH:=by
 subst a
 refine⟨?_⟩
 show aH (IntKind.u32.wrap (BitVec.ofInt 32 (n:Int) &&& BitVec.ofInt 32 1).toNat)
 have N:(BitVec.ofInt 32 (n:Int) &&& BitVec.ofInt 32 1).toNat=n % 2:=by
  have b:BitVec.ofInt 32 (1:Int)=BitVec.ofNat 32 1:=rfl
  rw [BitVec.ofInt_natCast,b,BitVec.toNat_and,BitVec.toNat_ofNat,BitVec.toNat_ofNat,Nat.mod_eq_of_lt (by omega)]
  exact Nat.and_two_pow_sub_one_eq_mod n 1
 have dC:n % 2 < 2:=Nat.mod_lt _ (by decide)
 have c:IntKind.u32.wrap ((n % 2:Nat):Int)=((n % 2:Nat):Int):=by
  simp only [IntKind.wrap,IntKind.bits,IntKind.signed,Bool.false_and,Bool.false_eq_true,if_false];omega
 rw [N,c];exact g
def u7(a7:Nat)(O:Int):Int:=if O < 0 then 0 else((a7 / 2 ^ O.toNat % 2:Nat):Int)
theorem Kb{a:S}{c l a7:Nat}{Z:U}(r:cL cA Z a c (D.aN a7))(b:l=(D.aN a7).length){L:Int}(d:In .i64 L):
  a4 pU.id #[.slice a l c,.int .i64 L] Z fun v aB=>aB=Z∧v=.int .i64 (u7 a7 L):=by
 subst b
 rw [sP] at d
 refine pU.ok ?_
 unfold pU.t pU.aP.t
 refine cE (fun a2=>⟨rfl,by unfold u7;rw [if_pos a2]⟩) fun a2=>?_
 obtain⟨n,rfl⟩:∃ n:Nat,L=(n:Int):=⟨L.toNat,by omega⟩
 unfold u7
 rw [if_neg a2,Int.toNat_natCast]
 refine pT (by omega) rfl ?_
 have e:D.val (D.aN a7)=a7:=D.e9 a7
 have b5:a7 / 2 ^ n % 2=(D.aN a7).getD (n / 32) 0 / 2 ^ (n % 32) % 2:=by
  have:=J7 (a7:=a7) (m:=n / 32) (R:=n % 32) (Nat.mod_lt _ (by decide))
  rw [Nat.div_add_mod] at this
  rw [this,D.J8 (D.qP a7),e]
 rw [b5]
 refine cE (fun a3=>⟨rfl,?_⟩) fun a3=>?_
 ·have:(D.aN a7).getD (n / 32) 0=0:=by simp [List.getD,show(D.aN a7).length≤n / 32 by omega]
  rw [this];simp
 ·unfold pU.a5.t
  refine pT (by omega) rfl ?_
  refine jJ r (aD:=n / 32) rfl rfl (by omega) ?_
  have f:=r.lY (n / 32)
  refine AR rfl ?_
  refine J9 rfl rfl (by omega) ?_
  have g:(D.aN a7).getD (n / 32) 0 / 2 ^ (n % 32)≤(D.aN a7).getD (n / 32) 0:=Nat.div_le_self _ _
  refine Ka rfl (by omega) ?_
  refine cT (((D.aN a7).getD (n / 32) 0 / 2 ^ (n % 32) % 2:Nat):Int) rfl (by omega) (by omega) ?_
  exact⟨rfl,rfl⟩
def CL(a7:Nat):Int × Bool:=if a7 < 18446744073709551616 then((a7:Int),true) else(0,false)
theorem Kc{a7:Nat}(a2:a7 ≠ 0)(Z:a7 < 18446744073709551616):aN a7=[a7]:=by
 rw [k2 a2,show a7 / 18446744073709551616=0 by omega,e0,Nat.mod_eq_of_lt Z]
theorem Kd{a:S}{c l a7:Nat}{Z:U}(r:cL cA Z a c (D.aN a7))(d:l=(D.aN a7).length):
  a4 rM.id #[.slice a l c] Z fun v aB=>bK Z aB∧s2 (n8 .u64) AJ Z aB v (CL a7):=by
 refine rM.ok ?_
 unfold rM.t rM.aP.t
 refine cD (Fv r d) fun v a1 ⟨cC,aM,aK,N,e⟩=>?_
 subst N
 refine bL rfl ?_
 have f:=@gZ a7 0
 have g:=@gZ a7 1
 have h:(2:Nat) ^ (64*1)=18446744073709551616:=by decide
 have i:(2:Nat) ^ (64*0)=1:=by decide
 rw [h] at g;rw [i] at f
 unfold CL
 refine gL (fun a3=>⟨cC,_,_,rfl,⟨?_,?_⟩,?_⟩) fun a3=>?_
 ·have:a7=0:=by omega
  subst this;rfl
 ·rw [u2];split <;> simp <;> omega
 ·have:a7=0:=by omega
  subst this;rfl
 ·refine gL (fun j=>?_) fun j=>⟨cC,_,_,rfl,⟨?_,?_⟩,?_⟩
  ·have k:a7 ≠ 0:=by omega
   have b:a7 < 18446744073709551616:=by omega
   have m:=Kc k b
   refine AF e.rd (aD:=0) rfl rfl (by omega) ?_
   rw [if_pos b,m]
   exact⟨cC,_,_,rfl,⟨rfl,by rw [u2];omega⟩,rfl⟩
  ·rw [if_neg (by omega)]
  ·rw [if_neg (by omega)];decide
  ·rw [if_neg (by omega)];rfl
theorem AT{Z:U}{aI off l:Nat}{a bR bA:List Nat}(aQ:dZ cA Z aI (a ++ (bR ++ bA)))(b:a.length=off)(d:l=bR.length)(e:bR.length≤70368744177656){O:Int}{aD:Nat}(a8:O=(aD:Int))(f:aD < bR.length){aH:Int→Prop}
  (g:aH (bR.getD aD 0:Nat)):c6 (some ⟨aI,off,none⟩) l O 1 fun aI=>fZ Z aI fun v=>a0 .u32 v aH:=by
 have r:=aQ.Cq (off:=off) (n:=bR.length) (c:=bR.length) e (by simp;omega) (Nat.le_refl _)
 have N:((a ++ (bR ++ bA)).drop off).take bR.length=bR:=by rw [← b,List.drop_left,List.take_left]
 rw [N] at r
 exact jJ r a8 d f g
def oG(b5:U)(aI:Nat)(a1 Z:U):Prop:=bK b5 Z∧cG aI a1 Z
theorem AU{Z b5 a1:U}{aI off l:Nat}{a bR bA:List Nat}(aQ:dZ cA Z aI (a ++ (bR ++ bA)))(d:a.length=off)(j:l=bR.length)(cO:oG b5 aI a1 Z)(e:b5.size≤aI){O:Int}{aD:Nat}(a8:O=(aD:Int))(f:aD < bR.length){L:Int}{v:Nat}(h:L=(v:Int))(i:v < 4294967296){aH:U→Prop}
  (g:∀ aB,dZ cA aB aI (a ++ (bR.set aD v ++ bA))→oG b5 aI a1 aB→aH aB):c6 (some ⟨aI,off,none⟩) l O 1 fun aI=>cM Z aI (.int .u32 L) aH:=by
 refine Cr aQ a8 (by omega) (by simp;omega) (by rw [h];rfl) i fun b c=>?_
 refine g _ ?_ ⟨c.aU cO.1 e,cO.2.trans c⟩
 have N:(a ++ (bR ++ bA)).set (off+aD) v=a ++ (bR.set aD v ++ bA):=by
  rw [← d,List.set_append_right _ _ (by omega),Nat.add_sub_cancel_left,List.set_append_left _ _ f]
 rw [N] at b;exact b
theorem FI{bR aX:List Nat}{aD aE dO c aQ dI fO t:Nat}(a:aD < bR.length)(a1:c+aE*aX.getD aD 0+aQ+t=bR.getD aD 0+4294967296*(dI+fO))(N:D.val bR+aE*D.val (aX.take aD)=dO+(c+aQ)*2 ^ (32*aD)):
  D.val (bR.set aD t)+aE*D.val (aX.take (aD+1))=dO+(dI+fO)*2 ^ (32*(aD+1)):=by
 have bH:=D.mT (a9:=bR) (aD:=aD) (v:=t) a
 rw [w8,D.kR]
 generalize 2 ^ (32*aD)=P at *
 generalize bR.getD aD 0=bS at *
 have b:(c+aE*aX.getD aD 0+aQ+t)*P=(bS+4294967296*(dI+fO))*P:=by rw [a1]
 have d:(c+aE*aX.getD aD 0+aQ+t)*P=(c+aQ)*P+aE*(P*aX.getD aD 0)+t*P:=by
  have:aE*(P*aX.getD aD 0)=aE*aX.getD aD 0*P:=by rw [Nat.mul_comm P,Nat.mul_assoc]
  rw [this,← Nat.add_mul,← Nat.add_mul];congr 1;omega
 have e:(bS+4294967296*(dI+fO))*P=bS*P+(dI+fO)*(4294967296*P):=by
  rw [Nat.add_mul,Nat.mul_comm 4294967296,Nat.mul_assoc]
 rw [Nat.mul_add]
 omega
theorem Ke{Y:aF}{K:S}{c aZ n aI off aE dO:Nat}{aX h bA:List Nat}{b5 a1:U}(aG:cL cA b5 K aZ aX)(y:aX.length=n)(i:h.length=off)(r:b5.size≤aI)(z:aE < 4294967296)(QG:n < 1099511627776)
  (g:∀ Z aQ bR,aQ≤1→bR.length=n+1→dZ cA Z aI (h ++ (bR ++ bA))→oG b5 aI a1 Z→D.val bR+aE*D.val aX=dO+aQ*2 ^ (32*(n+1))→(∃ m,h1.cP.t Y m (some ⟨aI,off,none⟩) (n+1) c K n aZ (n:Int) (aE:Int) (aQ:Int) Z)) :
  ∀ (R aD a aQ:Nat) (bR:List Nat) (Z:U),aD+R=n+1→bR.length=n+1→a < 4294967296→aQ≤1→(aD=n+1→a=0)→dZ cA Z aI (h ++ (bR ++ bA))→oG b5 aI a1 Z→D.val bR+aE*D.val (aX.take aD)=dO+(a+aQ)*2 ^ (32*aD)→
   h1.lL.t Y (R+1) (some ⟨aI,off,none⟩) (n+1) c K n aZ (n:Int) (aE:Int) (a:Int) (aQ:Int) (aD:Int) Z:=by
 intro R
 induction R with
 | zero=>
  intro aD a aQ bR Z A d B s u e cO N
  unfold h1.lL.t h1.sW.t
  refine cE (fun a3=>absurd a3 (by omega)) fun _=>?_
  have C:=u (by omega)
  subst C
  rw [List.take_of_length_le (by omega),Nat.zero_add,show aD=n+1 by omega] at N
  exact g Z aQ bR s d e cO N
 | succ R bZ=>
  intro aD a aQ bR Z A d B s u e cO N
  have QH:bR.getD aD 0 < 4294967296:=by
   refine n9 (by decide) (fun L E=>e.ok L ?_) aD
   exact List.mem_append_right _ (List.mem_append_left _ E)
  have F:bR.length≤70368744177656:=by omega
  have step:∀ (p take b:Nat),p=aE*aX.getD aD 0→take < 4294967296→a+p=take+4294967296*b→b < 4294967296→(aD=n→b=0)→
    c6 (some ⟨aI,off,none⟩) (n+1) (aD:Int) 1 fun G=>fZ Z G fun H=>a0 .u32 H fun I=>bB (IntKind.u64.wrap I) fun j=>
     cond (decide (j < ((take+aQ:Nat):Int))) (bB (IntKind.u64.wrap (j+4294967296)) fun J=>bB (IntKind.u64.wrap (J - ((take+aQ:Nat):Int))) fun P=>bB (IntKind.u32.wrap P) fun Q=>c6 (some ⟨aI,off,none⟩) (n+1) (aD:Int) 1 fun T=>cM Z T (.int .u32 Q) fun V=>bB (IntKind.i64.wrap ((aD:Int)+1)) fun Qx=>h1.lL.t Y (R+1) (some ⟨aI,off,none⟩) (n+1) c K n aZ (n:Int) (aE:Int) (b:Int) 1 Qx V)
      (bB (IntKind.u64.wrap (j - ((take+aQ:Nat):Int))) fun Qy=>bB (IntKind.u32.wrap Qy) fun Qz=>c6 (some ⟨aI,off,none⟩) (n+1) (aD:Int) 1 fun QA=>cM Z QA (.int .u32 Qz) fun QB=>bB (IntKind.i64.wrap ((aD:Int)+1)) fun QC=>h1.lL.t Y (R+1) (some ⟨aI,off,none⟩) (n+1) c K n aZ (n:Int) (aE:Int) (b:Int) 0 QC QB):=by
   intro p take b f QI QJ v w
   refine AT e i d.symm F rfl (by omega) ?_
   refine dM (bR.getD aD 0) rfl (by omega) ?_
   refine cE (fun a3=>?_) fun a3=>?_
   ·refine dM (bR.getD aD 0+4294967296) (by omega) (by omega) ?_
    refine dM (bR.getD aD 0+4294967296 - (take+aQ)) (by omega) (by omega) ?_
    refine k6 (bR.getD aD 0+4294967296 - (take+aQ)) rfl (by omega) ?_
    refine AU e i d.symm cO r rfl (by omega) rfl (by omega) fun k l o=>?_
    refine cT ((aD+1:Nat):Int) (by omega) (by omega) (by omega) ?_
    exact bZ (aD+1) b 1 _ k (by omega) (by simp [d]) v (by omega) (fun q=>w (by omega)) l o (FI (by omega) (by rw [← f];omega) N)
   ·refine dM (bR.getD aD 0 - (take+aQ)) (by omega) (by omega) ?_
    refine k6 (bR.getD aD 0 - (take+aQ)) rfl (by omega) ?_
    refine AU e i d.symm cO r rfl (by omega) rfl (by omega) fun k l o=>?_
    refine cT ((aD+1:Nat):Int) (by omega) (by omega) (by omega) ?_
    exact bZ (aD+1) b 0 _ k (by omega) (by simp [d]) v (by omega) (fun q=>w (by omega)) l o (FI (by omega) (by rw [← f];omega) N)
  unfold h1.lL.t h1.sW.t
  refine cE (fun _=>?_) fun a3=>absurd (by omega) a3
  refine cE (fun a3=>?_) fun a3=>?_
  ·have QD:=aG.lY aD
   have f:=u6 z QD
   refine jJ (aG.aU cO.1) (aD:=aD) rfl y.symm (by omega) ?_
   refine dM (aX.getD aD 0) rfl (by omega) ?_
   have QE:(aE:Int)*((aX.getD aD 0:Nat):Int)=((aE*aX.getD aD 0:Nat):Int):=(Int.natCast_mul _ _).symm
   rw [QE]
   obtain⟨p,x⟩:∃ p,p=aE*aX.getD aD 0:=⟨_,rfl⟩
   rw [← x] at f ⊢
   refine dM p rfl (by omega) ?_
   refine dM (a+p) (by omega) (by omega) ?_
   refine oE rfl (by omega) ?_
   refine dM ((a+p) % 4294967296+aQ) (by omega) (by omega) ?_
   refine sS rfl ?_
   exact step p _ _ x (by omega) (by omega) (by omega) (fun q=>absurd a3 (by omega))
  ·have QF:aX.getD aD 0=0:=by simp [List.getD,show aX.length≤aD by omega]
   refine oE rfl (by omega) ?_
   refine dM (a % 4294967296+aQ) (by omega) (by omega) ?_
   refine sS rfl ?_
   exact step 0 _ _ (by rw [QF];rfl) (by omega) (by omega) (by omega) (fun q=>by omega)
theorem FJ{bR aX:List Nat}{aD T c dI t:Nat}(a:aD < bR.length)(a1:c+bR.getD aD 0+aX.getD aD 0=t+4294967296*dI)(N:D.val bR+c*2 ^ (32*aD)=T+D.val (aX.take aD)):
  D.val (bR.set aD t)+dI*2 ^ (32*(aD+1))=T+D.val (aX.take (aD+1)):=by
 have bH:=D.mT (a9:=bR) (aD:=aD) (v:=t) a
 rw [w8,D.kR]
 generalize 2 ^ (32*aD)=P at *
 generalize bR.getD aD 0=bS at *
 have b:(c+bS+aX.getD aD 0)*P=(t+4294967296*dI)*P:=by rw [a1]
 have d:(c+bS+aX.getD aD 0)*P=c*P+bS*P+P*aX.getD aD 0:=by rw [Nat.add_mul,Nat.add_mul,Nat.mul_comm P]
 have e:(t+4294967296*dI)*P=t*P+dI*(4294967296*P):=by rw [Nat.add_mul,Nat.mul_comm 4294967296,Nat.mul_assoc]
 omega
theorem Kf{Y:aF}{k:S→Nat→Nat→S→Nat→Nat→Int→Int→Int→U→Prop}{K:S}{c aZ n aI off T:Nat}{aE:Int}{aX e bA:List Nat}{b5 a1:U}(aG:cL cA b5 K aZ aX)(o:aX.length=n)(f:e.length=off)(l:b5.size≤aI)(u:n < 1099511627776)
  (g:∀ Z a bR,a≤1→bR.length=n+1→dZ cA Z aI (e ++ (bR ++ bA))→oG b5 aI a1 Z→D.val bR+a*2 ^ (32*(n+1))=T+D.val aX→k (some ⟨aI,off,none⟩) (n+1) c K n aZ (n:Int) aE ((1 - a:Nat):Int) Z) :
  ∀ (R aD a:Nat) (bR:List Nat) (Z:U),aD+R=n+1→bR.length=n+1→a≤1→dZ cA Z aI (e ++ (bR ++ bA))→oG b5 aI a1 Z→D.val bR+a*2 ^ (32*aD)=T+D.val (aX.take aD)→
   h1.hT.t Y k (R+1) (some ⟨aI,off,none⟩) (n+1) c K n aZ (n:Int) aE (a:Int) 1 (aD:Int) Z:=by
 intro R
 induction R with
 | zero=>
  intro aD a bR Z p b m d cO N
  unfold h1.hT.t h1.gS.t
  refine cE (fun a3=>absurd a3 (by omega)) fun _=>?_
  unfold h1.dD.t
  refine dM (1 - a) (by split <;> omega) (by omega) ?_
  rw [List.take_of_length_le (by omega),show aD=n+1 by omega] at N
  exact g Z a bR m b d cO N
 | succ R bZ=>
  intro aD a bR Z p b m d cO N
  have v:bR.getD aD 0 < 4294967296:=by
   refine n9 (by decide) (fun L q=>d.ok L ?_) aD
   exact List.mem_append_right _ (List.mem_append_left _ q)
  have r:bR.length≤70368744177656:=by omega
  unfold h1.hT.t h1.gS.t
  refine cE (fun _=>?_) fun a3=>absurd (by omega) a3
  refine AT d f b.symm r rfl (by omega) ?_
  refine dM (bR.getD aD 0) rfl (by omega) ?_
  refine dM (a+bR.getD aD 0) (by omega) (by omega) ?_
  refine cE (fun a3=>?_) fun a3=>?_
  ·have w:=aG.lY aD
   refine jJ (aG.aU cO.1) (aD:=aD) rfl o.symm (by omega) ?_
   refine dM (aX.getD aD 0) rfl (by omega) ?_
   refine dM (a+bR.getD aD 0+aX.getD aD 0) (by omega) (by omega) ?_
   refine oE rfl (by omega) ?_
   refine k6 ((a+bR.getD aD 0+aX.getD aD 0) % 4294967296) rfl (by omega) ?_
   refine AU d f b.symm cO l rfl (by omega) rfl (by omega) fun h i j=>?_
   refine sS rfl ?_
   refine cT ((aD+1:Nat):Int) (by omega) (by omega) (by omega) ?_
   exact bZ (aD+1) _ _ h (by omega) (by simp [b]) (by omega) i j (FJ (by omega) (by omega) N)
  ·have s:aX.getD aD 0=0:=by simp [List.getD,show aX.length≤aD by omega]
   refine oE rfl (by omega) ?_
   refine k6 ((a+bR.getD aD 0) % 4294967296) rfl (by omega) ?_
   refine AU d f b.symm cO l rfl (by omega) rfl (by omega) fun h i j=>?_
   refine sS rfl ?_
   refine cT ((aD+1:Nat):Int) (by omega) (by omega) (by omega) ?_
   exact bZ (aD+1) _ _ h (by omega) (by simp [b]) (by omega) i j (FJ (by omega) (by rw [s];omega) N)
theorem Kg{Y:aF}{K:S}{c aZ n aI off dO:Nat}{aX f bA:List Nat}{b5 a1:U}(aG:cL cA b5 K aZ aX)(l:aX.length=n)(m:f.length=off)(o:b5.size≤aI)(p:n < 1099511627776)(h:0 < D.val aX)
  (post:∀ Z bR,bR.length=n+1→dZ cA Z aI (f ++ (bR ++ bA))→oG b5 aI a1 Z→D.val bR=dO % D.val aX→Y (.int .u32 ((dO / D.val aX:Nat):Int)) Z) :
  ∀ (R aE aQ:Nat) (bR:List Nat) (Z:U),aE≤dO / D.val aX+R→dO / D.val aX≤aE→aE < 4294967296→aQ≤1→bR.length=n+1→dZ cA Z aI (f ++ (bR ++ bA))→oG b5 aI a1 Z→D.val bR+aE*D.val aX=dO+aQ*2 ^ (32*(n+1))→
   h1.cP.t Y (R+1) (some ⟨aI,off,none⟩) (n+1) c K n aZ (n:Int) (aE:Int) (aQ:Int) Z:=by
 have q:=Nat.div_add_mod dO (D.val aX)
 have r:=Nat.mod_lt dO h
 have fin:∀ (aE:Nat) (bR:List Nat) (Z:U),dO / D.val aX≤aE→aE < 4294967296→bR.length=n+1→dZ cA Z aI (f ++ (bR ++ bA))→oG b5 aI a1 Z→D.val bR+aE*D.val aX=dO→h1.a5.t Y (aE:Int) Z:=by
  intro aE bR Z d e a b cO N
  have s:aE≤dO / D.val aX:=by rw [Nat.le_div_iff_mul_le h];omega
  have k:aE=dO / D.val aX:=Nat.le_antisymm s d
  unfold h1.a5.t
  refine k6 aE rfl e ?_
  rw [k]
  refine post Z bR a b cO ?_
  rw [k,Nat.mul_comm] at N;omega
 have more:∀ (aE:Nat) (bR:List Nat),bR.length=n+1→(∀ L ∈ bR,L < 4294967296)→D.val bR+aE*D.val aX=dO+1*2 ^ (32*(n+1))→dO / D.val aX < aE:=by
  intro aE bR a u N
  have dC:=D.iK (aC:=bR) u
  rw [a] at dC
  rw [Nat.div_lt_iff_lt_mul h];omega
 clear q r
 generalize dO / D.val aX=Q at *
 intro R
 induction R with
 | zero=>
  intro aE aQ bR Z v d e w a b cO N
  unfold h1.cP.t h1.cF.t
  have x:aQ=0:=by
   rcases Nat.lt_or_ge aQ 1 with i | i
   ·omega
   ·have:aQ=1:=by omega
    subst this
    have:=more aE bR a (fun L j=>b.ok L (List.mem_append_right _ (List.mem_append_left _ j))) N
    omega
  subst x
  refine cE (fun a3=>absurd a3 (by omega)) fun _=>?_
  exact fin aE bR Z d e a b cO (by omega)
 | succ R bZ=>
  intro aE aQ bR Z v d e w a b cO N
  unfold h1.cP.t h1.cF.t
  refine cE (fun a3=>?_) fun a3=>?_
  ·have y:aQ=1:=by omega
   subst y
   have F:=more aE bR a (fun L j=>b.ok L (List.mem_append_right _ (List.mem_append_left _ j))) N
   unfold h1.cH.t
   refine dM (aE - 1) (by omega) (by omega) ?_
   unfold h1.eX.t
   refine⟨n+2,?_⟩
   refine Kf (T:=D.val bR) aG l m o p (fun z g A G B C E H=>?_) (n+1) 0 0 bR Z (by omega) a (by omega) b cO (by simp [D.val])
   refine bZ (aE - 1) (1 - g) A z (by omega) (by omega) (by omega) (by omega) B C E ?_
   have I:(aE - 1)*D.val aX+D.val aX=aE*D.val aX:=by
    rw [← Nat.succ_mul,Nat.succ_eq_add_one,Nat.sub_add_cancel (by omega)]
   generalize 2 ^ (32*(n+1))=cI at *
   rcases Nat.lt_or_ge g 1 with i | i
   ·have:g=0:=by omega
    subst this;omega
   ·have:g=1:=by omega
    subst this;omega
  ·have:aQ=0:=by omega
   subst this
   exact fin aE bR Z d e a b cO (by omega)
theorem FK{aC:List Nat}(a:D.Words aC){m:Nat}(b:aC.length=m+1):D.val aC / 2 ^ (32*m)=aC.getD m 0:=by
 rw [← D.lW a,jD (by omega),List.drop_of_length_le (by omega)];simp [D.val]
theorem Kh{aC:List Nat}(a:D.Words aC){m:Nat}(b:aC.length=m+2):D.val aC / 2 ^ (32*m)=aC.getD m 0+4294967296*aC.getD (m+1) 0:=by
 rw [← D.lW a,jD (by omega),jD (by omega),List.drop_of_length_le (by omega)];simp [D.val]
theorem Ki{K:S}{c aZ l n aI off m dO:Nat}{aX e bR bA:List Nat}{b5 Z:U}(aG:cL cA b5 K aZ aX)(f:aX.length=n)(u:n=l)(a:e.length=off)(k:b5.size≤aI)(o:n < 1099511627776)(V:0 < n)(Qx:aX.getD (n - 1) 0 ≠ 0)(p:D.val bR=dO)(dC:dO < 4294967296*D.val aX)
  (g:bR.length=n+1) (w:m=n+1) (b:dZ cA Z aI (e ++ (bR ++ bA))) (x:bK b5 Z) :
  a4 h1.id #[.slice (some ⟨aI,off,none⟩) m c,.slice K l aZ] Z fun v aB=>v=.int .u32 ((dO / D.val aX:Nat):Int)∧oG b5 aI Z aB∧∃ h,h.length=n+1∧dZ cA aB aI (e ++ (h ++ bA))∧D.val h=dO % D.val aX:=by
 subst w;subst u
 have cO:oG b5 aI Z Z:=⟨x,cG.refl _ _⟩
 refine h1.ok ?_
 unfold h1.t h1.aP.t
 have q:bR.length≤70368744177656:=by omega
 have i:D.Words bR:=fun L y=>b.ok L (List.mem_append_right _ (List.mem_append_left _ y))
 have z:=n9 (aC:=bR) (bA:=4294967296) (by decide) i n
 have Qy:=n9 (aC:=bR) (bA:=4294967296) (by decide) i (n - 1)
 have Qz:=aG.lY (n - 1)
 refine AT b a g.symm q (aD:=n) rfl (by omega) ?_
 refine dM (bR.getD n 0) rfl (by omega) ?_
 refine CD rfl z ?_
 refine cT ((n - 1:Nat):Int) (by omega) (by omega) (by omega) ?_
 refine AT b a g.symm q (aD:=n - 1) rfl (by omega) ?_
 refine dM (bR.getD (n - 1) 0) rfl (by omega) ?_
 refine dM (bR.getD (n - 1) 0+4294967296*bR.getD n 0) (by omega) (by omega) ?_
 refine cT ((n - 1:Nat):Int) (by omega) (by omega) (by omega) ?_
 refine jJ (aG.aU cO.1) (aD:=n - 1) rfl f.symm (by omega) ?_
 refine dM (aX.getD (n - 1) 0) rfl (by omega) ?_
 refine⟨by omega,?_⟩
 rw [o4]
 have QA:=Nat.div_le_self (bR.getD (n - 1) 0+4294967296*bR.getD n 0) (aX.getD (n - 1) 0)
 refine dM ((bR.getD (n - 1) 0+4294967296*bR.getD n 0) / aX.getD (n - 1) 0) rfl (by omega) ?_
 have r:0 < D.val aX:=by
  rcases Nat.eq_zero_or_pos (D.val aX) with N | N
  ·rw [N] at dC;omega
  ·exact N
 have s:=FK aG.ok (m:=n - 1) (by omega)
 have d:=Kh i (m:=n - 1) (by omega)
 rw [show n - 1+1=n by omega,p] at d
 have QB:dO / D.val aX≤(bR.getD (n - 1) 0+4294967296*bR.getD n 0) / aX.getD (n - 1) 0:=by
  rw [← d,← s,Nat.div_div_eq_div_mul]
  refine Nat.div_le_div_left (Nat.mul_div_le _ _) ?_
  rw [s];exact Nat.mul_pos (Nat.pow_pos (by decide)) (by omega)
 have QC:dO / D.val aX < 4294967296:=by rw [Nat.div_lt_iff_lt_mul r];exact dC
 generalize (bR.getD (n - 1) 0+4294967296*bR.getD n 0) / aX.getD (n - 1) 0=j at *
 obtain⟨aE,QD⟩:∃ aE:Nat,aE=min j 4294967295:=⟨_,rfl⟩
 have A:(if (4294967295:Int) < (j:Int) then(4294967295:Int) else(j:Int))=(aE:Int):=by split <;> omega
 rw [A]
 unfold h1.sX.t
 refine⟨n+2,?_⟩
 refine Ke (dO:=dO) aG f a k (by omega) o (fun B aQ C E F G H d=>?_) (n+1) 0 0 0 bR Z (by omega) g (by decide) (by omega) (by omega) b cO (by simp [D.val,p])
 refine⟨aE - dO / D.val aX+1,?_⟩
 exact Kg aG f a k o r (fun QE I J P Q T=>⟨rfl,Q,I,J,P,T⟩) _ aE aQ C B (by omega) (by omega) (by omega) E F G H d
def oH(a7 bQ:Nat):Nat × Nat:=if bQ=0 then(0,0) else(a7 / bQ,a7 % bQ)
theorem FL{a:List Nat}{R V:Nat}(d:V≤2 ^ (32*R))(Z:D.val a < V)(b:D.Words a):D.val (a.drop R)=0∧D.val (a.take R)=D.val a:=by
 have N:D.val a=D.val (a.take R)+2 ^ (32*R)*D.val (a.drop R):=by
  by_cases c:R≤a.length
  ·conv=>lhs;rw [← List.take_append_drop R a]
   rw [D.h5,List.length_take,Nat.min_eq_left c]
  ·rw [List.take_of_length_le (by omega),List.drop_of_length_le (by omega)];simp [D.val]
 have a2:D.val (a.drop R)=0:=by
  rw [D.lW b];exact Nat.div_eq_of_lt (by omega)
 rw [a2] at N
 exact⟨a2,by omega⟩
theorem Kj{Y:aF}{K:S}{aZ n c e b hU iG:Nat}{g7:Int}{aX hH rest:List Nat}{b5:U}(aG:cL cA b5 K aZ aX)(w:aX.length=n)(hu:b5.size≤c)(T:b5.size≤e)(x:c ≠ e)(V:n < 1099511627776)(Qx:0 < n)(y:aX.getD (n - 1) 0 ≠ 0)(QX:b < 1099511627776)(QY:b≤hU)(QZ:n < b)
  (Qy:D.val hH=iG) (Q0:hH.length=b) (z:D.Words hH)
  (post:∀ Z a eW,a.length=b→eW.length=b - n→dZ cA Z c (a ++ rest)→dZ cA Z e eW→bK b5 Z→D.val a=iG % D.val aX→D.val eW=iG / D.val aX→hY.bM.t Y g7 (some ⟨c,0,none⟩) b hU (n:Int) (some ⟨e,0,none⟩) (b - n) (b - n) Z) :
  ∀ (aD:Nat) (a eW:List Nat) (Z:U),aD≤b - n→a.length=b→eW.length=b - n→dZ cA Z c (a ++ rest)→dZ cA Z e eW→bK b5 Z→a.take aD=hH.take aD→D.val (a.drop aD) < D.val aX→D.val (eW.drop aD)*D.val aX+D.val (a.drop aD)=iG / 2 ^ (32*aD)→
   hY.dS.t Y (aD+1) g7 K n aZ (some ⟨c,0,none⟩) b hU (n:Int) (some ⟨e,0,none⟩) (b - n) (b - n) ((aD:Int) - 1) Z:=by
 have A:=D.iK aG.ok
 rw [w] at A
 have k:0 < D.val aX:=by
  rcases Nat.eq_zero_or_pos (D.val aX) with N | N
  ·exfalso
   have:=FK aG.ok (m:=n - 1) (by omega)
   rw [N,Nat.zero_div] at this;exact y this.symm
  ·exact N
 intro aD
 induction aD with
 | zero=>
  intro a eW Z Qz B l f j cO _ dC N
  unfold hY.dS.t hY.dD.t
  refine cE (fun a3=>absurd a3 (by omega)) fun _=>?_
  rw [List.drop_zero] at dC N
  rw [List.drop_zero,Nat.mul_zero,Nat.pow_zero,Nat.div_one] at N
  refine post Z a eW B l f j cO ?_ ?_
  ·rw [← N,Nat.mul_comm,Nat.mul_add_mod,Nat.mod_eq_of_lt dC]
  ·rw [← N,Nat.mul_comm,Nat.mul_add_div k,Nat.div_eq_of_lt dC,Nat.add_zero]
 | succ aD bZ=>
  intro a eW Z Qz B l f j cO C dC N
  have E:D.Words a:=fun L o=>f.ok L (List.mem_append_left _ o)
  have Q1:D.Words eW:=j.ok
  unfold hY.dS.t hY.dD.t
  refine cE (fun _=>?_) fun a3=>absurd (by omega) a3
  refine cT ((aD+n:Nat):Int) (by omega) (by omega) (by omega) ?_
  refine cT ((aD+n+1:Nat):Int) (by omega) (by omega) (by omega) ?_
  have QA:(((aD+1:Nat):Int) - 1)=(aD:Int):=by omega
  rw [QA]
  have QB:∀ {aH:S→Nat→Nat→Prop},aH (some ⟨c,aD,none⟩) (n+1) (hU - aD)→iR 1 (some ⟨c,0,none⟩) b hU (some (.int .i64 (aD:Int))) (some (.int .i64 ((aD+n+1:Nat):Int))) none aH:=by
   intro aH g
   refine⟨⟨by omega,by omega⟩,⟨by omega,by omega⟩,?_⟩
   show aH (jT (some ⟨c,0,none⟩) hU ((aD:Int)).toNat 1) ((((aD+n+1:Nat):Int)).toNat - ((aD:Int)).toNat) (hU - ((aD:Int)).toNat)
   have p:(((aD+n+1:Nat):Int)).toNat - ((aD:Int)).toNat=n+1:=by omega
   have h:hU - ((aD:Int)).toNat=hU - aD:=by omega
   have QC:jT (some ⟨c,0,none⟩) hU ((aD:Int)).toNat 1=some ⟨c,aD,none⟩:=by
    unfold jT
    rw [if_neg (by omega),Int.toNat_natCast,Nat.mul_one]
    show some ((⟨c,0,none⟩:Addr).add aD)=_
    rw [cB]
   rw [p,h,QC];exact g
  refine QB ?_
  obtain⟨d,q⟩:∃ d,d=a.take aD:=⟨_,rfl⟩
  obtain⟨bR,r⟩:∃ bR,bR=(a.drop aD).take (n+1):=⟨_,rfl⟩
  obtain⟨bA,c0⟩:∃ bA,bA=a.drop (aD+(n+1)):=⟨_,rfl⟩
  have QD:a=d ++ (bR ++ bA):=by
   rw [q,r,c0,← List.drop_drop,List.take_append_drop,List.take_append_drop]
  have s:d.length=aD:=by rw [q,List.length_take];omega
  have QE:bR.length=n+1:=by rw [r,List.length_take,List.length_drop];omega
  have Q2:bA.length=b - (aD+(n+1)):=by rw [c0,List.length_drop];omega
  have Q3:D.val (a.drop aD)=a.getD aD 0+4294967296*D.val (a.drop (aD+1)):=D.mD a aD
  have Q4:a.getD aD 0 < 4294967296:=n9 (by decide) E aD
  have u:D.val (a.drop aD) < 4294967296*D.val aX:=by omega
  have QF:D.val (a.drop aD) < 2 ^ (32*(n+1)):=by
   rw [D.kR]
   calc D.val (a.drop aD) < 4294967296*D.val aX:=u
    _≤4294967296*2 ^ (32*n):=Nat.mul_le_mul_left _ (Nat.le_of_lt A)
  have QG:D.Words (a.drop aD):=fun L o=>E L (List.mem_of_mem_drop o)
  have F:=FL (Nat.le_refl _) QF QG
  have QH:D.val bR=D.val (a.drop aD):=by rw [r];exact F.2
  have QI:D.val bA=0:=by
   have:=F.1
   rw [List.drop_drop] at this
   rw [c0];exact this
  have QJ:dZ cA Z c (d ++ (bR ++ (bA ++ rest))):=by
   rw [QD] at f;simpa [List.append_assoc] using f
  refine cD (Ki (dO:=D.val (a.drop aD)) aG w rfl s hu V Qx y QH u QE rfl QJ cO) fun v QK ⟨h,G,i,Q5,QL,QM⟩=>?_
  subst h
  refine b0 rfl ?_
  have QN:D.val (a.drop aD) / D.val aX < 4294967296:=by rw [Nat.div_lt_iff_lt_mul k];exact u
  have QO:dZ cA QK e eW:=j.cR (fun N=>x N.symm) G.2
  refine AG QO (aD:=aD) rfl (by omega) (by omega) rfl QN fun QP H=>?_
  have QQ:=H.aU G.1 T
  have QR:=QL.cR x H
  refine cT ((aD:Int) - 1) (by omega) (by omega) (by omega) ?_
  have QS:=Nat.mod_lt (D.val (a.drop aD)) k
  have Q6:=Nat.div_add_mod (D.val (a.drop aD)) (D.val aX)
  have I:(d ++ (i ++ bA)).drop aD=i ++ bA:=by rw [← s,List.drop_left]
  have J:D.val (i ++ bA)=D.val (a.drop aD) % D.val aX:=by
   rw [D.h5,QI,QM];simp
  have QT:a.take aD=hH.take aD:=by
   have:=congrArg (List.take aD) C
   rwa [List.take_take,List.take_take,Nat.min_eq_left (by omega)] at this
  have QU:a.getD aD 0=hH.getD aD 0:=by
   have p:(a.take (aD+1)).getD aD 0=a.getD aD 0:=by simp [List.getD]
   have h:(hH.take (aD+1)).getD aD 0=hH.getD aD 0:=by simp [List.getD]
   rw [← p,← h,C]
  refine bZ (d ++ (i ++ bA)) (eW.set aD (D.val (a.drop aD) / D.val aX)) _ (by omega) (by simp;omega) (by simp [l]) (by simpa [List.append_assoc] using QR) QP QQ ?_ ?_ ?_
  ·have Q:(d ++ (i ++ bA)).take d.length=d:=List.take_left
   rw [s] at Q;rw [Q,q];exact QT
  ·rw [I,J];exact QS
  ·rw [I,J]
   have QV:(eW.set aD (D.val (a.drop aD) / D.val aX)).drop aD=D.val (a.drop aD) / D.val aX :: eW.drop (aD+1):=by
    rw [jD (by simp;omega),List.drop_set_of_lt (by omega)]
    simp [List.getD,show aD < eW.length by omega]
   have QW:iG / 2 ^ (32*aD)=hH.getD aD 0+4294967296*(iG / 2 ^ (32*(aD+1))):=by
    rw [← Qy,← D.lW z,← D.lW z,D.mD]
   rw [QV,QW,← N,← QU]
   simp only [D.val]
   rw [Nat.add_mul,Nat.mul_comm (D.val (a.drop aD) / D.val aX),Nat.mul_assoc]
   generalize D.val (eW.drop (aD+1))*D.val aX=P at *
   omega
theorem Kk{a7 n:Nat}(Z:eJ a7=32*n)(b:0 < n):(D.aN a7).length=n:=by
 refine Nat.le_antisymm ((D.AE n).mp (by omega)) ?_
 rcases Nat.lt_or_ge (D.aN a7).length n with a | a
 ·have:=(D.AE (v:=a7) (n - 1)).mpr (by omega)
  omega
 ·exact a
theorem FM{a K:S}{c aZ l m a7 bQ:Nat}{Z:U}(r:cL cA Z a c (D.aN a7))(aG:cL cA Z K aZ (D.aN bQ))(QV:l=(D.aN a7).length)(QW:m=(D.aN bQ).length)(RF:(D.aN a7).length≤1099511627770):
  a4 hY.id #[.slice a l c,.slice K m aZ] Z fun v aB=>bK Z aB∧s2 gX gX Z aB v (oH a7 bQ):=by
 subst QV;subst QW
 have Qy:D.val (D.aN a7)=a7:=D.e9 a7
 have E:D.val (D.aN bQ)=bQ:=D.e9 bQ
 refine hY.ok ?_
 unfold hY.t hY.aP.t
 refine gL (fun a2=>?_) fun a2=>?_
 ·have N:D.aN bQ=[]:=List.length_eq_zero_iff.mp (by omega)
  have z:bQ=0:=by rw [← E,N];rfl
  refine cD (o5 (aE:=0) rfl (by decide) Z) fun v a1 ⟨cC,F⟩=>?_
  refine F.elim fun aM aK j=>?_
  refine cD (o5 (aE:=0) rfl (by decide) a1) fun v Qz ⟨f,k⟩=>?_
  refine k.elim fun bO bN u=>?_
  unfold oH;rw [if_pos z]
  exact⟨cC.trans f,_,_,rfl,⟨_,_,rfl,j.aU f⟩,⟨_,_,rfl,u.from cC.le⟩⟩
 have z:bQ ≠ 0:=by
  intro N;subst N;rw [D.e0] at a2;exact a2 rfl
 unfold oH;rw [if_neg z]
 refine cD (AP r aG rfl rfl) fun v aB ⟨g,G⟩=>?_
 subst g;subst G
 refine b0 rfl ?_
 refine cE (fun a3=>?_) fun a3=>?_
 ·have dC:a7 < bQ:=by unfold fU at a3;split at a3 <;> (try split at a3) <;> omega
  refine cD (o5 (aE:=0) rfl (by decide) aB) fun v a1 ⟨cC,F⟩=>?_
  refine F.elim fun aM aK j=>?_
  refine cD (oF (r.aU cC) rfl) fun v Qz ⟨f,k⟩=>?_
  rw [Qy] at k
  refine k.elim fun bO bN u=>?_
  rw [Nat.div_eq_of_lt dC,Nat.mod_eq_of_lt dC]
  exact⟨cC.trans f,_,_,rfl,⟨_,_,rfl,j.aU f⟩,⟨_,_,rfl,u.from cC.le⟩⟩
 have QX:bQ≤a7:=by unfold fU at a3;split at a3 <;> (try split at a3) <;> omega
 have o:(D.aN bQ).getD ((D.aN bQ).length - 1) 0 ≠ 0:=by
  rcases w6.mp (D.rH bQ) with N | N
  ·rw [N] at a2;exact absurd rfl a2
  ·exact N
 have A:=aG.lY ((D.aN bQ).length - 1)
 have RG:(D.aN bQ).length≤(D.aN a7).length:=D.o1 QX
 refine gL (fun a1=>?_) fun a1=>?_
 ·have QY:(D.aN bQ).length=1:=by omega
  rw [QY] at o A
  have QZ:(D.aN bQ).getD 0 0=bQ:=by
   have N:=D.mD (D.aN bQ) 0
   rw [List.drop_zero,E,List.drop_of_length_le (by omega)] at N
   simpa [D.val] using N.symm
  have Q0:(D.aN bQ).getD 0 0 ≠ 0:=o
  have QA:(D.aN bQ).getD 0 0 < 4294967296:=A
  refine jJ aG (aD:=0) rfl rfl (by omega) ?_
  rw [QZ] at Q0 QA ⊢
  refine cD (CH r rfl rfl QA (by omega)) fun v a1 ⟨cC,aM,aK,N,j⟩=>?_
  subst N
  rw [Qy] at j ⊢
  have RH:=Nat.mod_lt a7 (show 0 < bQ by omega)
  refine gY rfl (cS (bL rfl (cS (b0 rfl (eG ?_)))))
  refine dM (a7 % bQ) rfl (by omega) ?_
  refine cD (o5 (aE:=a7 % bQ) rfl (by omega) a1) fun v Qz ⟨f,k⟩=>?_
  refine k.elim fun bO bN u=>?_
  exact⟨cC.trans f,_,_,rfl,⟨_,_,rfl,j.aU f⟩,⟨_,_,rfl,u.from cC.le⟩⟩
 refine cT (((D.aN bQ).length - 1:Nat):Int) (by omega) (by omega) (by omega) ?_
 refine FB rfl (by omega) ?_
 obtain⟨mX,B⟩:∃ mX,mX=(D.aN bQ).getD ((D.aN bQ).length - 1) 0:=⟨_,rfl⟩
 have Q1:(D.aN bQ).drop ((D.aN bQ).length - 1)=[mX]:=by
  rw [jD (by omega),List.drop_of_length_le (by omega),B]
 have QB:=aG.drop (m:=aZ) ((D.aN bQ).length - 1) (by omega) aG.cap
 rw [Q1] at QB
 rw [← B] at o A
 have Q2:eA [mX]=[mX]:=by simp [eA,o]
 refine cD (Fx QB (by simp;omega) Q2) fun v w ⟨g,G⟩=>?_
 subst g;subst G
 refine b0 rfl ?_
 have Q3:D.val [mX]=mX:=by simp [D.val]
 rw [Q3]
 have RI:eJ mX≤32:=iL.mpr A
 have RJ:=rI o
 obtain⟨d,RK⟩:∃ d,d=32 - eJ mX:=⟨_,rfl⟩
 refine cT ((d:Nat):Int) (by omega) (by omega) (by omega) ?_
 have Q4:=D.yN (D.qP bQ) (n:=(D.aN bQ).length - 1) (by omega) (by rw [← B];exact o)
 rw [E,← B] at Q4
 obtain⟨n,RL⟩:∃ n,n=(D.aN bQ).length:=⟨_,rfl⟩
 obtain⟨V,p⟩:∃ V,V=bQ*2 ^ d:=⟨_,rfl⟩
 have Q5:eJ V=32*n:=by rw [p,AV d z];omega
 have q:(D.aN V).length=n:=Kk Q5 (by omega)
 refine cD (AS aG rfl rfl (by omega) (by omega)) fun v QC ⟨QD,QE⟩=>?_
 rw [← p] at QE
 refine QE.elim fun Q6 Q7 Q8=>?_
 refine cD (AS (r.aU QD) rfl rfl (by omega) (by omega)) fun v Q9 ⟨Ra,Rb⟩=>?_
 refine Rb.elim fun Rc hU QF=>?_
 obtain⟨iG,x⟩:∃ iG,iG=a7*2 ^ d:=⟨_,rfl⟩
 rw [← x] at QF ⊢
 obtain⟨e,QG⟩:∃ e,e=(D.aN a7).length:=⟨_,rfl⟩
 have Rd:a7 < 2 ^ (32*e):=D.gZ.mp (Nat.le_of_eq QG.symm)
 have Re:d < 32:=by omega
 have Rf:2 ^ d < 4294967296:=CI Re
 have RM:(D.aN iG).length≤e+1:=by rw [x];exact FH (Nat.le_of_eq QG.symm) Rf
 have Rg:=Q8.rd
 have pad:∀ (R:Nat) (b:List Nat) (c9:S) (cZ:Nat) (s:U),b.length+R=e+1→D.val b=iG→cX cA QC s c9 cZ b→bK QC s→
   hY.gD.t (fun v h=>bK w h∧s2 gX gX w h v (a7 / bQ,a7 % bQ)) (R+1) a (D.aN a7).length c ((d:Nat):Int) Q6 (D.aN V).length Q7 c9 b.length cZ s:=by
  intro R
  induction R with
  | zero=>
   intro b c9 cZ s Rh iA i C
   unfold hY.gD.t hY.hI.t
   refine cE (fun a3=>absurd a3 (by omega)) fun _=>?_
   unfold hY.a5.t
   have QH:b.length=e+1:=by omega
   refine cT ((b.length - n:Nat):Int) (by omega) (by omega) (by omega) ?_
   refine qS cA 0 (b.length - n) (b.length - n) rfl qR 4 rfl (by decide) rfl rfl (Nat.le_refl _) (by omega) fun H Ri y=>?_
   unfold hY.cF.t
   refine cT ((b.length - n:Nat):Int) (by omega) (by omega) (by omega) ?_
   refine cT (((b.length - n:Nat):Int) - 1) (by omega) (by omega) (by omega) ?_
   refine⟨b.length - n+1,?_⟩
   rw [Int.toNat_natCast]
   have QI:=i.aU y
   rcases i.here with ⟨g,_,_⟩ | ⟨Rj,rest,g,Rk,QJ,RN⟩
   ·rw [g] at QH;simp at QH
   subst g
   have Rl:Rj ≠ s.size:=Nat.ne_of_lt QJ.lt
   have QK:(D.aN V).getD ((D.aN V).length - 1) 0 ≠ 0:=by
    rcases w6.mp (D.rH V) with N | N
    ·rw [N] at q;simp at q;omega
    ·exact N
   have Rm:2 ^ (32*(n - 1))*2 ^ d≤V:=by
    rw [p]
    refine Nat.mul_le_mul_right _ ?_
    rcases Nat.lt_or_ge bQ (2 ^ (32*(n - 1))) with I | I
    ·have:=(D.gZ (n:=bQ) (R:=n - 1)).mpr I
     omega
    ·exact I
   have Rn:iG < V*2 ^ (32*(b.length - n)):=by
    have Ro:2 ^ (32*e)*2 ^ d=2 ^ (32*(n - 1))*2 ^ d*2 ^ (32*(b.length - n)):=by
     rw [Nat.mul_assoc,Nat.mul_comm (2 ^ d),← Nat.mul_assoc]
     congr 1
     rw [← Nat.pow_add,show 32*(n - 1)+32*(b.length - n)=32*e by omega]
    calc iG < 2 ^ (32*e)*2 ^ d:=by rw [x];exact Nat.mul_lt_mul_of_pos_right Rd (Nat.pow_pos (by decide))
     _=2 ^ (32*(n - 1))*2 ^ d*2 ^ (32*(b.length - n)):=Ro
     _≤V*2 ^ (32*(b.length - n)):=Nat.mul_le_mul_right _ Rm
   have QL:D.Words b:=i.rd.ok
   have QM:D.val (b.drop (b.length - n))=iG / 2 ^ (32*(b.length - n)):=by rw [D.lW QL,iA]
   have J:D.val (D.aN V)=V:=D.e9 V
   have go:=Kj (Y:=fun v h=>bK w h∧s2 gX gX w h v (a7 / bQ,a7 % bQ)) (iG:=iG) (hH:=b) (g7:=((d:Nat):Int)) (hU:=cZ) (rest:=rest) Rg q Rk (Nat.le_trans C.le (Nat.le_refl _)) Rl (by omega) (by omega) (by rw [q] at QK;exact QK) (by omega) i.cap (by omega) iA rfl QL (fun h QN RO RP Rp QO Rq Rr P Rs=>?_) (b.length - n) b (List.replicate (b.length - n) 0) H (Nat.le_refl _) rfl (by simp) (QJ.aU y) Ri (C.trans y) rfl ?_ ?_
   ·rw [q];exact go
   ·unfold hY.bM.t
    have RQ:=i.cap
    refine cD (oF (Rq.n7 (c:=b.length - n) (by show _≤70368744177656;omega) (by omega)) Rp.symm) fun v fV ⟨Q,QP⟩=>?_
    rw [Rs,J] at QP
    refine QP.elim fun RR RS QQ=>?_
    refine w4 rfl (by omega) ?_
    rw [J] at P
    have Rt:0 < V:=by rw [p];exact Nat.mul_pos (by omega) (Nat.pow_pos (by decide))
    have Ru:D.val QN < V:=by rw [P];exact Nat.mod_lt _ Rt
    have Rv:V≤2 ^ (32*n):=Nat.le_of_lt (D.gZ.mp (Nat.le_of_eq q))
    have Rw:D.Words QN:=fun L Rx=>QO.ok L (List.mem_append_left _ Rx)
    have Ry:=FL Rv Ru Rw
    have Rz:=((QO.rd (c:=cZ) (by show _≤70368744177656;omega) (by omega)).aU Q).take n
    refine cD (oF Rz (by rw [List.length_take];omega)) fun v RT ⟨T,QR⟩=>?_
    rw [Ry.2,P] at QR
    refine QR.elim fun RU RV RA=>?_
    refine cD (CK RA.rd rfl rfl (by omega)) fun v RW ⟨QS,RB⟩=>?_
    refine RB.elim fun RX RY QT=>?_
    have QU:0 < 2 ^ d:=Nat.pow_pos (by decide)
    have RC:iG / V=a7 / bQ:=by rw [x,p,Nat.mul_div_mul_right _ _ QU]
    have RD:iG % V / 2 ^ d=a7 % bQ:=by rw [x,p,Nat.mul_mod_mul_right,Nat.mul_div_cancel _ QU]
    rw [RC] at QQ ⊢
    rw [RD] at QT ⊢
    have Qx:bK w h:=QD.trans Rr
    exact⟨Qx.trans (Q.trans (T.trans QS)),_,_,rfl,⟨_,_,rfl,(QQ.aU (T.trans QS)).from Qx.le⟩,⟨_,_,rfl,QT.from ((Qx.trans Q).trans T).le⟩⟩
   ·rw [J,QM]
    rw [Nat.div_lt_iff_lt_mul (Nat.pow_pos (by decide))];exact Rn
   ·rw [List.drop_of_length_le (by simp),QM];simp [D.val]
  | succ R bZ=>
   intro b c9 cZ s Rh iA i C
   unfold hY.gD.t hY.hI.t
   refine cE (fun _=>?_) fun a3=>absurd (by omega) a3
   refine sT (n:=0) i C rfl rfl (by decide) (by omega) (by omega) fun RE dI H QI y _=>?_
   have:=bZ (b ++ [0]) RE dI H (by simp;omega) (by rw [D.h5,iA];simp [D.val]) QI y
   simpa using this
 refine⟨e+1 - (D.aN iG).length+1,?_⟩
 exact pad _ (D.aN iG) Rc hU Q9 (by omega) (D.e9 iG) (QF.from (Nat.le_refl _)) Ra
theorem Kl{Y:aF}{a K:S}{c aZ l m:Nat}{aC aX:List Nat}{Z:U}(r:cJ Z a c aC)(aG:cJ Z K aZ aX)(f:l=aC.length)(h:m=aX.length)(e:aC.length=aX.length)(g:Y (.int .i64 (fU (val aC) (val aX))) Z):
  ∀ n:Nat,n≤aC.length→aC.drop n=aX.drop n→jO.bU.t Y (n+1) a l c K m aZ ((n:Int) - 1) Z:=by
 subst f;subst h
 have a1:=r.len
 intro n
 induction n with
 | zero=>
  intro i b
  unfold jO.bU.t jO.cH.t
  refine cE (fun a3=>absurd a3 (by omega)) fun _=>?_
  have N:aC=aX:=by simpa using b
  unfold jO.a5.t
  rw [N] at g
  have d:fU (val aX) (val aX)=0:=by simp [fU]
  rw [d] at g;exact g
 | succ n bZ=>
  intro i b
  unfold jO.bU.t jO.cH.t
  refine cE (fun a3=>?_) fun a3=>absurd (by omega) a3
  refine gJ r (aD:=n) (by omega) rfl (by omega) ?_
  refine gJ aG (aD:=n) (by omega) rfl (by omega) ?_
  refine j8 (fun j=>?_) fun k=>?_
  ·refine gJ r (aD:=n) (by omega) rfl (by omega) ?_
   refine gJ aG (aD:=n) (by omega) rfl (by omega) ?_
   refine cE (fun dC=>?_) fun dC=>?_
   ·have:=uZ r.words aG.words e (by omega) b (by omega)
    have d:fU (val aC) (val aX)=-1:=by simp [fU,this]
    rw [d] at g;exact g
   ·have:=uZ aG.words r.words e.symm (by omega) b.symm (aD:=n) (by omega)
    have d:fU (val aC) (val aX)=1:=by unfold fU;rw [if_neg (by omega),if_neg (by omega)]
    rw [d] at g;exact g
  ·refine cT ((n:Int) - 1) (by omega) (by omega) (by omega) ?_
   refine bZ (by omega) ?_
   rw [jD (by omega),jD (aC:=aX) (by omega),b,show aC.getD n 0=aX.getD n 0 by omega]
theorem CM{a K:S}{c aZ l m:Nat}{aC aX:List Nat}{Z:U}(r:cJ Z a c aC)(aG:cJ Z K aZ aX)(g:l=aC.length)(h:m=aX.length):
  a4 jO.id #[.slice a l c,.slice K m aZ] Z fun v aB=>aB=Z∧v=.int .i64 (fU (val aC) (val aX)):=by
 refine jO.ok ?_
 unfold jO.t jO.aP.t
 refine cD (yV r g) fun v aB ⟨b,d,e⟩=>?_
 subst b;subst d
 refine bL rfl ?_
 refine cD (yV aG h) fun v aB ⟨b,d,f⟩=>?_
 subst b;subst d
 refine bL rfl ?_
 rw [← sN aC,← sN aX]
 have i:=e.len
 refine j8 (fun j=>?_) fun k=>?_
 ·refine cE (fun dC=>⟨rfl,?_⟩) fun dC=>⟨rfl,?_⟩
  ·have:=sO e.words (CB aX) (by omega)
   simp [fU,this]
  ·have:=sO f.words (CB aC) (by omega)
   unfold fU;rw [if_neg (by omega),if_neg (by omega)]
 ·unfold jO.bM.t
  refine cT (((eA aC).length:Int) - 1) (by omega) (by omega) (by omega) ?_
  refine⟨(eA aC).length+1,?_⟩
  refine Kl e f rfl rfl (by omega) ⟨rfl,rfl⟩ _ (Nat.le_refl _) ?_
  rw [List.drop_length,show(eA aC).length=(eA aX).length by omega,List.drop_length]
theorem qU{L aT bS:Int}{a K c:Nat}(b:L=(a:Int))(d:aT=(K:Int))(e:bS=(c:Int))(f:c≤1){aH:Int→Int→Prop}
  (g:aH ((a+K+c) % 18446744073709551616:Nat) ((a+K+c) / 18446744073709551616:Nat)):oV L aT bS aH:=by
 subst b;subst d;subst e
 exact⟨⟨by omega,by omega,by omega,by omega⟩,by simpa using g⟩
theorem w9{L aT bS:Int}{a K c:Nat}(d:L=(a:Int))(e:aT=(K:Int))(f:bS=(c:Int))(j:c≤1)(a3:K < 18446744073709551616){aH:Int→Int→Prop}
  (g:aH ((a+18446744073709551616 - K - c) % 18446744073709551616:Nat) ((if a < K+c then 1 else 0:Nat):Int)):sL L aT bS aH:=by
 subst d;subst e;subst f
 refine⟨⟨by omega,by omega,by omega,by omega,by omega⟩,?_⟩
 have h:((a:Int) - (K:Int) - (c:Int)) % 18446744073709551616=(((a+18446744073709551616 - K - c) % 18446744073709551616:Nat):Int):=by omega
 have i:(if (a:Int) < (K:Int)+(c:Int) then(1:Int) else 0)=((if a < K+c then 1 else 0:Nat):Int):=by
  by_cases b:a < K+c
  ·rw [if_pos b,if_pos (by omega)];rfl
  ·rw [if_neg b,if_neg (by omega)];rfl
 rw [h,i];exact g
def xA(aC aX:List Nat):List Nat × Int:=if jM aC∧jM aX then fW (val aC+val aX) else([],2)
theorem Km{Y:aF}{a:S}{c l bS aE:Nat}{a9:List Nat}{n:Nat}{Z:U}{a2:U}{aI:Nat}{b:Nat}(e:l=n)(f:Own Z aI a9)(h:bS=a9.length)(i:aE=a9.length)(p:a9.length=n+1)(j:b < 18446744073709551616)(q:n≤8192)(d:a2.size≤aI)(R:bK a2 Z)
  (g:∀ v aB,bK a2 aB→fB a2 aB v (fW (val (a9.take n ++ [b])))→Y v aB):jU.cF.t Y a l c (some ⟨aI,0,none⟩) bS aE (b:Int) Z:=by
 subst e;subst h;subst i
 unfold jU.cF.t
 refine mY f (aD:=l) rfl rfl (by omega) rfl j fun aQ=>?_
 have N:a9.set l b=a9.take l ++ [b]:=by
  have:=qV (aG:=a9) (aD:=l) (t:=b) (by omega)
  rw [← this,List.take_of_length_le (by rw [List.length_set];omega)]
 rw [N] at aQ
 have k:bK a2 (gO Z ⟨aI,l,none⟩ (hR b)):=R.set d
 have s:(a9.take l ++ [b]).length=l+1:=by simp;omega
 refine cD (u5 (aQ.nH (c:=a9.length) d (by omega)) (by omega)) fun v aB ⟨m,o⟩=>?_
 subst m
 refine o.iM fun a c r O=>?_
 exact g _ _ k (fB.back r O)
theorem Kn{Y:aF}{a K:S}{c aZ l m bS aE:Nat}{aC aX:List Nat}{a2:U}{aI:Nat}(r:cJ a2 a c aC)(aG:cJ a2 K aZ aX)(i:l=aC.length)(j:m=aX.length)(e:a2.size≤aI)(k:aC.length≤8192)(s:bS=aC.length+1)(u:aE=aC.length+1)
  (fI:List Nat) (g:∀ v aB,bK a2 aB→fB a2 aB v (fW (val fI))→Y v aB) :
  ∀ (R n b:Nat) (a9:List Nat) (Z:U),n+R=aC.length→b≤1→a9.length=aC.length+1→Own Z aI a9→bK a2 Z→a9.take n ++ rN (aC.drop n) (aX.drop n) b=fI→
   jU.g8.t Y (R+1) a l c K m aZ (some ⟨aI,0,none⟩) bS aE (b:Int) (l:Int) (n:Int) Z:=by
 subst i;subst j
 intro R
 induction R with
 | zero=>
  intro n b a9 Z o f h d cO N
  unfold jU.g8.t jU.eX.t
  refine cE (fun a3=>absurd a3 (by omega)) fun _=>?_
  have p:n=aC.length:=by omega
  subst p
  rw [List.drop_length] at N
  refine Km (n:=aC.length) rfl d (by omega) (by omega) h (by omega) k e cO ?_
  rw [show a9.take aC.length ++ [b]=fI from N];exact g
 | succ R bZ=>
  intro n b a9 Z o f h d cO N
  have w:aC.getD n 0 < 18446744073709551616:=r.word n
  have x:aX.getD n 0 < 18446744073709551616:=aG.word n
  have step:a9.take n ++ rN (aC.drop n) (aX.drop n) b=(a9.set n ((aC.getD n 0+aX.getD n 0+b) % 18446744073709551616)).take (n+1) ++ rN (aC.drop (n+1)) (aX.drop (n+1)) ((aC.getD n 0+aX.getD n 0+b) / 18446744073709551616):=by
   rw [jD (aC:=aC) (aD:=n) (by omega),qV (by omega)]
   simp only [rN,AW,List.tail_drop,List.append_assoc,List.cons_append,List.nil_append]
  rw [step] at N
  unfold jU.g8.t jU.eX.t
  refine cE (fun a3=>?_) fun a3=>absurd (by omega) a3
  refine cE (fun a3=>?_) fun a3=>?_
  ·refine gJ (aG.aU cO) (aD:=n) rfl rfl (by omega) ?_
   refine gJ (r.aU cO) (aD:=n) rfl rfl (by omega) ?_
   refine qU rfl rfl rfl f ?_
   refine mY d (aD:=n) rfl (by omega) (by omega) rfl (by omega) fun aQ=>?_
   refine cT ((n+1:Nat):Int) (by omega) (by omega) (by omega) ?_
   exact bZ (n+1) _ _ _ (by omega) (by omega) (by rw [List.length_set];omega) aQ (cO.set e) N
  ·refine gJ (r.aU cO) (aD:=n) rfl rfl (by omega) ?_
   have q:aX.getD n 0=0:=by simp [List.getD,show aX.length≤n by omega]
   rw [q] at N
   refine qU (K:=0) rfl rfl rfl f ?_
   refine mY d (aD:=n) rfl (by omega) (by omega) rfl (by omega) fun aQ=>?_
   refine cT ((n+1:Nat):Int) (by omega) (by omega) (by omega) ?_
   exact bZ (n+1) _ _ _ (by omega) (by omega) (by rw [List.length_set];omega) aQ (cO.set e) N
theorem FN{Y:aF}{a K:S}{c aZ l m:Nat}{aC aX:List Nat}{Z:U}(r:cJ Z a c aC)(aG:cJ Z K aZ aX)(b:l=aC.length)(d:m=aX.length)(e:aC.length≤8192)(f:aX.length≤aC.length)
  (g:∀ v aB,bK Z aB→fB Z aB v (fW (val aC+val aX))→Y v aB):jU.bM.t Y a l c K m aZ Z:=by
 subst b;subst d
 unfold jU.bM.t
 refine cT ((aC.length+1:Nat):Int) (by omega) (by omega) (by omega) ?_
 refine oD (aC.length+1) rfl rfl rfl rfl (by omega) fun a1 aQ R=>?_
 refine⟨aC.length+1,?_⟩
 refine Kn r aG rfl rfl (Nat.le_refl _) e rfl rfl (rN aC aX 0) ?_ aC.length 0 0 _ a1 (by omega) (by omega) (by simp) aQ R (by simp)
 rw [FO aC aX 0 f];exact g
theorem Ko{a K:S}{c aZ l m:Nat}{aC aX:List Nat}{Z:U}(r:cJ Z a c aC)(aG:cJ Z K aZ aX)(b:l=aC.length)(d:m=aX.length):
  a4 jU.id #[.slice a l c,.slice K m aZ] Z fun v aB=>bK Z aB∧fB Z aB v (xA aC aX):=by
 refine jU.ok ?_
 unfold jU.t jU.aP.t
 refine cD (oC r b) fun v aB ⟨e,f⟩=>?_
 subst e;subst f
 refine dB rfl ?_
 refine hO (fun g=>⟨bK.refl _,?_⟩) fun g=>?_
 ·unfold xA;rw [if_neg (fun h=>of_decide_eq_false g h.1)];exact fB.none
 refine cD (oC aG d) fun v aB ⟨e,f⟩=>?_
 subst e;subst f
 refine dB rfl ?_
 refine hO (fun i=>⟨bK.refl _,?_⟩) fun i=>?_
 ·unfold xA;rw [if_neg (fun h=>of_decide_eq_false i h.2)];exact fB.none
 have f1:=of_decide_eq_true g
 have f2:=of_decide_eq_true i
 unfold xA;rw [if_pos ⟨f1,f2⟩]
 unfold jU.a5.t
 refine cE (fun a3=>?_) fun a3=>?_
 ·refine FN aG r d b f2.1 (by omega) fun v aB R j=>⟨R,?_⟩
  rw [Nat.add_comm];exact j
 ·exact FN r aG b d f1.1 (by omega) fun v aB R j=>⟨R,j⟩
def xB(aC aX:List Nat):List Nat × Int:=if jM aC∧jM aX then(if val aC < val aX then([],3) else fW (val aC - val aX)) else([],2)
theorem Kp{Y:aF}{a K:S}{c aZ l m bS aE:Nat}{aC aX:List Nat}{a2:U}{aI:Nat}(r:cJ a2 a c aC)(aG:cJ a2 K aZ aX)(j:l=aC.length)(k:m=aX.length)(e:a2.size≤aI)(y:aC.length≤8192)(z:bS=aC.length)(A:aE=aC.length)
  (fI:List Nat) (g:∀ v aB,bK a2 aB→fB a2 aB v (fW (val fI))→Y v aB) :
  ∀ (R n b:Nat) (a9:List Nat) (Z:U),n+R=aC.length→b≤1→a9.length=aC.length→Own Z aI a9→bK a2 Z→a9.take n ++ pV (aC.drop n) (aX.drop n) b=fI→
   kH.dS.t Y (R+1) a l c K m aZ (some ⟨aI,0,none⟩) bS aE (b:Int) (l:Int) (n:Int) Z:=by
 subst j;subst k
 intro R
 induction R with
 | zero=>
  intro n b a9 Z o f i d cO N
  unfold kH.dS.t kH.dD.t
  refine cE (fun a3=>absurd a3 (by omega)) fun _=>?_
  have p:n=aC.length:=by omega
  subst p
  rw [List.drop_length] at N
  have q:a9=fI:=by rw [← N,← i,List.take_length];simp [pV]
  subst q
  unfold kH.bM.t
  refine cD (u5 (d.nH (c:=aE) e (by omega)) (by omega)) fun v aB ⟨s,u⟩=>?_
  subst s
  refine u.iM fun a c r O=>?_
  exact g _ _ cO (fB.back r O)
 | succ R bZ=>
  intro n b a9 Z o f i d cO N
  have B:aC.getD n 0 < 18446744073709551616:=r.word n
  have w:aX.getD n 0 < 18446744073709551616:=aG.word n
  have step:a9.take n ++ pV (aC.drop n) (aX.drop n) b=(a9.set n ((aC.getD n 0+18446744073709551616 - aX.getD n 0 - b) % 18446744073709551616)).take (n+1) ++ pV (aC.drop (n+1)) (aX.drop (n+1)) (if aC.getD n 0 < aX.getD n 0+b then 1 else 0):=by
   rw [jD (aC:=aC) (aD:=n) (by omega),qV (by omega)]
   simp only [pV,AW,List.tail_drop,List.append_assoc,List.cons_append,List.nil_append]
  rw [step] at N
  have h:(if aC.getD n 0 < aX.getD n 0+b then 1 else 0)≤1:=by split <;> omega
  unfold kH.dS.t kH.dD.t
  refine cE (fun a3=>?_) fun a3=>absurd (by omega) a3
  refine cE (fun a3=>?_) fun a3=>?_
  ·refine gJ (aG.aU cO) (aD:=n) rfl rfl (by omega) ?_
   refine gJ (r.aU cO) (aD:=n) rfl rfl (by omega) ?_
   refine w9 rfl rfl rfl f w ?_
   refine mY d (aD:=n) rfl (by omega) (by omega) rfl (by omega) fun aQ=>?_
   refine cT ((n+1:Nat):Int) (by omega) (by omega) (by omega) ?_
   exact bZ (n+1) _ _ _ (by omega) h (by rw [List.length_set];omega) aQ (cO.set e) N
  ·refine gJ (r.aU cO) (aD:=n) rfl rfl (by omega) ?_
   have x:aX.getD n 0=0:=by simp [List.getD,show aX.length≤n by omega]
   rw [x] at N h
   refine w9 (K:=0) rfl rfl rfl f (by omega) ?_
   refine mY d (aD:=n) rfl (by omega) (by omega) rfl (by omega) fun aQ=>?_
   refine cT ((n+1:Nat):Int) (by omega) (by omega) (by omega) ?_
   exact bZ (n+1) _ _ _ (by omega) h (by rw [List.length_set];omega) aQ (cO.set e) N
theorem Kq{a K:S}{c aZ l m:Nat}{aC aX:List Nat}{Z:U}(r:cJ Z a c aC)(aG:cJ Z K aZ aX)(f:l=aC.length)(g:m=aX.length):
  a4 kH.id #[.slice a l c,.slice K m aZ] Z fun v aB=>bK Z aB∧fB Z aB v (xB aC aX):=by
 refine kH.ok ?_
 unfold kH.t kH.aP.t
 refine cD (oC r f) fun v aB ⟨d,e⟩=>?_
 subst d;subst e
 refine dB rfl ?_
 refine hO (fun h=>⟨bK.refl _,?_⟩) fun h=>?_
 ·unfold xB;rw [if_neg (fun b=>of_decide_eq_false h b.1)];exact fB.none
 refine cD (oC aG g) fun v aB ⟨d,e⟩=>?_
 subst d;subst e
 refine dB rfl ?_
 refine hO (fun i=>⟨bK.refl _,?_⟩) fun i=>?_
 ·unfold xB;rw [if_neg (fun b=>of_decide_eq_false i b.2)];exact fB.none
 have f1:=of_decide_eq_true h
 have f2:=of_decide_eq_true i
 unfold xB;rw [if_pos ⟨f1,f2⟩]
 unfold kH.a5.t
 refine cD (CM r aG f g) fun v aB ⟨d,e⟩=>?_
 subst d;subst e
 refine b0 rfl ?_
 refine cE (fun a3=>⟨bK.refl _,?_⟩) fun a3=>?_
 ·have:val aC < val aX:=by
   unfold fU at a3;split at a3
   ·assumption
   ·split at a3 <;> omega
  rw [if_pos this];exact fB.none
 ·have dC:¬ val aC < val aX:=fun b=>by unfold fU at a3;rw [if_pos b] at a3;omega
  rw [if_neg dC]
  subst f;subst g
  have j:=f1.1
  have k:aX.length≤aC.length:=Nat.le_of_not_lt fun b=>by
   have:=sO r.words f2.2 b;omega
  refine oD aC.length rfl rfl rfl rfl (by omega) fun a1 aQ R=>?_
  unfold kH.cF.t
  refine⟨aC.length+1,?_⟩
  refine Kp r aG rfl rfl (Nat.le_refl _) j rfl rfl (pV aC aX 0) ?_ aC.length 0 0 _ a1 (by omega) (by omega) (by simp) aQ R (by simp)
  have:=CN aC aX 0 r.words aG.words k (by omega) (by omega)
  rw [show val (pV aC aX 0)=val aC - val aX by omega]
  exact fun v aB R n=>⟨R,n⟩
def sY(p:Nat):List Nat→Nat→List Nat
 | [],c=>[c]
 | L :: aC,c=>(L*p % 18446744073709551616+c) :: sY p aC (L*p / 18446744073709551616)
theorem FP(p:Nat):∀ (aC:List Nat) (c:Nat),val (sY p aC c)=val aC*p+c
 | [],c=>by simp [sY,val]
 | L :: aC,c=>by
  simp only [sY,val,FP p aC,Nat.add_mul,Nat.mul_assoc]
  generalize L*p=aT;generalize val aC*p=bS;omega
theorem Kr{R L:Nat}(a:R < 64):L / 2 / 2 ^ (63 - R)=L*2 ^ R / 18446744073709551616:=by
 have Z:L / 2 / 2 ^ (63 - R)=L / 2 ^ (64 - R):=by
  rw [Nat.div_div_eq_div_mul,← Nat.pow_succ',show(63 - R).succ=64 - R by omega]
 rw [Z,← nF a,Nat.mul_comm L,Nat.mul_div_mul_left _ _ (Nat.pow_pos (by decide))]
theorem FQ{R L c:Nat}(a:R < 64)(b:c < 2 ^ R):c ||| (L*2 ^ R % 18446744073709551616)=L*2 ^ R % 18446744073709551616+c:=by
 have N:L*2 ^ R % 18446744073709551616=2 ^ R*(L % 2 ^ (64 - R)):=by
  rw [← nF a,Nat.mul_comm L,Nat.mul_mod_mul_left]
 rw [N];exact Ft b
theorem FR{R L:Nat}(a:L < 18446744073709551616):L*2 ^ R / 18446744073709551616 < 2 ^ R:=by
 rw [Nat.div_lt_iff_lt_mul (by decide),Nat.mul_comm]
 exact Nat.mul_lt_mul_of_pos_left a (Nat.pow_pos (by decide))
theorem FT{R L c:Nat}(a:R < 64)(d:c < 2 ^ R):L*2 ^ R % 18446744073709551616+c < 18446744073709551616:=by
 have N:L*2 ^ R % 18446744073709551616=2 ^ R*(L % 2 ^ (64 - R)):=by
  rw [← nF a,Nat.mul_comm L,Nat.mul_mod_mul_left]
 have a1:L % 2 ^ (64 - R)+1≤2 ^ (64 - R):=Nat.mod_lt _ (Nat.pow_pos (by decide))
 have b:=Nat.mul_le_mul_left (2 ^ R) a1
 rw [nF a,Nat.mul_add,Nat.mul_one] at b
 omega
theorem Ks{Y:aF}{a:S}{c l m R bS aE:Nat}{aC:List Nat}{a2:U}{aI:Nat}(r:cJ a2 a c aC)(j:l=aC.length)(e:a2.size≤aI)(B:aC.length≤8192)(C:m≤8192)(b:R < 64)(D:bS=m+aC.length+1)(E:aE=m+aC.length+1)
  (fI:List Nat) (g:∀ v aB,bK a2 aB→fB a2 aB v (fW (val fI))→Y v aB) :
  ∀ (aD n:Nat) (a9:List Nat) (Z:U),n+aD=aC.length→a9.length=m+aC.length+1→a9.getD (m+n) 0 < 2 ^ R→Own Z aI a9→bK a2 Z→a9.take (m+n) ++ sY (2 ^ R) (aC.drop n) (a9.getD (m+n) 0)=fI→
   lB.bU.t Y (aD+1) a l c (m:Int) (R:Int) (some ⟨aI,0,none⟩) bS aE (l:Int) (n:Int) Z:=by
 subst j
 intro aD
 induction aD with
 | zero=>
  intro n a9 Z k o f d cO N
  unfold lB.bU.t lB.cH.t
  refine cE (fun a3=>absurd a3 (by omega)) fun _=>?_
  have p:n=aC.length:=by omega
  subst p
  rw [List.drop_length] at N
  have q:a9=fI:=by
   rw [← N];show a9=_ ++ [_]
   rw [← mV (by omega),List.take_of_length_le (by omega)]
  subst q
  unfold lB.a5.t
  refine cD (u5 (d.nH (c:=aE) e (by omega)) (by omega)) fun v aB ⟨s,u⟩=>?_
  subst s
  refine u.iM fun a c r O=>?_
  exact g _ _ cO (fB.back r O)
 | succ aD bZ=>
  intro n a9 Z k o f d cO N
  have w:aC.getD n 0 < 18446744073709551616:=r.word n
  have x:=FT (L:=aC.getD n 0) b f
  have y:=FR (R:=R) w
  have F:2 ^ R < 18446744073709551616:=CO b
  have z:=Kr (L:=aC.getD n 0) b
  rw [jD (aC:=aC) (aD:=n) (by omega)] at N
  simp only [sY] at N
  unfold lB.bU.t lB.cH.t
  refine cE (fun a3=>?_) fun a3=>absurd (by omega) a3
  refine cT ((m+n:Nat):Int) (by omega) (by omega) (by omega) ?_
  refine gJ (d.rd (c:=aE) (by omega)) (aD:=m+n) rfl (by omega) (by omega) ?_
  refine gJ (r.aU cO) (aD:=n) rfl rfl (by omega) ?_
  refine rL rfl R _ (by omega) rfl rfl ?_
  refine AO rfl rfl (by omega) (Nat.mod_lt _ (by decide)) ?_
  rw [FQ b f]
  refine mY d (aD:=m+n) rfl (by omega) (by omega) rfl x fun aQ=>?_
  have h:=cO.set (v:=hR (aC.getD n 0*2 ^ R % 18446744073709551616+a9.getD (m+n) 0)) (O:=m+n) e
  refine cT ((m+n:Nat):Int) (by omega) (by omega) (by omega) ?_
  refine cT ((m+n+1:Nat):Int) (by omega) (by omega) (by omega) ?_
  refine gJ (r.aU h) (aD:=n) rfl rfl (by omega) ?_
  refine nM rfl 1 2 (by omega) (by decide) (by omega) ?_
  refine cT ((63 - R:Nat):Int) (by omega) (by omega) (by omega) ?_
  refine nM rfl (63 - R) _ (by omega) rfl rfl ?_
  rw [z]
  refine mY aQ (aD:=m+n+1) rfl (by rw [List.length_set];omega) (by rw [List.length_set];omega) rfl (by omega) fun A=>?_
  refine cT ((n+1:Nat):Int) (by omega) (by omega) (by omega) ?_
  have i:((a9.set (m+n) (aC.getD n 0*2 ^ R % 18446744073709551616+a9.getD (m+n) 0)).set (m+n+1) (aC.getD n 0*2 ^ R / 18446744073709551616)).getD (m+(n+1)) 0=aC.getD n 0*2 ^ R / 18446744073709551616:=by
   rw [← Nat.add_assoc];simp [List.getD,show m+n+1 < a9.length by omega]
  refine bZ (n+1) _ _ (by omega) (by simp;omega) (by rw [i];exact y) A (h.set e) ?_
  rw [i,← N,← Nat.add_assoc,List.take_set_of_le (Nat.le_refl _),qV (by omega)]
  simp
def yW(aC:List Nat)(n:Int):List Nat × Int:=if n < 0 then([],1) else if jM aC then fW (val aC*2 ^ n.toNat) else([],2)
theorem Kt{a:S}{c l:Nat}{aC:List Nat}{Z:U}(r:cJ Z a c aC)(g:l=aC.length){n:Int}(o:n < 9223372036854775808):
  a4 lB.id #[.slice a l c,.int .i64 n] Z fun v aB=>bK Z aB∧fB Z aB v (yW aC n):=by
 refine lB.ok ?_
 unfold lB.t lB.aP.t
 refine cE (fun a3=>⟨bK.refl _,?_⟩) fun a3=>?_
 ·unfold yW;rw [if_pos a3];exact fB.none
 unfold yW;rw [if_neg a3]
 obtain⟨bP,rfl⟩:∃ bP:Nat,n=(bP:Int):=⟨n.toNat,by omega⟩
 rw [Int.toNat_natCast]
 refine cD (oC r g) fun v aB ⟨b,d⟩=>?_
 subst b;subst d;subst g
 refine dB rfl ?_
 refine hO (fun e=>⟨bK.refl _,?_⟩) fun e=>?_
 ·rw [if_neg (of_decide_eq_false e)];exact fB.none
 have f:=of_decide_eq_true e
 rw [if_pos f]
 have h:=f.1
 refine gL (fun a2=>⟨bK.refl _,?_⟩) fun a2=>?_
 ·have N:aC=[]:=List.length_eq_zero_iff.mp (by omega)
  subst N
  have N:fW (val []*2 ^ bP)=([],0):=by simp [val,fW,e0]
  rw [N];exact fB.none
 refine cD (Fq r rfl) fun v aB ⟨b,d⟩=>?_
 subst b;subst d
 refine b0 rfl ?_
 have b5:val aC ≠ 0:=fun N=>by
  have:=qQ.mpr N
  rw [f.2] at this;subst this;simp at a2
 have p:eJ (val aC)≤524288:=by
  rw [FU,f.aN r.words];exact h
 refine cT (524288 - (eJ (val aC):Int)) rfl (by omega) (by omega) ?_
 refine cE (fun q=>⟨bK.refl _,?_⟩) fun s=>?_
 ·rw [Ku (by rw [AV bP b5];omega)];exact fB.none
 have u:=rI b5
 refine⟨by decide,cT ((bP / 64:Nat):Int) (o4 bP 64) (by omega) (by omega) ?_⟩
 refine⟨by decide,kU (sR bP 64) ?_⟩
 refine cT ((bP / 64+aC.length:Nat):Int) (by omega) (by omega) (by omega) ?_
 refine cT ((bP / 64+aC.length+1:Nat):Int) (by omega) (by omega) (by omega) ?_
 refine oD (bP / 64+aC.length+1) rfl rfl rfl rfl (by omega) fun a1 aQ R=>?_
 unfold lB.bM.t
 refine⟨aC.length+1,?_⟩
 have i:(List.replicate (bP / 64+aC.length+1) 0).getD (bP / 64+0) 0=0:=by
  simp only [List.getD,List.getElem?_replicate];split <;> rfl
 refine Ks r rfl (Nat.le_refl _) h (by omega) (Nat.mod_lt _ (by decide)) rfl rfl (List.replicate (bP / 64) 0 ++ sY (2 ^ (bP % 64)) aC 0) ?_ aC.length 0 _ a1 (by omega) (by simp) (by rw [i];exact Nat.pow_pos (by decide)) aQ R ?_
 ·have N:val (List.replicate (bP / 64) 0 ++ sY (2 ^ (bP % 64)) aC 0)=val aC*2 ^ bP:=by
   have j:∀ m,val (List.replicate m 0)=0:=by
    intro m;induction m with
    | zero=>rfl
    | succ m bZ=>rw [List.replicate_succ];simp [val,bZ]
   rw [h5,j,FP,List.length_replicate,Nat.zero_add,Nat.add_zero,Nat.mul_comm,Nat.mul_assoc,← Nat.pow_add,show bP % 64+64*(bP / 64)=bP by omega]
  rw [N];exact fun v aB R k=>⟨R,k⟩
 ·rw [i];simp [List.take_replicate,show min (bP / 64) (bP / 64+aC.length+1)=bP / 64 by omega]
def sZ(p aI:Nat):List Nat→List Nat
 | []=>[]
 | L :: aC=>(L / p+aC.headD 0*aI % 18446744073709551616) :: sZ p aI aC
theorem FV{p aI:Nat}(Z:p*aI=18446744073709551616)(a:0 < p)(b:0 < aI):∀ aC:List Nat,val (sZ p aI aC)=val aC / p
 | []=>by simp [sZ,val]
 | L :: aC=>by
  simp only [sZ,val,FV Z a b aC]
  have c:(L+18446744073709551616*val aC) / p=L / p+aI*val aC:=by
   rw [← Z,Nat.mul_assoc,Nat.add_mul_div_left _ _ a]
  rw [c]
  have c3:=AA aC
  generalize aC.headD 0=cY at *
  generalize val aC.tail=t at *
  have d:val aC / p=cY / p+aI*t:=by
   rw [c3,← Z,Nat.mul_assoc,Nat.add_mul_div_left _ _ a]
  have e:cY*aI / 18446744073709551616=cY / p:=by rw [← Z,Nat.mul_div_mul_right _ _ b]
  have f:aI*(cY+18446744073709551616*t)=cY*aI+18446744073709551616*(aI*t):=by rw [Nat.mul_add,Nat.mul_left_comm aI,Nat.mul_comm aI cY]
  rw [d,c3,← e,f]
  generalize cY*aI=bS;generalize aI*t=aT;omega
theorem Kv{R L aT:Nat}(a:R < 64)(b:L < 18446744073709551616):(L / 2 ^ R) ||| (aT*2 % 18446744073709551616*2 ^ (63 - R) % 18446744073709551616)=L / 2 ^ R+aT*2 ^ (64 - R) % 18446744073709551616:=by
 have c:aT*2 % 18446744073709551616*2 ^ (63 - R) % 18446744073709551616=aT*2 ^ (64 - R) % 18446744073709551616:=by
  rw [Nat.mod_mul_mod,Nat.mul_assoc,← Nat.pow_succ',show(63 - R).succ=64 - R by omega]
 have d:aT*2 ^ (64 - R) % 18446744073709551616=2 ^ (64 - R)*(aT % 2 ^ R):=by
  rw [← nF a,Nat.mul_comm aT,Nat.mul_comm (2 ^ R),Nat.mul_mod_mul_left]
 have dC:L / 2 ^ R < 2 ^ (64 - R):=by
  rw [Nat.div_lt_iff_lt_mul (Nat.pow_pos (by decide)),Nat.mul_comm,nF a];exact b
 rw [c,d,Ft dC,Nat.add_comm]
theorem Kw{R L aT:Nat}(a:R < 64)(b:L < 18446744073709551616):L / 2 ^ R+aT*2 ^ (64 - R) % 18446744073709551616 < 18446744073709551616:=by
 have d:aT*2 ^ (64 - R) % 18446744073709551616=2 ^ (64 - R)*(aT % 2 ^ R):=by
  rw [← nF a,Nat.mul_comm aT,Nat.mul_comm (2 ^ R),Nat.mul_mod_mul_left]
 have dC:L / 2 ^ R < 2 ^ (64 - R):=by
  rw [Nat.div_lt_iff_lt_mul (Nat.pow_pos (by decide)),Nat.mul_comm,nF a];exact b
 have a1:aT % 2 ^ R+1≤2 ^ R:=Nat.mod_lt _ (Nat.pow_pos (by decide))
 have c:=Nat.mul_le_mul_left (2 ^ (64 - R)) a1
 rw [Nat.mul_comm (2 ^ (64 - R)) (2 ^ R),nF a,Nat.mul_add,Nat.mul_one] at c
 omega
theorem Kx{Y:aF}{a:S}{c l m R bS aE:Nat}{aC:List Nat}{a2:U}{aI:Nat}(r:cJ a2 a c aC)(i:l=aC.length)(b:a2.size≤aI)(y:aC.length≤8192)(f:R < 64)(z:m < aC.length)(A:bS=aC.length - m)(B:aE=aC.length - m)
  (fI:List Nat) (g:∀ v aB,bK a2 aB→fB a2 aB v (fW (val fI))→Y v aB) :
  ∀ (aD n:Nat) (a9:List Nat) (Z:U),m+n+aD=aC.length→a9.length=aC.length - m→Own Z aI a9→bK a2 Z→a9.take n ++ sZ (2 ^ R) (2 ^ (64 - R)) (aC.drop (m+n))=fI→
   lM.bU.t Y (aD+1) a l c (m:Int) (R:Int) (some ⟨aI,0,none⟩) bS aE (bS:Int) (n:Int) Z:=by
 subst i
 intro aD
 induction aD with
 | zero=>
  intro n a9 Z j k d cO N
  unfold lM.bU.t lM.cH.t
  refine cE (fun a3=>absurd a3 (by omega)) fun _=>?_
  rw [List.drop_of_length_le (by omega)] at N
  have o:a9=fI:=by
   rw [← N];simp only [sZ,List.append_nil]
   rw [List.take_of_length_le (by omega)]
  subst o
  unfold lM.a5.t
  refine cD (u5 (d.nH (c:=aE) b (by omega)) (by omega)) fun v aB ⟨p,q⟩=>?_
  subst p
  refine q.iM fun a c r O=>?_
  exact g _ _ cO (fB.back r O)
 | succ aD bZ=>
  intro n a9 Z j k d cO N
  have h:aC.getD (m+n) 0 < 18446744073709551616:=r.word _
  have C:aC.getD (m+n+1) 0 < 18446744073709551616:=r.word _
  have dC:=Kw (R:=R) (aT:=aC.getD (m+n+1) 0) f h
  have D:aC.getD (m+n) 0 / 2 ^ R≤aC.getD (m+n) 0:=Nat.div_le_self _ _
  rw [jD (aC:=aC) (aD:=m+n) (by omega)] at N
  simp only [sZ,AW] at N
  unfold lM.bU.t lM.cH.t
  refine cE (fun a3=>?_) fun a3=>absurd (by omega) a3
  refine cT ((m+n:Nat):Int) (by omega) (by omega) (by omega) ?_
  refine gJ (r.aU cO) (aD:=m+n) rfl rfl (by omega) ?_
  refine nM rfl R _ (by omega) rfl rfl ?_
  refine mY d (aD:=n) rfl (by omega) (by omega) rfl (by omega) fun aQ=>?_
  have e:=cO.set (v:=hR (aC.getD (m+n) 0 / 2 ^ R)) (O:=n) b
  refine cT ((m+n:Nat):Int) (by omega) (by omega) (by omega) ?_
  refine cT ((m+n+1:Nat):Int) (by omega) (by omega) (by omega) ?_
  refine cE (fun s=>?_) fun s=>?_
  ·refine gJ (aQ.rd (c:=aE) (by rw [List.length_set];omega)) (aD:=n) rfl (by rw [List.length_set];omega) (by rw [List.length_set];omega) ?_
   have u:(a9.set n (aC.getD (m+n) 0 / 2 ^ R)).getD n 0=aC.getD (m+n) 0 / 2 ^ R:=by
    simp [List.getD,show n < a9.length by omega]
   rw [u]
   refine cT ((m+n:Nat):Int) (by omega) (by omega) (by omega) ?_
   refine cT ((m+n+1:Nat):Int) (by omega) (by omega) (by omega) ?_
   refine gJ (r.aU e) (aD:=m+n+1) rfl rfl (by omega) ?_
   refine rL rfl 1 2 (by omega) (by decide) (by omega) ?_
   refine cT ((63 - R:Nat):Int) (by omega) (by omega) (by omega) ?_
   refine rL rfl (63 - R) _ (by omega) rfl rfl ?_
   refine AO rfl rfl (by omega) (Nat.mod_lt _ (by decide)) ?_
   rw [Kv f h]
   refine mY aQ (aD:=n) rfl (by rw [List.length_set];omega) (by rw [List.length_set];omega) rfl dC fun w=>?_
   refine cT ((n+1:Nat):Int) (by omega) (by omega) (by omega) ?_
   refine bZ (n+1) _ _ (by omega) (by simp;omega) w (e.set b) ?_
   rw [← N,List.set_set,qV (by omega)]
   simp [Nat.add_assoc]
  ·refine cT ((n+1:Nat):Int) (by omega) (by omega) (by omega) ?_
   refine bZ (n+1) _ _ (by omega) (by simp;omega) aQ e ?_
   have x:aC.getD (m+n+1) 0=0:=by simp [List.getD,show aC.length≤m+n+1 by omega]
   rw [x] at N
   rw [← N,qV (by omega)]
   simp [Nat.add_assoc]
def u9(aC:List Nat)(n:Int):List Nat × Int:=if n < 0 then([],1) else if jM aC then fW (val aC / 2 ^ n.toNat) else([],2)
theorem FW{a:S}{c l:Nat}{aC:List Nat}{Z:U}(r:cJ Z a c aC)(d:l=aC.length){n:Int}(k:n < 9223372036854775808):
  a4 lM.id #[.slice a l c,.int .i64 n] Z fun v aB=>bK Z aB∧fB Z aB v (u9 aC n):=by
 refine lM.ok ?_
 unfold lM.t lM.aP.t
 refine cE (fun a3=>⟨bK.refl _,?_⟩) fun a3=>?_
 ·unfold u9;rw [if_pos a3];exact fB.none
 unfold u9;rw [if_neg a3]
 obtain⟨bP,rfl⟩:∃ bP:Nat,n=(bP:Int):=⟨n.toNat,by omega⟩
 rw [Int.toNat_natCast]
 refine cD (oC r d) fun v aB ⟨e,g⟩=>?_
 subst e;subst g;subst d
 refine dB rfl ?_
 refine hO (fun b=>⟨bK.refl _,?_⟩) fun b=>?_
 ·rw [if_neg (of_decide_eq_false b)];exact fB.none
 have f:=of_decide_eq_true b
 rw [if_pos f]
 have h:=f.1
 have i:bP=64*(bP / 64)+bP % 64:=by omega
 have c3:val aC / 2 ^ bP=val (aC.drop (bP / 64)) / 2 ^ (bP % 64):=by
  rw [lW r.words,Nat.div_div_eq_div_mul,← Nat.pow_add,← i]
 rw [c3]
 refine⟨by decide,cT ((bP / 64:Nat):Int) (o4 bP 64) (by omega) (by omega) ?_⟩
 refine⟨by decide,kU (sR bP 64) ?_⟩
 refine cE (fun m=>⟨bK.refl _,?_⟩) fun dC=>?_
 ·rw [List.drop_of_length_le (by omega)]
  have N:fW (val [] / 2 ^ (bP % 64))=([],0):=by simp [val,fW,e0]
  rw [N];exact fB.none
 ·refine cT ((aC.length - bP / 64:Nat):Int) (by omega) (by omega) (by omega) ?_
  refine oD (aC.length - bP / 64) rfl rfl rfl rfl (by omega) fun a1 aQ R=>?_
  unfold lM.bM.t
  refine⟨aC.length - bP / 64+1,?_⟩
  refine Kx r rfl (Nat.le_refl _) h (Nat.mod_lt _ (by decide)) (by omega) rfl rfl (sZ (2 ^ (bP % 64)) (2 ^ (64 - bP % 64)) (aC.drop (bP / 64))) ?_ (aC.length - bP / 64) 0 _ a1 (by omega) (by simp) aQ R (by simp)
  rw [FV (nF (Nat.mod_lt _ (by decide))) (Nat.pow_pos (by decide)) (Nat.pow_pos (by decide))]
  exact fun v aB R j=>⟨R,j⟩
def yX(aC:List Nat)(n:Int):List Nat × Int:=if n < 0 then([],1) else if jM aC then fW (val aC % 2 ^ n.toNat) else([],2)
theorem Ky{a:S}{c l:Nat}{aC:List Nat}{Z:U}(r:cJ Z a c aC)(h:l=aC.length){n:Int}(C:n < 9223372036854775808):
  a4 pW.id #[.slice a l c,.int .i64 n] Z fun v aB=>bK Z aB∧fB Z aB v (yX aC n):=by
 refine pW.ok ?_
 unfold pW.t pW.aP.t
 refine cE (fun a3=>⟨bK.refl _,?_⟩) fun a3=>?_
 ·unfold yX;rw [if_pos a3];exact fB.none
 unfold yX;rw [if_neg a3]
 obtain⟨bP,rfl⟩:∃ bP:Nat,n=(bP:Int):=⟨n.toNat,by omega⟩
 rw [Int.toNat_natCast]
 refine cD (oC r h) fun v aB ⟨e,q⟩=>?_
 subst e;subst q;subst h
 refine dB rfl ?_
 refine hO (fun g=>⟨bK.refl _,?_⟩) fun g=>?_
 ·rw [if_neg (of_decide_eq_false g)];exact fB.none
 have f:=of_decide_eq_true g
 rw [if_pos f]
 have D:=f.1
 have s:bP=64*(bP / 64)+bP % 64:=by omega
 have i:bP % 64 < 64:=Nat.mod_lt _ (by decide)
 refine⟨by decide,cT ((bP / 64:Nat):Int) (o4 bP 64) (by omega) (by omega) ?_⟩
 refine⟨by decide,kU (sR bP 64) ?_⟩
 refine oD aC.length rfl rfl rfl rfl (by omega) fun a1 aQ R=>?_
 refine AL aQ (r.aU R) (by simp) rfl (Nat.le_refl _) R fun u b j=>?_
 have w:List.take (List.replicate aC.length 0).length aC ++ List.drop aC.length (List.replicate aC.length 0)=aC:=by simp
 rw [w] at b
 have k:∀ {a9:List Nat} {c bS:Nat} {d:U},cX dL aB d (some ⟨aB.size,0,none⟩) c a9→bS=a9.length→bK aB d→val a9=val aC % 2 ^ bP→pW.a5.t (fun v m=>bK aB m∧fB aB m v (fW (val aC % 2 ^ bP))) (some ⟨aB.size,0,none⟩) bS c d:=by
  intro a9 c bS d x y z N
  unfold pW.a5.t
  refine cD (u5 x y) fun v E ⟨e,o⟩=>?_
  subst e
  rw [N] at o
  refine o.iM fun a c r O=>?_
  exact⟨z,fB.back r O⟩
 refine cE (fun dC=>?_) fun F=>?_
 ·refine gJ (b.rd (c:=aC.length) (by omega)) (aD:=bP / 64) rfl (by omega) (by omega) ?_
  have A:2 ^ (bP % 64) < 18446744073709551616:=CO i
  have G:0 < 2 ^ (bP % 64):=Nat.pow_pos (by decide)
  refine rL (n:=1) rfl (bP % 64) _ (by omega) rfl rfl ?_
  rw [Nat.one_mul,Nat.mod_eq_of_lt A]
  refine dM (2 ^ (bP % 64) - 1) (by omega) (by omega) ?_
  refine Fs rfl rfl (r.word _) (by omega) ?_
  rw [Nat.and_two_pow_sub_one_eq_mod]
  have H:aC.getD (bP / 64) 0 % 2 ^ (bP % 64)≤aC.getD (bP / 64) 0:=Nat.mod_le _ _
  have I:=r.word (bP / 64)
  refine mY b (aD:=bP / 64) rfl (by omega) (by omega) rfl (by omega) fun B=>?_
  refine cT ((bP / 64+1:Nat):Int) (by omega) (by omega) (by omega) ?_
  refine w4 rfl (by omega) ?_
  have p:=(B.nH (a2:=aB) (c:=aC.length) (Nat.le_refl _) (by simp)).take (bP / 64+1)
  rw [qV (by omega)] at p
  refine k p (by simp;omega) (j.set (Nat.le_refl _)) ?_
  rw [Cn r.words (by omega) i,← s]
 ·refine k (b.nH (c:=aC.length) (Nat.le_refl _) rfl) (by omega) j ?_
  have a1:=iK r.words
  have u:2 ^ (64*aC.length)≤2 ^ bP:=Nat.pow_le_pow_right (by decide) (by omega)
  rw [Nat.mod_eq_of_lt (by omega)]
def AX(v:Value)(a K:Nat):Prop:=v=.tuple #[.int .u64 (a:Int),.int .u64 (K:Int)]
theorem AX.elim{v:Value}{a K:Nat}{aH:Int→Int→Prop}(N:AX v a K)(g:aH (a:Int) (K:Int)):
  cW v fun aT=>cV aT fun b eK=>a0 .u64 b fun L=>cV eK fun c d=>a0 .u64 c fun bS=>b9 d (aH L bS):=by
 subst N;exact g
theorem Kz{L aT aY aS jP eK a K c aZ:Nat}(b:L=aY+4294967296*aS)(d:aT=jP+4294967296*eK)(e:a=aY*jP)(a3:K=aS*jP)(f:c=aY*eK)(aW:aZ=aS*eK):L*aT=a+4294967296*(K+c)+18446744073709551616*aZ:=by
 subst b;subst d;subst e;subst a3;subst f;subst aW
 rw [Nat.add_mul,Nat.mul_add,Nat.mul_add]
 have g:aY*(4294967296*eK)=4294967296*(aY*eK):=Nat.mul_left_comm _ _ _
 have h:4294967296*aS*jP=4294967296*(aS*jP):=Nat.mul_assoc _ _ _
 have i:4294967296*aS*(4294967296*eK)=18446744073709551616*(aS*eK):=by
  rw [Nat.mul_assoc,Nat.mul_left_comm aS,← Nat.mul_assoc]
 rw [g,h,i];omega
theorem CP{L aT:Nat}(b:L < 18446744073709551616)(d:aT < 18446744073709551616)(Z:U):
  a4 rO.id #[.int .u64 (L:Int),.int .u64 (aT:Int)] Z fun v aB=>aB=Z∧AX v (L*aT / 18446744073709551616) (L*aT % 18446744073709551616):=by
 refine rO.ok ?_
 unfold rO.t rO.aP.t
 have g:=u6 (a:=L % 4294967296) (K:=aT % 4294967296) (by omega) (by omega)
 have a3:=u6 (a:=L / 4294967296) (K:=aT % 4294967296) (by omega) (by omega)
 have h:=u6 (a:=L % 4294967296) (K:=aT / 4294967296) (by omega) (by omega)
 have aW:=u6 (a:=L / 4294967296) (K:=aT / 4294967296) (by omega) (by omega)
 have N:=Kz (L:=L) (aT:=aT) (aY:=L % 4294967296) (aS:=L / 4294967296) (jP:=aT % 4294967296) (eK:=aT / 4294967296) (by omega) (by omega) rfl rfl rfl rfl
 refine oE rfl b ?_
 refine nM rfl 32 4294967296 (by omega) (by decide) (by omega) ?_
 refine oE rfl d ?_
 refine nM rfl 32 4294967296 (by omega) (by decide) (by omega) ?_
 refine dM (L % 4294967296*(aT % 4294967296)) (by norm_cast) (by omega) ?_
 refine dM (L / 4294967296*(aT % 4294967296)) (by norm_cast) (by omega) ?_
 have a1:((L % 4294967296:Nat):Int)*((aT / 4294967296:Nat):Int)=((L % 4294967296*(aT / 4294967296):Nat):Int):=by norm_cast
 have e:((L / 4294967296:Nat):Int)*((aT / 4294967296:Nat):Int)=((L / 4294967296*(aT / 4294967296):Nat):Int):=by norm_cast
 have f:(L:Int)*(aT:Int)=((L*aT:Nat):Int):=by norm_cast
 rw [a1,e,f]
 generalize L % 4294967296*(aT % 4294967296)=a at *
 generalize L / 4294967296*(aT % 4294967296)=K at *
 generalize L % 4294967296*(aT / 4294967296)=c at *
 generalize L / 4294967296*(aT / 4294967296)=aZ at *
 generalize L*aT=p at *
 refine nM rfl 32 4294967296 (by omega) (by decide) (by omega) ?_
 refine dM (K+a / 4294967296) (by omega) (by omega) ?_
 refine oE rfl (by omega) ?_
 refine nM rfl 32 4294967296 (by omega) (by decide) (by omega) ?_
 refine dM c rfl (by omega) ?_
 refine dM ((K+a / 4294967296) % 4294967296+c) (by omega) (by omega) ?_
 refine dM aZ rfl (by omega) ?_
 refine dM (aZ+(K+a / 4294967296) / 4294967296) (by omega) (by omega) ?_
 refine nM rfl 32 4294967296 (by omega) (by decide) (by omega) ?_
 refine dM (p / 18446744073709551616) (by omega) (by omega) ?_
 refine kU (aT:=((p % 18446744073709551616:Nat):Int)) (by rw [wrap_u64];omega) ?_
 exact⟨rfl,rfl⟩
def mulL(aE:Nat):List Nat→Nat→List Nat
 | [],c=>[c]
 | L :: aC,c=>(L*aE+c) % 18446744073709551616 :: mulL aE aC ((L*aE+c) / 18446744073709551616)
theorem FX(aE:Nat):∀ (aC:List Nat) (c:Nat),val (mulL aE aC c)=val aC*aE+c
 | [],c=>by simp [mulL,val]
 | L :: aC,c=>by
  simp only [mulL,val,FX aE aC,Nat.add_mul,Nat.mul_assoc]
  generalize L*aE=aT;generalize val aC*aE=bS;omega
theorem KA{Y:aF}{a:S}{c l aE bS aT:Nat}{aC:List Nat}{a2:U}{aI:Nat}(r:cJ a2 a c aC)(m:l=aC.length)(d:a2.size≤aI)(y:aC.length≤8192)(o:aE < 18446744073709551616)(z:bS=aC.length+1)(A:aT=aC.length+1)
  (fI:List Nat) (g:∀ v aB,bK a2 aB→fB a2 aB v (fW (val fI))→Y v aB) :
  ∀ (aD n b:Nat) (a9:List Nat) (Z:U),n+aD=aC.length→a9.length=aC.length+1→b < 18446744073709551616→Own Z aI a9→bK a2 Z→a9.take n ++ mulL aE (aC.drop n) b=fI→
   kI.bU.t Y (aD+1) a l c (aE:Int) (some ⟨aI,0,none⟩) bS aT (b:Int) (l:Int) (n:Int) Z:=by
 subst m
 intro aD
 induction aD with
 | zero=>
  intro n b a9 Z q i j e cO N
  unfold kI.bU.t kI.cH.t
  refine cE (fun a3=>absurd a3 (by omega)) fun _=>?_
  have s:n=aC.length:=by omega
  subst s
  rw [List.drop_length] at N
  unfold kI.a5.t
  refine mY e (aD:=aC.length) rfl (by omega) (by omega) rfl j fun aQ=>?_
  have k:a9.set aC.length b=fI:=by
   rw [← N];show _=_ ++ [b]
   rw [← qV (by omega),List.take_of_length_le (by rw [List.length_set];omega)]
  rw [k] at aQ
  have B:fI.length=aC.length+1:=by rw [← k,List.length_set];exact i
  have u:=cO.set (v:=hR b) (O:=aC.length) d
  refine cD (u5 (aQ.nH (c:=aT) d (by omega)) (by omega)) fun v aB ⟨f,h⟩=>?_
  subst f
  refine h.iM fun a c r O=>?_
  exact g _ _ u (fB.back r O)
 | succ aD bZ=>
  intro n b a9 Z q i j e cO N
  have w:aC.getD n 0 < 18446744073709551616:=r.word n
  rw [jD (aC:=aC) (aD:=n) (by omega)] at N
  simp only [mulL] at N
  have C:aC.getD n 0*aE≤340282366920938463426481119284349108225:=Nat.mul_le_mul (show aC.getD n 0≤18446744073709551615 by omega) (show aE≤18446744073709551615 by omega)
  unfold kI.bU.t kI.cH.t
  refine cE (fun a3=>?_) fun a3=>absurd (by omega) a3
  refine gJ (r.aU cO) (aD:=n) rfl rfl (by omega) ?_
  refine cD (CP w o _) fun v aB ⟨f,h⟩=>?_
  subst f
  refine h.elim ?_
  generalize aC.getD n 0*aE=p at *
  refine qU (c:=0) rfl rfl rfl (by omega) ?_
  have x:(p % 18446744073709551616+b+0) % 18446744073709551616=(p+b) % 18446744073709551616:=by omega
  rw [x]
  refine mY e (aD:=n) rfl (by omega) (by omega) rfl (by omega) fun aQ=>?_
  refine dM ((p+b) / 18446744073709551616) (by omega) (by omega) ?_
  refine cT ((n+1:Nat):Int) (by omega) (by omega) (by omega) ?_
  refine bZ (n+1) _ _ _ (by omega) (by simp;omega) (by omega) aQ (cO.set d) ?_
  rw [← N,qV (by omega)];simp
def AY(aC:List Nat)(aE:Nat):List Nat × Int:=if jM aC then fW (val aC*aE) else([],2)
theorem KB{a:S}{c l aE:Nat}{aC:List Nat}{Z:U}(r:cJ Z a c aC)(d:l=aC.length)(e:aE < 18446744073709551616):
  a4 kI.id #[.slice a l c,.int .u64 (aE:Int)] Z fun v aB=>bK Z aB∧fB Z aB v (AY aC aE):=by
 refine kI.ok ?_
 unfold kI.t kI.aP.t
 refine cD (oC r d) fun v aB ⟨g,h⟩=>?_
 subst g;subst h;subst d
 refine dB rfl ?_
 unfold AY
 refine hO (fun b=>⟨bK.refl _,?_⟩) fun b=>?_
 ·rw [if_neg (of_decide_eq_false b)];exact fB.none
 have f:=of_decide_eq_true b
 rw [if_pos f]
 have i:=f.1
 refine cT ((aC.length+1:Nat):Int) (by omega) (by omega) (by omega) ?_
 refine oD (aC.length+1) rfl rfl rfl rfl (by omega) fun a1 aQ R=>?_
 unfold kI.bM.t
 refine⟨aC.length+1,?_⟩
 refine KA r rfl (Nat.le_refl _) i e rfl rfl (mulL aE aC 0) ?_ aC.length 0 0 _ a1 (by omega) (by simp) (by omega) aQ R (by simp)
 rw [FX,Nat.add_zero];exact fun v aB R j=>⟨R,j⟩
theorem FY{aE:Nat}(a:aE < 18446744073709551616)(Z:U):a4 kV.id #[.int .u64 (aE:Int)] Z fun v aB=>bK Z aB∧w0 Z aB v (aN aE):=by
 refine kV.ok ?_
 unfold kV.t kV.aP.t
 refine gL (fun a2=>⟨bK.refl _,?_⟩) fun a2=>?_
 ·have:aE=0:=by omega
  subst this;rw [e0];exact⟨none,0,rfl,cX.nil _ _⟩
 ·refine xC [aE] (by rfl) (by simp) (by simpa using a) fun a1 aQ R=>⟨R,?_⟩
  have N:aN aE=[aE]:=by
   rw [k2 (by omega),show aE / 18446744073709551616=0 by omega,e0,Nat.mod_eq_of_lt a]
  rw [N];exact⟨_,_,rfl,aQ.nH (Nat.le_refl _) (by simp)⟩
theorem FZ{L:Nat}(a:L < 18446744073709551616)(Z:U):a4 s0.id #[.int .u64 (L:Int)] Z fun v aB=>aB=Z∧v=.int .i64 ((64 - eJ L:Nat):Int):=by
 refine s0.ok ?_
 unfold s0.t s0.aP.t
 refine cD (Fp rfl a _) fun v aB ⟨b,c⟩=>?_
 subst b;subst c
 refine b0 rfl ?_
 have:eJ L≤64:=iL.mpr a
 exact cT ((64 - eJ L:Nat):Int) (by omega) (by omega) (by omega) ⟨rfl,rfl⟩
structure pX(u32 eL e5 fL aI r:Nat):Prop where
 rest:aI*e5+r=u32
 up:u32*4294967296+eL < (aI+1)*(e5*4294967296+fL)
theorem pX.AZ{u32 eL e5 fL aI r:Nat}(g:pX u32 eL e5 fL aI r)(c:u32 < e5*4294967296+fL)(hu:eL < 4294967296)(a3:4294967296≤aI∨aI*fL > 4294967296*r+eL):1≤aI∧pX u32 eL e5 fL (aI - 1) (r+e5):=by
 have b:1≤aI:=by
  rcases a3 with Z | Z
  ·omega
  ·exact Nat.pos_of_ne_zero fun N=>by subst N;simp at Z
 obtain⟨p,rfl⟩:∃ p,aI=p+1:=⟨aI - 1,by omega⟩
 refine⟨b,?_,?_⟩
 ·have:=g.rest
  rw [Nat.add_mul,Nat.one_mul] at this
  rw [Nat.add_sub_cancel];omega
 ·rw [Nat.add_sub_cancel]
  rcases a3 with Z | Z
  ·have a1:4294967296*(e5*4294967296+fL)≤(p+1)*(e5*4294967296+fL):=Nat.mul_le_mul_right _ Z
   generalize (p+1)*(e5*4294967296+fL)=bS at *;omega
  ·have a1:=g.rest
   rw [Nat.mul_add,← Nat.mul_assoc]
   generalize (p+1)*e5=a at *
   generalize (p+1)*fL=K at *
   omega
theorem pX.fits{u32 eL e5 fL aI r:Nat}(g:pX u32 eL e5 fL aI r)(a3:aI*fL≤4294967296*r+eL):aI=(u32*4294967296+eL) / (e5*4294967296+fL):=by
 have a1:=g.rest
 have c:aI*(e5*4294967296+fL)≤u32*4294967296+eL:=by
  rw [Nat.mul_add,← Nat.mul_assoc]
  generalize aI*e5=a at *;generalize aI*fL=K at *;omega
 have b:=g.up
 have d:0 < e5*4294967296+fL:=Nat.pos_of_ne_zero fun N=>by rw [N] at b;simp at b
 refine(Nat.div_eq_of_lt_le ?_ ?_).symm
 ·exact c
 ·exact b
theorem KC{Y:aF}{bQ aG e5 fL eL Q u32:Nat}{Z:U}(d:u32 < e5*4294967296+fL)(hu:eL < 4294967296)(j:e5 < 4294967296)(k:fL < 4294967296)
  (a:hF.cH.t Y (bQ:Int) (aG:Int) (eL:Int) (Q:Int) (u32:Int) (((u32*4294967296+eL) / (e5*4294967296+fL):Nat):Int) Z) :
  ∀ (R aI r:Nat),pX u32 eL e5 fL aI r→aI≤4294967297→r < 4294967296→4294967296≤r+(R+1)*e5→
   hF.g8.t Y (R+1) (bQ:Int) (aG:Int) (e5:Int) (fL:Int) (eL:Int) (Q:Int) (r:Int) (u32:Int) (aI:Int) Z:=by
 intro R
 induction R with
 | zero=>
  intro aI r g h i e
  have step:(4294967296≤aI∨aI*fL > 4294967296*r+eL)→hF.eZ.t Y (hF.g8.t Y 0) (bQ:Int) (aG:Int) (e5:Int) (fL:Int) (eL:Int) (Q:Int) (r:Int) (u32:Int) (aI:Int) Z:=by
   intro a3
   obtain⟨a1,b⟩:=g.AZ d hu a3
   unfold hF.eZ.t
   refine dM (aI - 1) (by omega) (by omega) ?_
   refine dM (r+e5) (by omega) (by omega) ?_
   refine cE (fun _=>?_) fun f=>absurd (by omega) f
   have c:(aI - 1)*fL≤4294967296*4294967295:=Nat.mul_le_mul (by omega) (by omega)
   rw [← b.fits (by omega)] at a;exact a
  unfold hF.g8.t hF.eX.t
  refine cE (fun a3=>step (Or.inl (by omega))) fun a3=>?_
  have c:aI*fL≤4294967295*4294967295:=Nat.mul_le_mul (by omega) (by omega)
  refine dM (aI*fL) (by norm_cast) (by omega) ?_
  refine dM (4294967296*r) (by omega) (by omega) ?_
  refine dM (4294967296*r+eL) (by omega) (by omega) ?_
  refine cE (fun a3=>step (Or.inr (by omega))) fun a3=>?_
  rw [← g.fits (by omega)] at a;exact a
 | succ R bZ=>
  intro aI r g h i e
  have step:(4294967296≤aI∨aI*fL > 4294967296*r+eL)→hF.eZ.t Y (hF.g8.t Y (R+1)) (bQ:Int) (aG:Int) (e5:Int) (fL:Int) (eL:Int) (Q:Int) (r:Int) (u32:Int) (aI:Int) Z:=by
   intro a3
   obtain⟨a1,b⟩:=g.AZ d hu a3
   unfold hF.eZ.t
   refine dM (aI - 1) (by omega) (by omega) ?_
   refine dM (r+e5) (by omega) (by omega) ?_
   refine cE (fun _=>?_) fun f=>?_
   ·have c:(aI - 1)*fL≤4294967296*4294967295:=Nat.mul_le_mul (by omega) (by omega)
    rw [← b.fits (by omega)] at a;exact a
   ·refine bZ _ _ b (by omega) (by omega) ?_
    rw [Nat.add_mul,Nat.one_mul] at e
    omega
  unfold hF.g8.t hF.eX.t
  refine cE (fun a3=>step (Or.inl (by omega))) fun a3=>?_
  have c:aI*fL≤4294967295*4294967295:=Nat.mul_le_mul (by omega) (by omega)
  refine dM (aI*fL) (by norm_cast) (by omega) ?_
  refine dM (4294967296*r) (by omega) (by omega) ?_
  refine dM (4294967296*r+eL) (by omega) (by omega) ?_
  refine cE (fun a3=>step (Or.inr (by omega))) fun a3=>?_
  rw [← g.fits (by omega)] at a;exact a
theorem KD{Y:aF}{bQ aG e5 fL eL b u32:Nat}{Z:U}(e:u32 < e5*4294967296+fL)(hu:eL < 4294967296)(k:e5 < 4294967296)(l:fL < 4294967296)
  (a:hF.cF.t Y (bQ:Int) (aG:Int) (e5:Int) (fL:Int) (u32:Int) (eL:Int) (b:Int) (((u32*4294967296+eL) / (e5*4294967296+fL):Nat):Int) Z) :
  ∀ (R aI r:Nat),pX u32 eL e5 fL aI r→aI≤4294967297→r < 4294967296→4294967296≤r+(R+1)*e5→
   hF.kJ.t Y (R+1) (bQ:Int) (aG:Int) (e5:Int) (fL:Int) (u32:Int) (eL:Int) (b:Int) (aI:Int) (r:Int) Z:=by
 intro R
 induction R with
 | zero=>
  intro aI r g i j f
  have step:(4294967296≤aI∨aI*fL > 4294967296*r+eL)→hF.pY.t Y (hF.kJ.t Y 0) (bQ:Int) (aG:Int) (e5:Int) (fL:Int) (u32:Int) (eL:Int) (b:Int) (aI:Int) (r:Int) Z:=by
   intro a3
   obtain⟨a1,c⟩:=g.AZ e hu a3
   unfold hF.pY.t
   refine dM (aI - 1) (by omega) (by omega) ?_
   refine dM (r+e5) (by omega) (by omega) ?_
   refine cE (fun _=>?_) fun h=>absurd (by omega) h
   have d:(aI - 1)*fL≤4294967296*4294967295:=Nat.mul_le_mul (by omega) (by omega)
   rw [← c.fits (by omega)] at a;exact a
  unfold hF.kJ.t hF.s3.t
  refine cE (fun a3=>step (Or.inl (by omega))) fun a3=>?_
  have d:aI*fL≤4294967295*4294967295:=Nat.mul_le_mul (by omega) (by omega)
  refine dM (aI*fL) (by norm_cast) (by omega) ?_
  refine dM (4294967296*r) (by omega) (by omega) ?_
  refine dM (4294967296*r+eL) (by omega) (by omega) ?_
  refine cE (fun a3=>step (Or.inr (by omega))) fun a3=>?_
  rw [← g.fits (by omega)] at a;exact a
 | succ R bZ=>
  intro aI r g i j f
  have step:(4294967296≤aI∨aI*fL > 4294967296*r+eL)→hF.pY.t Y (hF.kJ.t Y (R+1)) (bQ:Int) (aG:Int) (e5:Int) (fL:Int) (u32:Int) (eL:Int) (b:Int) (aI:Int) (r:Int) Z:=by
   intro a3
   obtain⟨a1,c⟩:=g.AZ e hu a3
   unfold hF.pY.t
   refine dM (aI - 1) (by omega) (by omega) ?_
   refine dM (r+e5) (by omega) (by omega) ?_
   refine cE (fun _=>?_) fun h=>?_
   ·have d:(aI - 1)*fL≤4294967296*4294967295:=Nat.mul_le_mul (by omega) (by omega)
    rw [← c.fits (by omega)] at a;exact a
   ·refine bZ _ _ c (by omega) (by omega) ?_
    rw [Nat.add_mul,Nat.one_mul] at f
    omega
  unfold hF.kJ.t hF.s3.t
  refine cE (fun a3=>step (Or.inl (by omega))) fun a3=>?_
  have d:aI*fL≤4294967295*4294967295:=Nat.mul_le_mul (by omega) (by omega)
  refine dM (aI*fL) (by norm_cast) (by omega) ?_
  refine dM (4294967296*r) (by omega) (by omega) ?_
  refine dM (4294967296*r+eL) (by omega) (by omega) ?_
  refine cE (fun a3=>step (Or.inr (by omega))) fun a3=>?_
  rw [← g.fits (by omega)] at a;exact a
theorem pX.first{u32 eL e5 fL:Nat}(a1:0 < e5)(hu:eL < 4294967296):pX u32 eL e5 fL (u32 / e5) (u32 % e5):=by
 refine⟨by rw [Nat.mul_comm];exact Nat.div_add_mod _ _,?_⟩
 have b:u32 < (u32 / e5+1)*e5:=by
  rw [Nat.add_mul,Nat.one_mul,Nat.mul_comm]
  have:=Nat.div_add_mod u32 e5
  have:=Nat.mod_lt u32 a1
  omega
 rw [Nat.mul_add,← Nat.mul_assoc]
 generalize (u32 / e5+1)*e5=a at *
 omega
theorem F0{u32 e5 fL:Nat}(a1:2147483648≤e5)(a:u32 < e5*4294967296+fL)(b:fL < 4294967296):u32 / e5≤4294967297:=by
 have:u32 / e5 < 4294967298:=by
  rw [Nat.div_lt_iff_lt_mul (by omega)];omega
 omega
theorem CQ{n aT aI r:Nat}(N:aI*aT+r=n)(l:r < aT):n / aT=aI∧n % aT=r:=by
 have a:0 < aT:=Nat.lt_of_le_of_lt (Nat.zero_le _) l
 subst N
 rw [Nat.add_comm,Nat.mul_comm]
 exact⟨by rw [Nat.add_mul_div_left _ _ a,Nat.div_eq_of_lt l,Nat.zero_add],by rw [Nat.add_mul_mod_self_left,Nat.mod_eq_of_lt l]⟩
theorem KE{u32 eL c bQ cQ d b e:Nat}(f:cQ*bQ+d=u32*4294967296+eL)(g:b*bQ+e=d*4294967296+c):(cQ*4294967296+b)*bQ+e=u32*18446744073709551616+eL*4294967296+c:=by
 rw [Nat.add_mul,Nat.mul_right_comm]
 generalize cQ*bQ=a at *;generalize b*bQ=K at *;omega
theorem KF{Y:aF}{bQ aG e5 fL eL c u32 cQ a b d:Nat}{Z:U}(h:bQ=e5*4294967296+fL)(e:c < 4294967296)(i:e5 < 4294967296)(j:2147483648≤e5)(f:fL < 4294967296)(bH:aG < 64)
  (o:cQ*bQ+a=u32*4294967296+eL) (p:a < bQ) (q:cQ < 4294967296) (k:b*bQ+d=a*4294967296+c) (l:d < bQ) (r:b < 4294967296)
  (g:Y (.tuple #[.int .u64 ((cQ*4294967296+b:Nat):Int),.int .u64 ((d / 2 ^ aG:Nat):Int)]) Z) :
  hF.cF.t Y (bQ:Int) (aG:Int) (e5:Int) (fL:Int) (u32:Int) (eL:Int) (c:Int) (cQ:Int) Z:=by
 have s:bQ < 18446744073709551616:=by omega
 have m:=(CQ k l).1
 unfold hF.cF.t
 refine kU (aT:=((u32*4294967296 % 18446744073709551616:Nat):Int)) (by rw [wrap_u64];omega) ?_
 refine kU (aT:=(((u32*4294967296+eL) % 18446744073709551616:Nat):Int)) (by rw [wrap_u64];omega) ?_
 refine kU (aT:=((cQ*bQ % 18446744073709551616:Nat):Int)) (by rw [wrap_u64,← Int.natCast_mul];omega) ?_
 refine kU (aT:=(a:Int)) (by rw [wrap_u64];generalize cQ*bQ=bS at *;omega) ?_
 have n:a / e5≤4294967297:=F0 j (by omega) f
 refine⟨by omega,dM (a / e5) (o4 _ _) (by omega) ?_⟩
 have u:a / e5*e5≤a:=Nat.div_mul_le_self _ _
 have v:a % e5=a - a / e5*e5:=by
  have:=Nat.div_add_mod a e5
  rw [Nat.mul_comm] at this;omega
 have dC:=Nat.mod_lt a (show 0 < e5 by omega)
 refine dM (a / e5*e5) (by rw [Int.natCast_mul]) (by omega) ?_
 refine dM (a % e5) (by omega) (by omega) ?_
 refine⟨1+1,?_⟩
 refine KC (by omega) e i f ?_ 1 _ _ (pX.first (by omega) e) n (by omega) (by omega)
 rw [← h,m]
 unfold hF.cH.t
 refine dM (cQ*4294967296) (by omega) (by omega) ?_
 refine dM (cQ*4294967296+b) (by omega) (by omega) ?_
 refine kU (aT:=((a*4294967296 % 18446744073709551616:Nat):Int)) (by rw [wrap_u64];omega) ?_
 refine kU (aT:=(((a*4294967296+c) % 18446744073709551616:Nat):Int)) (by rw [wrap_u64];omega) ?_
 refine kU (aT:=((b*bQ % 18446744073709551616:Nat):Int)) (by rw [wrap_u64,← Int.natCast_mul];omega) ?_
 refine kU (aT:=(d:Int)) (by rw [wrap_u64];generalize b*bQ=bS at *;omega) ?_
 exact nM rfl aG _ (by omega) rfl rfl g
theorem KG(dO a:Nat):dO*18446744073709551616+a / 4294967296*4294967296+a % 4294967296=dO*18446744073709551616+a:=by omega
theorem F1{a8 bW aT:Nat}(x:a8 < aT)(h:bW < 18446744073709551616)(i:aT < 18446744073709551616)(Z:U):
  a4 hF.id #[.int .u64 (a8:Int),.int .u64 (bW:Int),.int .u64 (aT:Int)] Z fun v aB=>aB=Z∧AX v ((a8*18446744073709551616+bW) / aT) ((a8*18446744073709551616+bW) % aT):=by
 refine hF.ok ?_
 unfold hF.t hF.aP.t
 refine gL (fun d=>absurd d (by omega)) fun d=>?_
 unfold hF.a5.t
 refine cE (fun d=>absurd d (by omega)) fun d=>?_
 unfold hF.bM.t
 refine gL (fun a2=>?_) fun a2=>?_
 ·have N:a8=0:=by omega
  subst N
  have J:=Nat.div_le_self bW aT
  refine⟨by omega,dM (bW / aT) (o4 _ _) (by omega) ?_⟩
  refine⟨by omega,kU (sR _ _) ?_⟩
  rw [Nat.zero_mul,Nat.zero_add];exact⟨rfl,rfl⟩
 ·refine cD (FZ i _) fun v aB ⟨y,z⟩=>?_
  subst y;subst z
  refine b0 rfl ?_
  have P:eJ aT≤64:=iL.mpr i
  have Q:=rI (show aT ≠ 0 by omega)
  obtain⟨aG,bH⟩:∃ aG,aG=64 - eJ aT:=⟨_,rfl⟩
  rw [← bH]
  have T:aG≤63:=by omega
  refine dM aG rfl (by omega) ?_
  have f:0 < 2 ^ aG:=Nat.pow_pos (by decide)
  have j:aT*2 ^ aG < 18446744073709551616:=by
   have:=iL (n:=aT*2 ^ aG) (R:=64)
   rw [AV aG (by omega)] at this
   exact this.mp (by omega)
  have V:9223372036854775808≤aT*2 ^ aG:=Nat.le_of_not_lt fun dC=>by
   have:=(iL (n:=aT*2 ^ aG) (R:=63)).mpr dC
   rw [AV aG (by omega)] at this;omega
  have k:2 ^ aG*2 ^ (64 - aG)=18446744073709551616:=nF (by omega)
  have KH:a8*2 ^ aG+2 ^ aG≤aT*2 ^ aG:=by
   have:=Nat.mul_le_mul_right (2 ^ aG) x
   rw [Nat.succ_mul] at this;exact this
  have A:bW / 2 ^ (64 - aG) < 2 ^ aG:=by
   rw [Nat.div_lt_iff_lt_mul (Nat.pow_pos (by decide)),k];exact h
  have Qx:bW*2 ^ aG=bW / 2 ^ (64 - aG)*18446744073709551616+bW*2 ^ aG % 18446744073709551616:=by
   have N:bW*2 ^ aG / 18446744073709551616=bW / 2 ^ (64 - aG):=by
    rw [← k,Nat.mul_comm bW,Nat.mul_div_mul_left _ _ f]
   have:=Nat.div_add_mod (bW*2 ^ aG) 18446744073709551616
   rw [N] at this;omega
  have l:(a8*18446744073709551616+bW)*2 ^ aG=(a8*2 ^ aG+bW / 2 ^ (64 - aG))*18446744073709551616+bW*2 ^ aG % 18446744073709551616:=by
   rw [Nat.add_mul,Nat.mul_right_comm]
   generalize a8*2 ^ aG=a at *
   generalize bW*2 ^ aG=K at *
   omega
  have B:a8*2 ^ aG ||| bW / 2 ^ (64 - aG)=a8*2 ^ aG+bW / 2 ^ (64 - aG):=by
   rw [Nat.mul_comm,← Nat.two_pow_add_eq_or_of_lt A]
  refine rL rfl aG _ (by omega) rfl rfl ?_
  rw [Nat.mod_eq_of_lt j]
  refine nM rfl 32 4294967296 (by omega) (by decide) (by omega) ?_
  refine oE rfl j ?_
  refine rL rfl aG _ (by omega) rfl rfl ?_
  rw [Nat.mod_eq_of_lt (show a8*2 ^ aG < 18446744073709551616 by omega)]
  refine dM (64 - aG) (by omega) (by omega) ?_
  refine nM rfl (64 - aG) _ (by omega) rfl rfl ?_
  have C:bW / 2 ^ (64 - aG) < 18446744073709551616:=Nat.lt_of_le_of_lt (Nat.div_le_self _ _) h
  refine AO rfl rfl (by omega) C ?_
  rw [B]
  refine rL rfl aG _ (by omega) rfl rfl ?_
  have D:bW*2 ^ aG % 18446744073709551616 < 18446744073709551616:=Nat.mod_lt _ (by decide)
  refine nM rfl 32 4294967296 (by omega) (by decide) (by omega) ?_
  refine oE rfl D ?_
  have E:(a8*18446744073709551616+bW) / aT=((a8*2 ^ aG+bW / 2 ^ (64 - aG))*18446744073709551616+bW*2 ^ aG % 18446744073709551616) / (aT*2 ^ aG):=by
   rw [← l,Nat.mul_div_mul_right _ _ f]
  have F:(a8*18446744073709551616+bW) % aT=((a8*2 ^ aG+bW / 2 ^ (64 - aG))*18446744073709551616+bW*2 ^ aG % 18446744073709551616) % (aT*2 ^ aG) / 2 ^ aG:=by
   rw [← l,Nat.mul_mod_mul_right,Nat.mul_div_cancel _ f]
  have G:a8*2 ^ aG+bW / 2 ^ (64 - aG) < aT*2 ^ aG:=by omega
  rw [E,F]
  generalize a8*2 ^ aG+bW / 2 ^ (64 - aG)=dO at *
  generalize bW*2 ^ aG % 18446744073709551616=b at *
  generalize aT*2 ^ aG=bQ at *
  have m:2147483648≤bQ / 4294967296:=by omega
  have H:dO / (bQ / 4294967296)≤4294967297:=F0 (fL:=bQ % 4294967296) m (by omega) (by omega)
  refine⟨by omega,dM (dO / (bQ / 4294967296)) (o4 _ _) (by omega) ?_⟩
  have Qy:dO / (bQ / 4294967296)*(bQ / 4294967296)≤dO:=Nat.div_mul_le_self _ _
  have Qz:dO % (bQ / 4294967296)=dO - dO / (bQ / 4294967296)*(bQ / 4294967296):=by
   have:=Nat.div_add_mod dO (bQ / 4294967296)
   rw [Nat.mul_comm] at this;omega
  have dC:=Nat.mod_lt dO (show 0 < bQ / 4294967296 by omega)
  refine dM (dO / (bQ / 4294967296)*(bQ / 4294967296)) (by rw [Int.natCast_mul]) (by omega) ?_
  refine dM (dO % (bQ / 4294967296)) (by omega) (by omega) ?_
  refine⟨1+1,?_⟩
  refine KD (by omega) (by omega) (by omega) (by omega) ?_ 1 _ _ (pX.first (by omega) (by omega)) H (by omega) (by omega)
  have o:bQ / 4294967296*4294967296+bQ % 4294967296=bQ:=by omega
  rw [o]
  have e:0 < bQ:=Nat.lt_of_le_of_lt (Nat.zero_le _) G
  have g:(dO*4294967296+b / 4294967296) / bQ*bQ+(dO*4294967296+b / 4294967296) % bQ=dO*4294967296+b / 4294967296:=by rw [Nat.mul_comm];exact Nat.div_add_mod _ _
  have p:=Nat.mod_lt (dO*4294967296+b / 4294967296) e
  have q:(dO*4294967296+b / 4294967296) / bQ < 4294967296:=by
   rw [Nat.div_lt_iff_lt_mul e];omega
  obtain⟨cQ,r⟩:∃ cQ,cQ=(dO*4294967296+b / 4294967296) / bQ:=⟨_,rfl⟩
  obtain⟨c,s⟩:∃ c,c=(dO*4294967296+b / 4294967296) % bQ:=⟨_,rfl⟩
  rw [← r,← s] at g
  rw [← s] at p
  rw [← r] at q ⊢
  have u:(c*4294967296+b % 4294967296) / bQ*bQ+(c*4294967296+b % 4294967296) % bQ=c*4294967296+b % 4294967296:=by rw [Nat.mul_comm];exact Nat.div_add_mod _ _
  have w:=Nat.mod_lt (c*4294967296+b % 4294967296) e
  have I:(c*4294967296+b % 4294967296) / bQ < 4294967296:=by
   rw [Nat.div_lt_iff_lt_mul e];omega
  refine KF o.symm (by omega) (by omega) m (by omega) (by omega) g p q u w I ?_
  have el:=CQ (KE g u) w
  rw [KG] at el
  rw [el.1,el.2];exact⟨rfl,rfl⟩
def vA(aC:List Nat)(aE:Nat):List Nat × Int × Int:=if jM aC then(if aE=0 then([],0,4) else(aN (val aC / aE),((val aC % aE:Nat):Int),0)) else([],0,2)
abbrev yY:jK (List Nat × Int × Int):=iU u1 (n8 .u64) (n8 .i64)
theorem yY.elim{a2 Z:U}{v:Value}{p:List Nat × Int × Int}{aH:S→Nat→Nat→Int→Int→Prop}(a:yY a2 Z v p)(g:∀ a c,cX dL a2 Z a c p.1→aH a p.1.length c p.2.1 p.2.2):
  cW v fun aT=>cV aT fun b eK=>aR b fun a l c=>cV eK fun d e=>a0 .u64 d fun L=>cV e fun f h=>a0 .i64 f fun bS=>b9 h (aH a l c L bS):=by
 obtain⟨L,aT,bS,N,⟨a,c,i,r⟩,⟨j,_⟩,k,_⟩:=a
 subst N;subst i;subst j;subst k;exact g a c r
theorem KI{Y:aF}{a:S}{c l aE bS aT:Nat}{aC:List Nat}{a2:U}{aI:Nat}(r:cJ a2 a c aC)(j:l=aC.length)(h:a2.size≤aI)(x:aC.length≤8192)(k:aE < 18446744073709551616)(y:bS=aC.length)(z:aT=aC.length)
  (g:∀ v aB,bK a2 aB→yY a2 aB v (aN (val aC / aE),((val aC % aE:Nat):Int),0)→Y v aB) :
  ∀ (n le:Nat) (a9:List Nat) (Z:U),n≤aC.length→a9.length=aC.length→le < aE→Own Z aI a9→bK a2 Z→val (a9.drop n)*aE+le=val (aC.drop n)→
   kW.bU.t Y (n+1) a l c (aE:Int) (some ⟨aI,0,none⟩) bS aT (le:Int) ((n:Int) - 1) Z:=by
 subst j
 intro n
 induction n with
 | zero=>
  intro le a9 Z m o b d cO N
  unfold kW.bU.t kW.cH.t
  refine cE (fun a3=>absurd a3 (by omega)) fun _=>?_
  rw [List.drop_zero,List.drop_zero] at N
  have aW:=CQ N b
  unfold kW.a5.t
  refine cD (u5 (d.nH (c:=aT) h (by omega)) (by omega)) fun v aB ⟨f,e⟩=>?_
  subst f
  have p:(aN (val a9)).length≤8192:=by
   rw [mU d.words]
   have:=w7 a9;omega
  have el:fW (val a9)=(aN (val a9),0):=by unfold fW;rw [if_pos p]
  rw [el] at e
  refine e.iM fun a c r _=>?_
  refine g _ _ cO ?_
  rw [aW.1,aW.2];exact⟨_,_,_,rfl,⟨_,_,rfl,r⟩,⟨rfl,by rw [u2];show 0≤(le:Int)∧(le:Int) < 18446744073709551616;omega⟩,rfl,(by decide:In .i64 0)⟩
 | succ n bZ=>
  intro le a9 Z m o b d cO N
  have q:aC.getD n 0 < 18446744073709551616:=r.word n
  unfold kW.bU.t kW.cH.t
  refine cE (fun a3=>?_) fun a3=>absurd (by omega) a3
  refine gJ (r.aU cO) (aD:=n) (by omega) rfl (by omega) ?_
  refine cD (F1 b q k _) fun v aB ⟨f,e⟩=>?_
  subst f
  refine e.elim ?_
  have i:0 < aE:=Nat.lt_of_le_of_lt (Nat.zero_le _) b
  have s:(le*18446744073709551616+aC.getD n 0) / aE < 18446744073709551616:=by
   rw [Nat.div_lt_iff_lt_mul i];omega
  have A:=Nat.div_add_mod (le*18446744073709551616+aC.getD n 0) aE
  have u:=Nat.mod_lt (le*18446744073709551616+aC.getD n 0) i
  refine mY d (aD:=n) (by omega) (by omega) (by omega) rfl s fun aQ=>?_
  refine cT ((n:Int) - 1) (by omega) (by omega) (by omega) ?_
  refine bZ _ _ _ (by omega) (by simp;omega) u aQ (cO.set h) ?_
  have w:(a9.set n ((le*18446744073709551616+aC.getD n 0) / aE)).drop n=(le*18446744073709551616+aC.getD n 0) / aE :: a9.drop (n+1):=by
   rw [jD (by simp;omega),List.drop_set_of_lt (by omega)]
   simp [List.getD,show n < a9.length by omega]
  rw [w,jD (aC:=aC) (by omega)]
  simp only [val]
  rw [Nat.add_mul,Nat.mul_assoc,Nat.mul_comm _ aE]
  generalize aE*((le*18446744073709551616+aC.getD n 0) / aE)=B at *
  generalize (le*18446744073709551616+aC.getD n 0) % aE=bA at *
  generalize val (a9.drop (n+1))*aE=aO at *
  omega
theorem F2{a:S}{c l aE:Nat}{aC:List Nat}{Z:U}(r:cJ Z a c aC)(d:l=aC.length)(f:aE < 18446744073709551616):
  a4 kW.id #[.slice a l c,.int .u64 (aE:Int)] Z fun v aB=>bK Z aB∧yY Z aB v (vA aC aE):=by
 refine kW.ok ?_
 unfold kW.t kW.aP.t
 refine cD (oC r d) fun v aB ⟨g,h⟩=>?_
 subst g;subst h;subst d
 refine dB rfl ?_
 have nil:∀ L:Int,In .i64 L→yY aB aB (.tuple #[.slice none 0 0,.int .u64 0,.int .i64 L]) ([],0,L):=fun L O=>⟨_,_,_,rfl,⟨none,0,rfl,cX.nil _ _⟩,⟨rfl,(by decide:In .u64 0)⟩,rfl,O⟩
 refine hO (fun b=>⟨bK.refl _,?_⟩) fun b=>?_
 ·unfold vA;rw [if_neg (of_decide_eq_false b)];exact nil 2 (by decide)
 have e:=of_decide_eq_true b
 have i:=e.1
 unfold vA;rw [if_pos e]
 refine gL (fun a2=>⟨bK.refl _,?_⟩) fun a2=>?_
 ·rw [if_pos (by omega)];exact nil 4 (by decide)
 have j:¬ aE=0:=by omega
 simp only [if_neg j]
 refine oD aC.length rfl rfl rfl rfl (by omega) fun a1 aQ R=>?_
 unfold kW.bM.t
 refine cT ((aC.length:Int) - 1) rfl (by omega) (by omega) ?_
 refine⟨aC.length+1,?_⟩
 refine KI r rfl (Nat.le_refl _) i f rfl rfl (fun v aB R k=>⟨R,k⟩) aC.length 0 _ a1 (Nat.le_refl _) (by simp) (by omega) aQ R ?_
 rw [List.drop_length,List.drop_of_length_le (by simp)];simp [val]
section
variable {a K:S} {c aZ l m:Nat} {aC aX:List Nat} {Z:U}
end
theorem F3{f:FuncId}{args:Array Value}{Z:U}{c8:Value→Prop}(a:a4 f args Z fun v aB=>aB=Z∧c8 v){T:Value→U→Prop}(g:∀ v,c8 v→T v Z):a4 f args Z fun v aB=>bK Z aB∧T v aB:=
 cD a fun v aB ⟨N,aG⟩=>by subst N;exact⟨bK.refl _,g v aG⟩
theorem F4{L:Int}(O:In .u64 L):L=((L.toNat:Nat):Int)∧L.toNat < 18446744073709551616:=by
 rw [u2] at O;omega
section
variable {a K:S} {c aZ l m:Nat} {aC aX:List Nat} {Z:U} {L:Int}
theorem KJ(a7 bQ:Nat):In .i64 (fU a7 bQ):=by unfold fU;split <;> (try split) <;> decide
end
theorem A0{Z:U}{aI off l:Nat}{a bR bA:List Nat}(aQ:dZ dL Z aI (a ++ (bR ++ bA)))(b:a.length=off)(d:l=bR.length)(e:bR.length≤35184372088828){O:Int}{aD:Nat}(a8:O=(aD:Int))(f:aD < bR.length){aH:Int→Prop}
  (g:aH (bR.getD aD 0:Nat)):c6 (some ⟨aI,off,none⟩) l O 1 fun aI=>fZ Z aI fun v=>a0 .u64 v aH:=by
 have r:=aQ.Cq (off:=off) (n:=bR.length) (c:=bR.length) e (by simp;omega) (Nat.le_refl _)
 have N:((a ++ (bR ++ bA)).drop off).take bR.length=bR:=by rw [← b,List.drop_left,List.take_left]
 rw [N] at r
 exact AF r a8 d f g
def s4(b5:U)(aI:Nat)(a1 Z:U):Prop:=cG aI b5 Z∧cG aI a1 Z
theorem F5{aI p:Nat}{b5 Z aB:U}(R:cG aI b5 Z)(a:cG p Z aB)(f:b5.size≤p)(c:p ≠ aI):cG aI b5 aB:=
 ⟨Nat.le_trans R.le a.le,fun K a3 d=>(a.pre K (Nat.lt_of_lt_of_le a3 R.le) (by omega)).trans (R.pre K a3 d),fun m N=>by
  have b:=R.len m N
  have e:=a.pre aI (E3 b) (fun N=>c N.symm)
  unfold o0 at *;rw [e];exact b⟩
theorem A1{Z b5 a1:U}{aI off l:Nat}{a bR bA:List Nat}(aQ:dZ dL Z aI (a ++ (bR ++ bA)))(d:a.length=off)(i:l=bR.length)(cO:s4 b5 aI a1 Z){O:Int}{aD:Nat}(a8:O=(aD:Int))(e:aD < bR.length){L:Int}{v:Nat}(f:L=(v:Int))(h:v < 18446744073709551616){aH:U→Prop}
  (g:∀ aB,dZ dL aB aI (a ++ (bR.set aD v ++ bA))→s4 b5 aI a1 aB→aH aB):c6 (some ⟨aI,off,none⟩) l O 1 fun aI=>cM Z aI (.int .u64 L) aH:=by
 refine Cr aQ a8 (by omega) (by simp;omega) (by rw [f];rfl) h fun b c=>?_
 refine g _ ?_ ⟨cO.1.trans c,cO.2.trans c⟩
 have N:(a ++ (bR ++ bA)).set (off+aD) v=a ++ (bR.set aD v ++ bA):=by
  rw [← d,List.set_append_right _ _ (by omega),Nat.add_sub_cancel_left,List.set_append_left _ _ e]
 rw [N] at b;exact b
theorem CR{aC:List Nat}{O:Nat}:val (aC.take (O+1))=val (aC.take O)+2 ^ (64*O)*aC.getD O 0:=by
 by_cases a8:O < aC.length
 ·rw [mV a8,h5,List.length_take,Nat.min_eq_left (by omega)];simp [val]
 ·rw [List.take_of_length_le (by omega),List.take_of_length_le (by omega)]
  simp [List.getD,show aC.length≤O by omega]
theorem KK{a K:Nat}(b:a < 18446744073709551616)(a3:K < 18446744073709551616):a*K≤340282366920938463426481119284349108225:=Nat.mul_le_mul (show a≤18446744073709551615 by omega) (show K≤18446744073709551615 by omega)
theorem F6{bR aX:List Nat}{aD aE dO c aQ dI fO t:Nat}(a:aD < bR.length)(a1:c+aE*aX.getD aD 0+aQ+t=bR.getD aD 0+18446744073709551616*(dI+fO))(N:val bR+aE*val (aX.take aD)=dO+(c+aQ)*2 ^ (64*aD)):
  val (bR.set aD t)+aE*val (aX.take (aD+1))=dO+(dI+fO)*2 ^ (64*(aD+1)):=by
 have bH:=mT (a9:=bR) (aD:=aD) (v:=t) a
 rw [CR,kR]
 generalize 2 ^ (64*aD)=P at *
 generalize bR.getD aD 0=bS at *
 have b:(c+aE*aX.getD aD 0+aQ+t)*P=(bS+18446744073709551616*(dI+fO))*P:=by rw [a1]
 have d:(c+aE*aX.getD aD 0+aQ+t)*P=(c+aQ)*P+aE*(P*aX.getD aD 0)+t*P:=by
  have:aE*(P*aX.getD aD 0)=aE*aX.getD aD 0*P:=by rw [Nat.mul_comm P,Nat.mul_assoc]
  rw [this,← Nat.add_mul,← Nat.add_mul];congr 1;omega
 have e:(bS+18446744073709551616*(dI+fO))*P=bS*P+(dI+fO)*(18446744073709551616*P):=by
  rw [Nat.add_mul,Nat.mul_comm 18446744073709551616,Nat.mul_assoc]
 rw [Nat.mul_add]
 omega
theorem F7{aC:List Nat}{n:Nat}(Z:aC.length=n):aC.getD n 0=0:=by simp [List.getD,show aC.length≤n by omega]
theorem KL{Y:aF}{K:S}{c aZ n aI off aE dO:Nat}{aX h bA:List Nat}{b5 a1:U}(aG:cJ b5 K aZ aX)(o:aX.length=n)(f:h.length=off)(x:gA aI K)(q:aE < 18446744073709551616)(E:n < 35184372088820)
  (g:∀ Z aQ bR,aQ≤1→bR.length=n+1→dZ dL Z aI (h ++ (bR ++ bA))→s4 b5 aI a1 Z→val bR+aE*val aX=dO+aQ*2 ^ (64*(n+1))→Y (.int .u64 (aQ:Int)) Z) :
  ∀ (R aD b aQ:Nat) (bR:List Nat) (Z:U),aD+R=n→bR.length=n+1→b < 18446744073709551616→aQ≤1→dZ dL Z aI (h ++ (bR ++ bA))→s4 b5 aI a1 Z→val bR+aE*val (aX.take aD)=dO+(b+aQ)*2 ^ (64*aD)→
   nN.bU.t Y (R+1) (some ⟨aI,off,none⟩) (n+1) c K n aZ (aE:Int) (b:Int) (aQ:Int) (n:Int) (aD:Int) Z:=by
 intro R
 induction R with
 | zero=>
  intro aD b aQ bR Z y d r i e cO N
  have z:aD=n:=by omega
  subst z
  have A:bR.getD aD 0 < 18446744073709551616:=n9 (by decide) (fun L j=>e.ok L (List.mem_append_right _ (List.mem_append_left _ j))) aD
  unfold nN.bU.t nN.cH.t
  refine cE (fun a3=>absurd a3 (by omega)) fun _=>?_
  unfold nN.a5.t
  refine A0 e f d.symm (by omega) rfl (by omega) ?_
  refine w9 rfl rfl rfl i r ?_
  refine A1 e f d.symm cO rfl (by omega) rfl (Nat.mod_lt _ (by decide)) fun k l m=>?_
  refine g k _ _ (by split <;> omega) (by simp [d]) l m ?_
  have s:=F6 (aX:=aX) (aE:=aE) (dO:=dO) (c:=b) (aQ:=aQ) (dI:=0) (fO:=if bR.getD aD 0 < b+aQ then 1 else 0) (t:=(bR.getD aD 0+18446744073709551616 - b - aQ) % 18446744073709551616) (show aD < bR.length by omega) (by rw [F7 o,Nat.mul_zero];split <;> omega) N
  rw [List.take_of_length_le (by omega),Nat.zero_add] at s
  exact s
 | succ R bZ=>
  intro aD b aQ bR Z y d r i e cO N
  have A:bR.getD aD 0 < 18446744073709551616:=n9 (by decide) (fun L j=>e.ok L (List.mem_append_right _ (List.mem_append_left _ j))) aD
  have u:=aG.word aD
  have B:=KK q u
  unfold nN.bU.t nN.cH.t
  refine cE (fun _=>?_) fun a3=>absurd (by omega) a3
  refine gJ (aG.cR x cO.1) (aD:=aD) rfl o.symm (by omega) ?_
  refine cD (CP u q Z) fun v aB ⟨C,D⟩=>?_
  subst C
  refine D.elim ?_
  rw [Nat.mul_comm (aX.getD aD 0) aE]
  obtain⟨p,w⟩:∃ p,p=aE*aX.getD aD 0:=⟨_,rfl⟩
  rw [← w] at B ⊢
  refine qU (a:=p % 18446744073709551616) (K:=b) (c:=0) rfl rfl rfl (by decide) ?_
  refine dM (p / 18446744073709551616+(p % 18446744073709551616+b+0) / 18446744073709551616) (by omega) (by omega) ?_
  refine A0 e f d.symm (by omega) rfl (by omega) ?_
  refine w9 rfl rfl rfl i (Nat.mod_lt _ (by decide)) ?_
  refine A1 e f d.symm cO rfl (by omega) rfl (Nat.mod_lt _ (by decide)) fun k l m=>?_
  refine cT ((aD+1:Nat):Int) (by omega) (by omega) (by omega) ?_
  refine bZ (aD+1) _ _ _ k (by omega) (by simp [d]) (by omega) (by split <;> omega) l m (F6 (by omega) ?_ N)
  rw [← w]
  split <;> omega
theorem KM{K:S}{c aZ l m n aI off aE:Nat}{aX a bR bA:List Nat}{b5 Z:U}(aG:cJ b5 K aZ aX)(d:aX.length=n)(e:l=n+1)(f:m=n)(g:a.length=off)(h:gA aI K)(i:aE < 18446744073709551616)(j:n < 35184372088820)(k:bR.length=n+1)(o:dZ dL Z aI (a ++ (bR ++ bA)))(cO:cG aI b5 Z):
  a4 nN.id #[.slice (some ⟨aI,off,none⟩) l c,.slice K m aZ,.int .u64 (aE:Int)] Z fun v aB=>∃ (aQ:Nat) (b:List Nat),aQ≤1∧v=.int .u64 (aQ:Int)∧b.length=n+1∧dZ dL aB aI (a ++ (b ++ bA))∧s4 b5 aI Z aB∧val b+aE*val aX=val bR+aQ*2 ^ (64*(n+1)):=by
 subst e;subst f
 refine nN.ok ?_
 unfold nN.t nN.aP.t nN.bM.t
 refine⟨m+1,KL (a1:=Z) (dO:=val bR) aG d g h i j (fun w aQ p q r s u N=>⟨aQ,p,q,rfl,r,s,u,N⟩) m 0 0 0 bR Z (by omega) k (by decide) (by decide) o ⟨cO,cG.refl _ _⟩ (by simp [val])⟩
theorem F8{bR aX:List Nat}{aD T c dI t:Nat}(a:aD < bR.length)(a1:c+bR.getD aD 0+aX.getD aD 0=t+18446744073709551616*dI)(N:val bR+c*2 ^ (64*aD)=T+val (aX.take aD)):
  val (bR.set aD t)+dI*2 ^ (64*(aD+1))=T+val (aX.take (aD+1)):=by
 have bH:=mT (a9:=bR) (aD:=aD) (v:=t) a
 rw [CR,kR]
 generalize 2 ^ (64*aD)=P at *
 generalize bR.getD aD 0=bS at *
 have b:(c+bS+aX.getD aD 0)*P=(t+18446744073709551616*dI)*P:=by rw [a1]
 have d:(c+bS+aX.getD aD 0)*P=c*P+bS*P+P*aX.getD aD 0:=by rw [Nat.add_mul,Nat.add_mul,Nat.mul_comm P]
 have e:(t+18446744073709551616*dI)*P=t*P+dI*(18446744073709551616*P):=by rw [Nat.add_mul,Nat.mul_comm 18446744073709551616,Nat.mul_assoc]
 omega
theorem KN{Y:aF}{K:S}{c aZ n aI off T:Nat}{aX f bA:List Nat}{b5 a1:U}(aG:cJ b5 K aZ aX)(m:aX.length=n)(e:f.length=off)(p:gA aI K)(u:n < 35184372088820)
  (g:∀ Z a bR,a≤1→bR.length=n+1→dZ dL Z aI (f ++ (bR ++ bA))→s4 b5 aI a1 Z→val bR+a*2 ^ (64*(n+1))=T+val aX→Y (.int .u64 (a:Int)) Z) :
  ∀ (R aD a:Nat) (bR:List Nat) (Z:U),aD+R=n→bR.length=n+1→a≤1→dZ dL Z aI (f ++ (bR ++ bA))→s4 b5 aI a1 Z→val bR+a*2 ^ (64*aD)=T+val (aX.take aD)→
   nO.bU.t Y (R+1) (some ⟨aI,off,none⟩) (n+1) c K n aZ (a:Int) (n:Int) (aD:Int) Z:=by
 intro R
 induction R with
 | zero=>
  intro aD a bR Z q b h d cO N
  have r:aD=n:=by omega
  subst r
  have s:bR.getD aD 0 < 18446744073709551616:=n9 (by decide) (fun L i=>d.ok L (List.mem_append_right _ (List.mem_append_left _ i))) aD
  unfold nO.bU.t nO.cH.t
  refine cE (fun a3=>absurd a3 (by omega)) fun _=>?_
  unfold nO.a5.t
  refine A0 d e b.symm (by omega) rfl (by omega) ?_
  refine qU (K:=0) rfl rfl rfl h ?_
  refine A1 d e b.symm cO rfl (by omega) rfl (Nat.mod_lt _ (by decide)) fun j k l=>?_
  refine g j _ _ (by omega) (by simp [b]) k l ?_
  have o:=F8 (aX:=aX) (T:=T) (c:=a) (dI:=(bR.getD aD 0+0+a) / 18446744073709551616) (t:=(bR.getD aD 0+0+a) % 18446744073709551616) (show aD < bR.length by omega) (by rw [F7 m];omega) N
  rw [List.take_of_length_le (by omega)] at o
  exact o
 | succ R bZ=>
  intro aD a bR Z q b h d cO N
  have s:bR.getD aD 0 < 18446744073709551616:=n9 (by decide) (fun L i=>d.ok L (List.mem_append_right _ (List.mem_append_left _ i))) aD
  have v:=aG.word aD
  unfold nO.bU.t nO.cH.t
  refine cE (fun _=>?_) fun a3=>absurd (by omega) a3
  refine A0 d e b.symm (by omega) rfl (by omega) ?_
  refine gJ (aG.cR p cO.1) (aD:=aD) rfl m.symm (by omega) ?_
  refine qU rfl rfl rfl h ?_
  refine A1 d e b.symm cO rfl (by omega) rfl (Nat.mod_lt _ (by decide)) fun j k l=>?_
  refine cT ((aD+1:Nat):Int) (by omega) (by omega) (by omega) ?_
  exact bZ (aD+1) _ _ j (by omega) (by simp [b]) (by omega) k l (F8 (by omega) (by omega) N)
theorem F9{K:S}{c aZ l m n aI off:Nat}{aX a bR bA:List Nat}{b5 Z:U}(aG:cJ b5 K aZ aX)(e:aX.length=n)(f:l=n+1)(g:m=n)(h:a.length=off)(i:gA aI K)(j:n < 35184372088820)(k:bR.length=n+1)(o:dZ dL Z aI (a ++ (bR ++ bA)))(cO:cG aI b5 Z):
  a4 nO.id #[.slice (some ⟨aI,off,none⟩) l c,.slice K m aZ] Z fun v aB=>∃ (b:Nat) (d:List Nat),b≤1∧v=.int .u64 (b:Int)∧d.length=n+1∧dZ dL aB aI (a ++ (d ++ bA))∧s4 b5 aI Z aB∧val d+b*2 ^ (64*(n+1))=val bR+val aX:=by
 subst f;subst g
 refine nO.ok ?_
 unfold nO.t nO.aP.t nO.bM.t
 refine⟨m+1,KN (a1:=Z) (T:=val bR) aG e h i j (fun w aQ p q r s u N=>⟨aQ,p,q,rfl,r,s,u,N⟩) m 0 0 bR Z (by omega) k (by decide) o ⟨cO,cG.refl _ _⟩ (by simp [val])⟩
def s5(a8 bW aZ:Nat):Nat:=if aZ≤a8 then 18446744073709551615 else(a8*18446744073709551616+bW) / aZ
theorem KO{a8 bW aZ:Nat}(a:bW < 18446744073709551616):s5 a8 bW aZ < 18446744073709551616:=by
 unfold s5
 split
 ·decide
 ·rw [Nat.div_lt_iff_lt_mul (by omega)]
  have:(a8+1)*18446744073709551616≤aZ*18446744073709551616:=Nat.mul_le_mul_right _ (by omega)
  omega
theorem KP{a8 bW aZ:Nat}(a:bW < 18446744073709551616)(aW:aZ < 18446744073709551616)(Z:U):
  a4 vB.id #[.int .u64 (a8:Int),.int .u64 (bW:Int),.int .u64 (aZ:Int)] Z fun v aB=>aB=Z∧v=.int .u64 ((s5 a8 bW aZ:Nat):Int):=by
 refine vB.ok ?_
 unfold vB.t vB.aP.t
 refine cE (fun a3=>?_) fun a3=>?_
 ·unfold s5;rw [if_pos (by omega)];exact⟨rfl,rfl⟩
 ·refine cD (F1 (by omega) a aW Z) fun v aB ⟨N,b⟩=>?_
  subst N
  refine b.elim ?_
  unfold s5;rw [if_neg (by omega)];exact⟨rfl,rfl⟩
theorem KQ{Y:aF}{u:S→Nat→Nat→S→Nat→Nat→Int→S→Nat→Nat→Int→U→Prop}{K:S}{c hU aZ w n a d l x aD dO Q A2:Nat}{aX m bA eW:List Nat}{b5 a1:U}(aG:cJ b5 K aZ aX)(y:aX.length=n)(z:m.length=aD)(A:gA a K)(E:b5.size≤d)(h:d ≠ a)(B:n < 35184372088820)(QA:0 < val aX)
  (QB:val aX*Q+A2=dO) (QC:A2 < val aX) (QD:dO < 2 ^ (64*(n+1))) (QE:aD < eW.length) (QF:l=eW.length) (F:Q < 18446744073709551616)
  (g:∀ b bR,bR.length=n+1→dZ dL b a (m ++ (bR ++ bA))→cG a b5 b→val bR=A2→dZ dL b d (eW.set aD Q)→jQ.eX.t Y u (some ⟨a,0,none⟩) w hU K n aZ (n:Int) (some ⟨d,0,none⟩) l x (aD:Int) b) :
  ∀ (R aE:Nat) (bR:List Nat) (Z:U),Q+(R+1)=aE→aE < 18446744073709551616→bR.length=n+1→dZ dL Z a (m ++ (bR ++ bA))→dZ dL Z d eW→cG a b5 Z→val bR+aE*val aX=dO+2 ^ (64*(n+1))→
   jQ.gD.t Y u (R+1) (some ⟨a,0,none⟩) w hU K n aZ (n:Int) (some ⟨d,0,none⟩) l x (aD:Int) (aE:Int) (some ⟨a,aD,none⟩) (n+1) c Z:=by
 intro R
 induction R with
 | zero=>
  intro aE bR Z C G o p q cO N
  unfold jQ.gD.t jQ.hI.t
  refine dM (aE - 1) (by omega) (by omega) ?_
  refine cD (F9 aG y rfl rfl z A B o p cO) fun v b ⟨e,i,H,c3,j,k,f,I⟩=>?_
  subst c3
  refine b0 rfl ?_
  have J:Words i:=fun L P=>k.ok L (List.mem_append_right _ (List.mem_append_left _ P))
  have dC:=iK J
  rw [j] at dC
  have T:aE*val aX=val aX*Q+val aX:=by rw [← C,Nat.add_mul,Nat.mul_comm Q];omega
  have r:e=1:=by
   rcases Nat.lt_or_ge e 1 with a2 | a2
   ·have:e=0:=by omega
    subst this
    omega
   ·omega
  subst r
  refine gL (fun _=>?_) fun s=>absurd rfl s
  have V:dZ dL b d eW:=q.cR h f.2
  have Qx:aE - 1=Q:=by omega
  rw [Qx]
  refine AG V (aD:=aD) (v:=Q) rfl (by omega) (by omega) rfl F fun Qy D=>?_
  exact g _ i j (k.cR (fun N=>h N.symm) D) (F5 f.1 D E h) (by omega) Qy
 | succ R bZ=>
  intro aE bR Z C G o p q cO N
  unfold jQ.gD.t jQ.hI.t
  refine dM (aE - 1) (by omega) (by omega) ?_
  refine cD (F9 aG y rfl rfl z A B o p cO) fun v b ⟨e,i,H,c3,j,k,f,I⟩=>?_
  subst c3
  refine b0 rfl ?_
  have T:aE*val aX=(aE - 1)*val aX+val aX:=by
   have:aE=aE - 1+1:=by omega
   conv=>lhs;rw [this,Nat.add_mul,Nat.one_mul]
  have QG:dO < (aE - 1)*val aX:=by
   have Qz:(Q+1)*val aX≤(aE - 1)*val aX:=Nat.mul_le_mul_right _ (by omega)
   rw [Nat.add_mul,Nat.one_mul,Nat.mul_comm] at Qz
   omega
  have r:e=0:=by
   rcases Nat.lt_or_ge e 1 with a2 | a2
   ·omega
   ·have:e=1:=by omega
    subst this
    omega
  subst r
  refine gL (fun s=>absurd s (by decide)) fun _=>?_
  exact bZ (aE - 1) i b (by omega) (by omega) j k (q.cR h f.2) f.1 (by omega)
theorem Ga{a:List Nat}{R V:Nat}(d:V≤2 ^ (64*R))(Z:val a < V)(b:Words a):val (a.drop R)=0∧val (a.take R)=val a:=by
 have N:val a=val (a.take R)+2 ^ (64*R)*val (a.drop R):=by
  by_cases c:R≤a.length
  ·conv=>lhs;rw [← List.take_append_drop R a]
   rw [h5,List.length_take,Nat.min_eq_left c]
  ·rw [List.take_of_length_le (by omega),List.drop_of_length_le (by omega)];simp [val]
 have a2:val (a.drop R)=0:=by
  rw [lW b];exact Nat.div_eq_of_lt (by omega)
 rw [a2] at N
 exact⟨a2,by omega⟩
theorem A3{aC:List Nat}(a:Words aC){m:Nat}(b:aC.length=m+1):val aC / 2 ^ (64*m)=aC.getD m 0:=by
 rw [← lW a,jD (by omega),List.drop_of_length_le (by omega)];simp [val]
theorem KR{aC:List Nat}(a:Words aC){m:Nat}(b:aC.length=m+2):val aC / 2 ^ (64*m)=aC.getD m 0+18446744073709551616*aC.getD (m+1) 0:=by
 rw [← lW a,jD (by omega),jD (by omega),List.drop_of_length_le (by omega)];simp [val]
theorem KS{bR aX:List Nat}{n dO:Nat}(b:Words bR)(c:Words aX)(g:bR.length=n+1)(h:aX.length=n)(i:0 < n)(j:aX.getD (n - 1) 0 ≠ 0)(d:val bR=dO)(dC:dO < 18446744073709551616*val aX):
  dO / val aX≤s5 (bR.getD n 0) (bR.getD (n - 1) 0) (aX.getD (n - 1) 0):=by
 have e:0 < val aX:=by
  rcases Nat.eq_zero_or_pos (val aX) with N | N
  ·rw [N] at dC;omega
  ·exact N
 unfold s5
 split
 ·have:dO / val aX < 18446744073709551616:=by rw [Nat.div_lt_iff_lt_mul e];exact dC
  omega
 ·have a:=A3 c (m:=n - 1) (by omega)
  have f:=KR b (m:=n - 1) (by omega)
  rw [show n - 1+1=n by omega,d] at f
  rw [show bR.getD n 0*18446744073709551616+bR.getD (n - 1) 0=dO / 2 ^ (64*(n - 1)) by omega,← a,Nat.div_div_eq_div_mul]
  refine Nat.div_le_div_left (Nat.mul_div_le _ _) ?_
  rw [a];exact Nat.mul_pos (Nat.pow_pos (by decide)) (by omega)
theorem KT{Y:aF}{K:S}{aZ n d f b hU iG:Nat}{aX hH:List Nat}{b5:U}(aG:cJ b5 K aZ aX)(l:aX.length=n)(z:gA d K)(V:b5.size≤f)(u:f ≠ d)(Qx:n < 35184372088820)(QX:0 < n)(Qy:aX.getD (n - 1) 0 ≠ 0)(Rg:b < 35184372088820)(Rh:b≤hU)(Ri:n < b)
  (QY:val hH=iG) (Rj:hH.length=b) (Qz:Words hH)
  (post:∀ Z a eW,a.length=b→eW.length=b - n→dZ dL Z d a→dZ dL Z f eW→cG d b5 Z→val a=iG % val aX→val eW=iG / val aX→Y (.slice (some ⟨f,0,none⟩) (b - n) (b - n)) Z) :
  ∀ (aD:Nat) (a eW:List Nat) (Z:U),aD≤b - n→a.length=b→eW.length=b - n→dZ dL Z d a→dZ dL Z f eW→cG d b5 Z→a.take aD=hH.take aD→val (a.drop aD) < val aX→val (eW.drop aD)*val aX+val (a.drop aD)=iG / 2 ^ (64*aD)→
   jQ.dS.t Y (aD+1) (some ⟨d,0,none⟩) b hU K n aZ (n:Int) (some ⟨f,0,none⟩) (b - n) (b - n) ((aD:Int) - 1) Z:=by
 have QA:=iK aG.words
 rw [l] at QA
 have o:0 < val aX:=by
  rcases Nat.eq_zero_or_pos (val aX) with N | N
  ·exfalso
   have:=A3 aG.words (m:=n - 1) (by omega)
   rw [N,Nat.zero_div] at this;exact Qy this.symm
  ·exact N
 intro aD
 induction aD with
 | zero=>
  intro a eW Z QZ w x p A cO _ dC N
  unfold jQ.dS.t jQ.dD.t
  refine cE (fun a3=>absurd a3 (by omega)) fun _=>?_
  rw [List.drop_zero] at dC N
  rw [List.drop_zero,Nat.mul_zero,Nat.pow_zero,Nat.div_one] at N
  unfold jQ.bM.t
  refine post Z a eW w x p A cO ?_ ?_
  ·rw [← N,Nat.mul_comm,Nat.mul_add_mod,Nat.mod_eq_of_lt dC]
  ·rw [← N,Nat.mul_comm,Nat.mul_add_div o,Nat.div_eq_of_lt dC,Nat.add_zero]
 | succ aD bZ=>
  intro a eW Z QZ w x p A cO QB dC N
  have QC:Words a:=p.ok
  unfold jQ.dS.t jQ.dD.t
  refine cE (fun _=>?_) fun a3=>absurd (by omega) a3
  unfold jQ.eZ.t
  have Q0:(((aD+1:Nat):Int) - 1)=(aD:Int):=by omega
  rw [Q0]
  obtain⟨e,B⟩:∃ e,e=a.take aD:=⟨_,rfl⟩
  obtain⟨bR,y⟩:∃ bR,bR=(a.drop aD).take (n+1):=⟨_,rfl⟩
  obtain⟨bA,c0⟩:∃ bA,bA=a.drop (aD+(n+1)):=⟨_,rfl⟩
  have QD:a=e ++ (bR ++ bA):=by
   rw [B,y,c0,← List.drop_drop,List.take_append_drop,List.take_append_drop]
  have q:e.length=aD:=by rw [B,List.length_take];omega
  have QE:bR.length=n+1:=by rw [y,List.length_take,List.length_drop];omega
  have Rk:bA.length=b - (aD+(n+1)):=by rw [c0,List.length_drop];omega
  have Rl:val (a.drop aD)=a.getD aD 0+18446744073709551616*val (a.drop (aD+1)):=mD a aD
  have Rm:a.getD aD 0 < 18446744073709551616:=n9 (by decide) QC aD
  have C:val (a.drop aD) < 18446744073709551616*val aX:=by omega
  have QF:val (a.drop aD) < 2 ^ (64*(n+1)):=by
   rw [kR]
   calc val (a.drop aD) < 18446744073709551616*val aX:=C
    _≤18446744073709551616*2 ^ (64*n):=Nat.mul_le_mul_left _ (Nat.le_of_lt QA)
  have QG:Words (a.drop aD):=fun L i=>QC L (List.mem_of_mem_drop i)
  have QH:=Ga (Nat.le_refl _) QF QG
  have QI:val bR=val (a.drop aD):=by rw [y];exact QH.2
  have QJ:Words bR:=fun L i=>QG L (by rw [y] at i;exact List.mem_of_mem_take i)
  have Q1:val bA=0:=by
   have:=QH.1
   rw [List.drop_drop] at this
   rw [c0];exact this
  have QK:cJ Z (some ⟨d,0,none⟩) b a:=(p.n7 (c:=b) (by show _≤35184372088828;omega) (by omega)).yO
  have QL:∀ O,O < n+1→a.getD (aD+O) 0=bR.getD O 0:=by
   intro O a8
   rw [QD]
   simp only [List.getD]
   rw [List.getElem?_append_right (by omega),q,Nat.add_sub_cancel_left,List.getElem?_append_left (by omega)]
  refine cT ((aD+n:Nat):Int) (by omega) (by omega) (by omega) ?_
  refine gJ QK (aD:=aD+n) rfl w.symm (by omega) ?_
  refine cT ((aD+n:Nat):Int) (by omega) (by omega) (by omega) ?_
  refine cT ((aD+(n - 1):Nat):Int) (by omega) (by omega) (by omega) ?_
  refine gJ QK (aD:=aD+(n - 1)) rfl w.symm (by omega) ?_
  refine cT ((n - 1:Nat):Int) (by omega) (by omega) (by omega) ?_
  refine gJ (aG.cR z cO) (aD:=n - 1) rfl l.symm (by omega) ?_
  rw [QL n (by omega),QL (n - 1) (by omega)]
  have QM:=Ay QJ (n - 1)
  refine cD (KP QM (aG.word _) Z) fun v Q2 ⟨r,s⟩=>?_
  subst r;subst s
  refine b0 rfl ?_
  have QN:=KS QJ aG.words QE l QX Qy QI C
  have D:=KO (a8:=bR.getD n 0) (aZ:=aX.getD (n - 1) 0) QM
  generalize s5 (bR.getD n 0) (bR.getD (n - 1) 0) (aX.getD (n - 1) 0)=aE at QN D ⊢
  refine cT ((aD+n:Nat):Int) (by omega) (by omega) (by omega) ?_
  refine cT ((aD+n+1:Nat):Int) (by omega) (by omega) (by omega) ?_
  have Q3:∀ {aH:S→Nat→Nat→Prop},aH (some ⟨d,aD,none⟩) (n+1) (hU - aD)→iR 1 (some ⟨d,0,none⟩) b hU (some (.int .i64 (aD:Int))) (some (.int .i64 ((aD+n+1:Nat):Int))) none aH:=by
   intro aH g
   refine⟨⟨by omega,by omega⟩,⟨by omega,by omega⟩,?_⟩
   show aH (jT (some ⟨d,0,none⟩) hU ((aD:Int)).toNat 1) ((((aD+n+1:Nat):Int)).toNat - ((aD:Int)).toNat) (hU - ((aD:Int)).toNat)
   have r:(((aD+n+1:Nat):Int)).toNat - ((aD:Int)).toNat=n+1:=by omega
   have s:hU - ((aD:Int)).toNat=hU - aD:=by omega
   have j:jT (some ⟨d,0,none⟩) hU ((aD:Int)).toNat 1=some ⟨d,aD,none⟩:=by
    unfold jT
    rw [if_neg (by omega),Int.toNat_natCast,Nat.mul_one]
    show some ((⟨d,0,none⟩:Addr).add aD)=_
    rw [cB]
   rw [r,s,j];exact g
  refine Q3 ?_
  have Q4:dZ dL Q2 d (e ++ (bR ++ bA)):=by rw [← QD];exact p
  have QO:val (a.drop aD) / val aX < 18446744073709551616:=by rw [Nat.div_lt_iff_lt_mul o];exact C
  have QP:=Nat.mod_lt (val (a.drop aD)) o
  have Q5:=Nat.div_add_mod (val (a.drop aD)) (val aX)
  have Q6:a.take aD=hH.take aD:=by
   have:=congrArg (List.take aD) QB
   rwa [List.take_take,List.take_take,Nat.min_eq_left (by omega)] at this
  have Q7:a.getD aD 0=hH.getD aD 0:=by
   have r:(a.take (aD+1)).getD aD 0=a.getD aD 0:=by simp [List.getD]
   have s:(hH.take (aD+1)).getD aD 0=hH.getD aD 0:=by simp [List.getD]
   rw [← r,← s,QB]
  have next:∀ k h,h.length=n+1→dZ dL k d (e ++ (h ++ bA))→cG d b5 k→val h=val (a.drop aD) % val aX→dZ dL k f (eW.set aD (val (a.drop aD) / val aX))→
    jQ.eX.t Y (jQ.dS.t Y (aD+1)) (some ⟨d,0,none⟩) b hU K n aZ (n:Int) (some ⟨f,0,none⟩) (b - n) (b - n) (aD:Int) k:=by
   intro k h Rn Q8 Q9 Ra E
   unfold jQ.eX.t
   refine cT ((aD:Int) - 1) (by omega) (by omega) (by omega) ?_
   have QQ:(e ++ (h ++ bA)).drop aD=h ++ bA:=by rw [← q,List.drop_left]
   have QR:val (h ++ bA)=val (a.drop aD) % val aX:=by rw [h5,Q1,Ra];simp
   refine bZ (e ++ (h ++ bA)) (eW.set aD (val (a.drop aD) / val aX)) k (by omega) (by simp;omega) (by simp [x]) Q8 E Q9 ?_ ?_ ?_
   ·have QS:(e ++ (h ++ bA)).take e.length=e:=List.take_left
    rw [q] at QS;rw [QS,B];exact Q6
   ·rw [QQ,QR];exact QP
   ·rw [QQ,QR]
    have Rb:(eW.set aD (val (a.drop aD) / val aX)).drop aD=val (a.drop aD) / val aX :: eW.drop (aD+1):=by
     rw [jD (by simp;omega),List.drop_set_of_lt (by omega)]
     simp [List.getD,show aD < eW.length by omega]
    have Rc:iG / 2 ^ (64*aD)=hH.getD aD 0+18446744073709551616*(iG / 2 ^ (64*(aD+1))):=by
     rw [← QY,← lW Qz,← lW Qz,mD]
    rw [Rb,Rc,← N,← Q7]
    simp only [val]
    rw [Nat.add_mul,Nat.mul_comm (val (a.drop aD) / val aX),Nat.mul_assoc]
    generalize val (eW.drop (aD+1))*val aX=P at *
    omega
  refine cD (KM (c:=hU - aD) aG l rfl rfl q z D Qx QE Q4 cO) fun v F ⟨aQ,G,Ro,c3,H,I,J,j⟩=>?_
  subst c3
  refine b0 rfl ?_
  rw [QI] at j
  have QT:dZ dL F f eW:=A.cR u J.2
  have Rd:Words G:=fun L i=>I.ok L (List.mem_append_right _ (List.mem_append_left _ i))
  have Re:=iK Rd
  rw [H] at Re
  refine gL (fun QU=>?_) fun QV=>?_
  ·have QU:aQ=0:=by omega
   subst QU
   have T:aE=val (a.drop aD) / val aX:=by
    refine Nat.le_antisymm ?_ QN
    rw [Nat.le_div_iff_mul_le o];omega
   refine AG QT (aD:=aD) (v:=val (a.drop aD) / val aX) rfl (by omega) (by omega) (by rw [T];rfl) QO fun E QW=>?_
   refine next _ G H (I.cR (fun N=>u N.symm) QW) (F5 J.1 QW V u) ?_ E
   rw [T,Nat.mul_comm] at j
   omega
  ·have QV:aQ=1:=by omega
   subst QV
   rw [Nat.one_mul] at j
   have T:val (a.drop aD) / val aX < aE:=by
    refine Nat.lt_of_not_le fun Rf=>?_
    have:aE*val aX≤val (a.drop aD) / val aX*val aX:=Nat.mul_le_mul_right _ Rf
    rw [Nat.mul_comm (val (a.drop aD) / val aX)] at this
    omega
   refine⟨aE - val (a.drop aD) / val aX - 1+1,?_⟩
   exact KQ (a1:=F) (dO:=val (a.drop aD)) (Q:=val (a.drop aD) / val aX) (A2:=val (a.drop aD) % val aX) aG l q z V u Qx o Q5 QP QF (by omega) x.symm QO next _ aE G F (by omega) D H I QT J.1 j
theorem KU{K:S}{aZ l n c a hU:Nat}{aX b:List Nat}{Z:U}(aG:cJ Z K aZ aX)(i:aX.length=n)(j:l=n)(k:gA c K)(m:0 < n)(o:aX.getD (n - 1) 0 ≠ 0)(p:a < 35184372088820)(q:a≤hU)(r:n < a)(g:b.length=a)(d:dZ dL Z c b)(dC:val (b.drop (a - n)) < val aX):
  a4 jQ.id #[.slice (some ⟨c,0,none⟩) a hU,.slice K l aZ] Z fun v aB=>∃ e f eW,v=.slice (some ⟨e,0,none⟩) (a - n) (a - n)∧f.length=a∧eW.length=a - n∧dZ dL aB c f∧dZ dL aB e eW∧cG c Z aB∧Z.size≤e∧val f=val b % val aX∧val eW=val b / val aX:=by
 subst j
 have D:=d.lt
 refine jQ.ok ?_
 unfold jQ.t jQ.aP.t jQ.a5.t
 refine cT ((a - l:Nat):Int) (by omega) (by omega) (by omega) ?_
 refine oD (a - l) rfl rfl rfl rfl (by omega) fun a1 s cC=>?_
 unfold jQ.cF.t
 refine cT ((a - l:Nat):Int) (by omega) (by omega) (by omega) ?_
 refine cT (((a - l:Nat):Int) - 1) rfl (by omega) (by omega) ?_
 refine⟨a - l+1,?_⟩
 rw [Int.toNat_natCast]
 have h:Words b:=d.ok
 refine KT (iG:=val b) (hH:=b) aG i k (Nat.le_refl _) (by omega) (by omega) m o p q r rfl g h (fun E u eW w x y z A B C=>⟨Z.size,u,eW,rfl,w,x,y,z,A,Nat.le_refl _,B,C⟩) (a - l) b (List.replicate (a - l) 0) a1 (Nat.le_refl _) g (by simp) (d.aU cC) s.AK cC.Ci rfl dC ?_
 rw [List.drop_of_length_le (by simp)]
 simp only [val,Nat.zero_mul,Nat.zero_add]
 exact lW h _
end Go.Proofs.YtjijdlkpmngolaaGreat.G
