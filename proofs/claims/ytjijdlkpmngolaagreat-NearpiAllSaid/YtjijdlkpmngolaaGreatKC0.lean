import Derived.Test.YtjijdlkpmngolaaGreatKM
import Derived.Test.YtjijdlkpmngolaaGreatKF
import Derived.Test.YtjijdlkpmngolaaGreatKB
set_option linter.unusedVariables false
namespace Go.Proofs.YtjijdlkpmngolaaGreat.G
open Go.Gv
set_option linter.unusedVariables false
structure mG(last m a L v N:Nat):Prop where
 le:N≤last
 eq:v=(a*N+L) % m
 least:∀ aP,aP≤last→v≤(a*aP+L) % m
theorem IS{last m L:Nat}(a:L < m):mG last m 0 L L 0:=
 ⟨Nat.zero_le _,by rw [Nat.zero_mul,Nat.zero_add,Nat.mod_eq_of_lt a],fun aP _=>by rw [Nat.zero_mul,Nat.zero_add,Nat.mod_eq_of_lt a];exact Nat.le_refl _⟩
theorem IT{last m a L v N:Nat}(c:a < m)(Z:mG last m (m - a) ((L+a*last) % m) v N):mG last m a L v (last - N):=by
 have key:∀ aP,aP≤last→((m - a)*aP+(L+a*last) % m) % m=(a*(last - aP)+L) % m:=by
  intro aP b
  rw [Nat.add_mod_mod]
  have R:(m - a)*aP+(L+a*last)=a*(last - aP)+L+m*aP:=by
   have d:(m - a)*aP+a*aP=m*aP:=by rw [← Nat.add_mul,Nat.sub_add_cancel (Nat.le_of_lt c)]
   have e:a*(last - aP)+a*aP=a*last:=by rw [← Nat.mul_add,Nat.sub_add_cancel b]
   omega
  rw [R,Nat.add_mul_mod_self_left]
 refine⟨Nat.sub_le _ _,?_,fun aP b=>?_⟩
 ·rw [Z.eq,key N Z.le]
 ·have:=Z.least (last - aP) (Nat.sub_le _ _)
  rw [key (last - aP) (Nat.sub_le _ _),show last - (last - aP)=aP by omega] at this
  exact this
theorem IU{last m a L:Nat}(c:L < m)(Z:(a*last+L) / m=0):mG last m a L L 0:=by
 have d:∀ aP,aP≤last→(a*aP+L) % m=a*aP+L:=by
  intro aP b
  have aZ:a*last+L < m:=by
   rcases Nat.div_eq_zero_iff.mp Z with Z | Z
   ·omega
   ·exact Z
  have e:=Nat.mul_le_mul_left a b
  exact Nat.mod_eq_of_lt (by omega)
 refine⟨Nat.zero_le _,?_,fun aP b=>?_⟩
 ·rw [Nat.mul_zero,Nat.zero_add,Nat.mod_eq_of_lt c]
 ·rw [d aP b];exact Nat.le_add_left _ _
def kG(m a:Nat):Nat:=if m % a=0 then 0 else a - m % a
theorem IV{m a:Nat}(b:0 < a):∃ E,m+kG m a=a*E:=by
 have aZ:=Nat.div_add_mod m a
 have c:=Nat.mod_lt m b
 unfold kG
 split
 ·exact⟨m / a,by omega⟩
 ·refine⟨m / a+1,?_⟩
  rw [Nat.mul_add,Nat.mul_one];omega
theorem IW{m a:Nat}(b:0 < a):kG m a < a:=by
 unfold kG;split <;> omega
theorem Ev{m a L aE aP t:Nat}(b:0 < a)(g:1≤aE)(Z:t+aE*m=a*aP+L):t % a=(kG m a*(aE - 1)+(L+kG m a) % a) % a:=by
 obtain⟨E,c⟩:=IV (m:=m) b
 generalize kG m a=aH at *
 rw [Nat.add_mod_mod]
 obtain⟨p,rfl⟩:∃ p,aE=p+1:=⟨aE - 1,by omega⟩
 rw [Nat.add_sub_cancel]
 have R:t+a*((p+1)*E)=aH*p+(L+aH)+a*aP:=by
  have d:a*((p+1)*E)=(p+1)*m+(p+1)*aH:=by
   rw [Nat.mul_left_comm,← c,Nat.mul_add]
  have e:(p+1)*aH=aH*p+aH:=by rw [Nat.add_mul,Nat.one_mul,Nat.mul_comm]
  rw [d,e]
  omega
 have aZ:(t+a*((p+1)*E)) % a=t % a:=Nat.add_mul_mod_self_left _ _ _
 have f:(aH*p+(L+aH)+a*aP) % a=(aH*p+(L+aH)) % a:=Nat.add_mul_mod_self_left _ _ _
 rw [← aZ,R,f]
theorem Ew{last m a L v aC bH:Nat}(c:0 < a)(g:L < m)(d:bH=(a*last+L) / m)(aX:bH ≠ 0)(Z:mG (bH - 1) a (kG m a) ((L+kG m a) % a) v aC):∀ aP,aP≤last→L≤(a*aP+L) % m∨v≤(a*aP+L) % m:=by
 intro aP e
 have h:0 < m:=by omega
 have aZ:=Nat.div_add_mod (a*aP+L) m
 have i:(a*aP+L) / m≤bH:=by
  rw [d];exact Nat.div_le_div_right (by have:=Nat.mul_le_mul_left a e;omega)
 generalize j:(a*aP+L) / m=aE at *
 generalize (a*aP+L) % m=t at *
 by_cases f:aE=0
 ·left;rw [f,Nat.mul_zero] at aZ;have:=Nat.zero_le (a*aP);omega
 ·right
  have b:=Z.least (aE - 1) (by omega)
  rw [← Ev (aP:=aP) (t:=t) (aE:=aE) c (by omega) (by rw [Nat.mul_comm aE m];omega)] at b
  exact Nat.le_trans b (Nat.mod_le _ _)
theorem IX{last m a L v aC bH:Nat}(c:0 < a)(b:L < m)(d:bH=(a*last+L) / m)(aX:bH ≠ 0)(Z:mG (bH - 1) a (kG m a) ((L+kG m a) % a) v aC)(f:L≤v):mG last m a L L 0:=by
 refine⟨Nat.zero_le _,by rw [Nat.mul_zero,Nat.zero_add,Nat.mod_eq_of_lt b],fun aP e=>?_⟩
 rcases Ew c b d aX Z aP e with aZ | aZ <;> omega
def rK(F a:Nat):Nat:=if F % a=0 then F / a else F / a+1
theorem up_mul{F a:Nat}(b:0 < a):F≤a*rK F a∧a*rK F a < F+a:=by
 have aZ:=Nat.div_add_mod F a
 have c:=Nat.mod_lt F b
 unfold rK
 split
 ·omega
 ·rw [Nat.mul_add,Nat.mul_one];omega
theorem IY{last m a L v aC bH:Nat}(b:0 < a)(k:a < m)(e:L < m)(c:bH=(a*last+L) / m)(aX:bH ≠ 0)(Z:mG (bH - 1) a (kG m a) ((L+kG m a) % a) v aC)(l:v < L):mG last m a L v (rK ((aC+1)*m - L) a):=by
 obtain⟨eE,n⟩:=up_mul (F:=(aC+1)*m - L) b
 have o:=Z.le
 have p:m≤(aC+1)*m:=Nat.le_mul_of_pos_left m (by omega)
 generalize q:rK ((aC+1)*m - L) a=N at *
 obtain⟨t,d⟩:∃ t,t+(aC+1)*m=a*N+L:=⟨a*N+L - (aC+1)*m,by omega⟩
 have f:t < a:=by omega
 have bW:v=t:=by
  rw [Z.eq,← Nat.mod_eq_of_lt f,Ev (aE:=aC+1) (aP:=N) (L:=L) b (by omega) d,Nat.add_sub_cancel]
 have g:(a*N+L) % m=t:=by
  rw [← d,Nat.add_mul_mod_self_right,Nat.mod_eq_of_lt (by omega)]
 refine⟨?_,by rw [g,bW],fun aP h=>?_⟩
 ·have aZ:=Nat.div_mul_le_self (a*last+L) m
  rw [← c] at aZ
  have r:(aC+1)*m≤bH*m:=Nat.mul_le_mul_right m (by omega)
  refine Nat.le_of_not_lt fun i=>?_
  have j:=Nat.mul_le_mul_left a (show last+1≤N from i)
  rw [Nat.mul_add,Nat.mul_one] at j
  omega
 ·rcases Ew b e c aX Z aP h with aZ | aZ <;> omega
theorem IZ{last m a L:Nat}(b:a < m)(c:L < m):(a*last+L) / m≤last:=by
 refine Nat.le_of_lt_succ ((Nat.div_lt_iff_lt_mul (by omega)).mpr ?_)
 have aZ:a*last≤m*last:=Nat.mul_le_mul_right last (Nat.le_of_lt b)
 rw [Nat.succ_mul,Nat.mul_comm last m];omega
theorem I0{Y:aD}{a:M}{c l:Nat}{aA:List Nat}{Z:U}(r:cG Z a c aA)(e:l=aA.length)(g:Y (.slice a (dS aA).length c) Z):
  ∀ n:Nat,n≤aA.length→dS (aA.take n)=dS aA→lT.cK.t Y (n+1) a l c (n:Int) Z:=by
 have aZ:=r.len
 intro n
 have fin:∀ n:Nat,n≤aA.length→dS aA=aA.take n→lT.a0.t Y a l c (n:Int) Z:=by
  intro n b R
  refine vH rfl (Nat.le_trans b r.cap) ?_
  have f:(dS aA).length=n:=by rw [R,List.length_take];omega
  rw [← f];exact g
 induction n with
 | zero=>
  intro b d
  unfold lT.cK.t lT.cE.t
  refine b9 (fun Z=>absurd Z (by omega)) fun _=>fin 0 b ?_
  rw [← d];rfl
 | succ n bU=>
  intro b d
  refine b9 (fun _=>?_) fun Z=>absurd (by omega) Z
  refine cO (n:Int) (by omega) (by omega) (by omega) ?_
  refine fX r (aC:=n) rfl e (by omega) ?_
  have es:=lS (aA:=aA) (n:=n) (by omega)
  refine eY (fun h=>?_) fun h=>?_
  ·refine cO (n:Int) (by omega) (by omega) (by omega) ?_
   refine bU (by omega) ?_
   rw [← d,es,show aA.getD n 0=0 by omega,vI]
  ·refine fin (n+1) b ?_
   rw [← d,es,xC _ (by omega)]
theorem xD{a:M}{c l:Nat}{aA:List Nat}{Z:U}(r:cG Z a c aA)(b:l=aA.length):
  aY lT.id #[.slice a l c] Z fun v K=>K=Z∧v=.slice a (dS aA).length c∧cG Z a c (dS aA):=by
 have d:cG Z a c (dS aA):=by
  have:∀ n:Nat,n≤aA.length→dS (aA.take n)=dS aA→∃ m,dS aA=aA.take m:=by
   intro n
   induction n with
   | zero=>intro _ R;exact⟨0,by rw [← R];rfl⟩
   | succ n bU=>
    intro e R
    have es:=lS (aA:=aA) (n:=n) (by omega)
    by_cases aX:aA.getD n 0=0
    ·refine bU (by omega) ?_;rw [← R,es,aX,vI]
    ·refine⟨n+1,?_⟩;rw [← R,es,xC _ aX]
  obtain⟨m,R⟩:=this aA.length (Nat.le_refl _) (by rw [List.take_length])
  rw [R];exact r.take m
 refine lT.ok ?_
 unfold lT.t lT.aL.t
 refine⟨aA.length+1,?_⟩
 subst b
 exact I0 r rfl ⟨rfl,rfl,d⟩ aA.length (Nat.le_refl _) (by rw [List.take_length])
theorem tA{a:M}{c l:Nat}{aA:List Nat}{aX Z:U}(g:cV dP aX Z a c aA)(b:l=aA.length):
  aY m9.id #[.slice a l c] Z fun v K=>K=Z∧e2 aX Z v (fL (val aA)):=by
 have r:=g.eJ
 refine m9.ok ?_
 unfold m9.t m9.aL.t
 refine cA (xD r b) fun v K ⟨d,e,h⟩=>?_
 subst d;subst e
 have R:=lR r.words
 refine b9 (fun f=>?_) fun f=>?_
 ·refine⟨rfl,?_⟩
  unfold fL;rw [R,if_neg (by omega)];exact e2.none
 ·refine⟨rfl,?_⟩
  unfold fL;rw [R,if_pos (by omega)];exact e2.mk rfl rfl g.trim (show In .i64 0 by decide)
theorem nA{a:M}{c l:Nat}{aA:List Nat}{Z:U}(r:cG Z a c aA)(e:l=aA.length):
  aY kH.id #[.slice a l c] Z fun v K=>K=Z∧v=.bool (decide (iT aA)):=by
 subst e
 have aZ:=r.len
 refine kH.ok ?_
 unfold kH.t kH.aL.t
 refine b9 (fun g=>?_) fun g=>?_
 ·refine eY (fun aX=>?_) fun aX=>?_
  ·refine⟨rfl,?_⟩
   have R:aA=[]:=List.length_eq_zero_iff.mp (by omega)
   subst R;rfl
  ·refine cO ((aA.length - 1:Nat):Int) (by omega) (by omega) (by omega) ?_
   refine fX r (aC:=aA.length - 1) rfl rfl (by omega) ⟨rfl,?_⟩
   have d:=@vJ aA
   by_cases b:aA.getD (aA.length - 1) 0=0
   ·rw [b]
    have:¬ iT aA:=fun f=>by
     rcases d.mp f.2 with R | R
     ·subst R;simp at aX
     ·exact R b
    simp [this]
   ·have:iT aA:=⟨by omega,d.mpr (Or.inr b)⟩
    simp only [this,decide_true]
    congr 1
    exact bne_iff_ne.mpr (by omega)
 ·refine⟨rfl,?_⟩
  have:¬ iT aA:=fun f=>by have:=f.1;omega
  simp [this]
theorem BF{a:M}{c l:Nat}{aA:List Nat}{Z:U}(r:cG Z a c aA)(e:l=aA.length):
  aY qJ.id #[.slice a l c] Z fun v K=>bA Z K∧e2 Z K v (fL (val aA)):=by
 refine qJ.ok ?_
 unfold qJ.t qJ.aL.t
 refine cA (xD r e) fun v K ⟨f,g,b⟩=>?_
 subst f;subst g
 have R:=lR r.words
 refine b9 (fun h=>?_) fun h=>?_
 ·refine⟨bA.refl _,?_⟩
  unfold fL;rw [R,if_neg (by omega)];exact e2.none
 ·have aZ:=b.len
  refine nZ (dS aA).length rfl rfl rfl rfl aZ fun aZ aN S=>?_
  refine zS aN (b.aR S) (by simp) rfl (Nat.le_refl _) S fun k d i=>?_
  refine⟨i,?_⟩
  unfold fL;rw [R,if_pos (by omega)]
  have j:List.take (List.replicate (dS aA).length 0).length (dS aA) ++ List.drop (dS aA).length (List.replicate (dS aA).length 0)=dS aA:=by simp
  rw [j] at d
  exact e2.mk (by simp) rfl (d.mE (Nat.le_refl _) (by simp)) (show In .i64 0 by decide)
theorem I1{Y:aD}{a L:M}{c aV l m:Nat}{aA aU:List Nat}{Z:U}(r:cG Z a c aA)(aH:cG Z L aV aU)(e:l=aA.length)(f:m=aU.length)(h:aA.length=aU.length)(g:Y (.bool (decide (aA=aU))) Z):
  ∀ S n:Nat,n+S=aA.length→aA.take n=aU.take n→kI.bL.t Y (S+1) a l c L m aV (n:Int) Z:=by
 subst e;subst f
 have aZ:=r.len
 intro S
 induction S with
 | zero=>
  intro n i d
  refine b9 (fun b=>absurd b (by omega)) fun _=>?_
  have R:aA=aU:=by
   rw [← List.take_length (l:=aA),← List.take_length (l:=aU),← h,show aA.length=n by omega];exact d
  show Y (.bool true) Z
  simpa [R] using g
 | succ S bU=>
  intro n i d
  refine b9 (fun b=>?_) fun b=>absurd (by omega) b
  refine fX r (aC:=n) rfl rfl (by omega) ?_
  refine fX aH (aC:=n) rfl rfl (by omega) ?_
  refine jK (fun j=>?_) fun k=>?_
  ·have R:aA ≠ aU:=fun R=>j (by rw [R])
   simpa [R] using g
  ·refine cO ((n+1:Nat):Int) (by omega) (by omega) (by omega) ?_
   refine bU (n+1) (by omega) ?_
   rw [lS (by omega),lS (by omega),d,show aA.getD n 0=aU.getD n 0 by omega]
theorem I2{a L:M}{c aV l m:Nat}{aA aU:List Nat}{Z:U}(r:cG Z a c aA)(aH:cG Z L aV aU)(b:l=aA.length)(d:m=aU.length):
  nB kI.id #[.slice a l c,.slice L m aV] Z fun v=>v=.bool (decide (aA=aU)):=by
 refine⟨.bool (decide (aA=aU)),?_,rfl⟩
 refine kI.ok ?_
 unfold kI.t kI.aL.t
 refine jK (fun e=>?_) fun f=>?_
 ·have R:aA ≠ aU:=fun R=>e (by rw [b,d,R])
  simp [R]
 ·refine⟨l+1,?_⟩
  refine I1 r aH b d (by omega) ⟨rfl,rfl⟩ l 0 (by omega) ?_
  simp
theorem I3{a L:M}{c aV l m:Nat}{aA aU:List Nat}{Z:U}(r:cG Z a c aA)(aH:cG Z L aV aU)(b:l=aA.length)(d:m=aU.length){aF:Bool→Prop}(g:aF (decide (aA=aU))):
  nB kI.id #[.slice a l c,.slice L m aV] Z fun v=>eS v aF:=by
 obtain⟨v,e,R⟩:=I2 r aH b d
 subst R
 exact⟨_,e,g⟩
theorem zT{N:Int}{aP:Int}{n:Nat}(a:N=(n:Int))(aH p:Nat)(bM:aH≤64)(b:p=2 ^ aH)(c:aP=(aH:Int)){aF:Int→Prop}(g:aF ((n / p:Nat):Int)):a5 (g6 .u64 N aP) aF:=by
 subst a;subst c;subst b
 refine⟨?_⟩
 show aF (Int.fdiv (n:Int) (2 ^ (min (aH:Int).toNat 64)))
 have R:min (aH:Int).toNat 64=aH:=by omega
 rw [R]
 have d:Int.fdiv (n:Int) (2 ^ aH)=((n / 2 ^ aH:Nat):Int):=by
  rw [Int.fdiv_eq_ediv_of_nonneg _ (Int.le_of_lt (Int.pow_pos (by decide)))]
  norm_cast
 rw [d];exact g
theorem j5{N aP:Int}(R:N=aP){aF:Int→Prop}(g:aF aP):a5 N aF:=by subst R;exact⟨g⟩
theorem I4{aH:ByteArray}{N:Int}{n:Nat}{L:UInt8}(a:N=(n:Int))(R:aH[n]?=some L){aF:Int→Prop}(g:aF (L.toNat:Int)):wQ aH N aF:=by
 subst a
 refine⟨by omega,?_⟩
 rw [Int.toNat_natCast,R];exact g
theorem I5:(List.range 256).all (fun N=>decide ((⟨#[0,1,2,2,3,3,3,3,4,4,4,4,4,4,4,4,5,5,5,5,5,5,5,5,5,5,5,5,5,5,5,5,6,6,6,6,6,6,6,6,6,6,6,6,6,6,6,6,6,6,6,6,6,6,6,6,6,6,6,6,6,6,6,6,7,7,7,7,7,7,7,7,7,7,7,7,7,7,7,7,7,7,7,7,7,7,7,7,7,7,7,7,7,7,7,7,7,7,7,7,7,7,7,7,7,7,7,7,7,7,7,7,7,7,7,7,7,7,7,7,7,7,7,7,7,7,7,7,8,8,8,8,8,8,8,8,8,8,8,8,8,8,8,8,8,8,8,8,8,8,8,8,8,8,8,8,8,8,8,8,8,8,8,8,8,8,8,8,8,8,8,8,8,8,8,8,8,8,8,8,8,8,8,8,8,8,8,8,8,8,8,8,8,8,8,8,8,8,8,8,8,8,8,8,8,8,8,8,8,8,8,8,8,8,8,8,8,8,8,8,8,8,8,8,8,8,8,8,8,8,8,8,8,8,8,8,8,8,8,8,8,8,8,8,8,8,8,8,8,8,8,8,8,8,8,8]⟩:ByteArray)[N]?=some (UInt8.ofNat (eB N))))=true:=by decide +kernel
theorem Ex{Y:aD}{n aH:Nat}{N aP:Int}(b:N=(n:Int))(c:aP=(aH:Int))(d:n < 256)(bM:aH≤64){Z:U}(g:Y (.int .i64 ((aH+eB n:Nat):Int)) Z):mH.cE.t Y N aP Z:=by
 subst b;subst c
 unfold mH.cE.t
 have h:eB n≤8:=h8.mpr (by omega)
 have a:=List.all_eq_true.mp I5 n (by simpa using d)
 have a:=of_decide_eq_true a
 have e:IntKind.u8.wrap (n:Int)=(n:Int):=by
  simp only [IntKind.wrap,IntKind.bits,IntKind.signed,Bool.false_and,Bool.false_eq_true,if_false];omega
 refine j5 e ?_
 refine I4 rfl a ?_
 have f:((UInt8.ofNat (eB n)).toNat:Int)=(eB n:Int):=by
  rw [UInt8.toNat_ofNat'];omega
 refine cO (eB n:Int) f (by omega) (by omega) ?_
 refine cO ((aH+eB n:Nat):Int) (by omega) (by omega) (by omega) ?_
 exact g
theorem Ey{N:Int}{n:Nat}(a:N=(n:Int))(h:n < 18446744073709551616)(Z:U):
  aY mH.id #[.int .u64 N] Z fun v K=>K=Z∧v=.int .i64 (eB n:Int):=by
 subst a
 refine mH.ok ?_
 unfold mH.t mH.aL.t
 have low:∀ (m aH:Nat) (N aP:Int),N=(m:Int)→aP=(aH:Int)→m < 65536→aH≤48→aH+eB m=eB n→mH.bF.t (fun v K=>K=Z∧v=.int .i64 (eB n:Int)) N aP Z:=by
  intro m aH N aP a d g bM R
  subst a;subst d
  unfold mH.bF.t
  refine b9 (fun b=>⟨by omega,?_⟩) fun b=>?_
  ·refine zT rfl 8 256 (by omega) (by omega) rfl ?_
   refine cO ((aH+8:Nat):Int) (by omega) (by omega) (by omega) ?_
   have:=s7 m 8
   have e:8 < eB m:=Nat.lt_of_not_le fun c=>by have:=h8.mp c;omega
   refine Ex rfl rfl (by omega) (by omega) ⟨rfl,?_⟩
   rw [← R,show(256:Nat)=2 ^ 8 by decide,this]
   congr 2;omega
  ·refine Ex rfl rfl (by omega) (by omega) ⟨rfl,by rw [R]⟩
 have f:∀ (m aH:Nat) (N aP:Int),N=(m:Int)→aP=(aH:Int)→m < 4294967296→aH≤32→aH+eB m=eB n→mH.a0.t (fun v K=>K=Z∧v=.int .i64 (eB n:Int)) N aP Z:=by
  intro m aH N aP a d g bM R
  subst a;subst d
  unfold mH.a0.t
  refine b9 (fun b=>⟨by omega,?_⟩) fun b=>?_
  ·refine zT rfl 16 65536 (by omega) (by omega) rfl ?_
   refine cO ((aH+16:Nat):Int) (by omega) (by omega) (by omega) ?_
   have:=s7 m 16
   have e:16 < eB m:=Nat.lt_of_not_le fun c=>by have:=h8.mp c;omega
   refine low _ _ _ _ rfl rfl (by omega) (by omega) ?_
   rw [← R,show(65536:Nat)=2 ^ 16 by decide,this];omega
  ·exact low _ _ _ _ rfl rfl (by omega) (by omega) R
 refine b9 (fun b=>⟨by omega,?_⟩) fun b=>?_
 ·refine zT rfl 32 4294967296 (by omega) (by omega) rfl ?_
  have:=s7 n 32
  have e:32 < eB n:=Nat.lt_of_not_le fun c=>by have:=h8.mp c;omega
  refine f _ 32 _ _ rfl rfl (by omega) (by omega) ?_
  rw [show(4294967296:Nat)=2 ^ 32 by decide,this];omega
 ·exact f _ 0 _ _ rfl rfl (by omega) (by omega) (by omega)
theorem Ez{a:M}{c l:Nat}{aA:List Nat}{Z:U}(r:cG Z a c aA)(g:l=aA.length):
  aY oN.id #[.slice a l c] Z fun v K=>K=Z∧v=.int .i64 (eB (val aA):Int):=by
 refine oN.ok ?_
 unfold oN.t oN.aL.t
 refine cA (xD r g) fun v K ⟨e,f,d⟩=>?_
 subst e;subst f
 refine bE rfl ?_
 rw [← rI aA]
 have aZ:=d.len
 refine eY (fun aX=>⟨rfl,?_⟩) fun aX=>?_
 ·have R:dS aA=[]:=List.length_eq_zero_iff.mp (by omega)
  rw [R];rfl
 ·obtain⟨n,b⟩:∃ n,(dS aA).length=n+1:=⟨(dS aA).length - 1,by omega⟩
  rw [b]
  refine cO (n:Int) (by omega) (by omega) (by omega) ?_
  refine cO ((64*n:Nat):Int) (by omega) (by omega) (by omega) ?_
  refine cO (n:Int) (by omega) (by omega) (by omega) ?_
  refine fX d (aC:=n) rfl b.symm (by omega) ?_
  have h:(dS aA).getD n 0 ≠ 0:=by
   rcases vJ.mp (BG aA) with R | R
   ·rw [R] at b;simp at b
   ·rwa [b] at R
  have i:=w6 d.words b h
  have j:eB ((dS aA).getD n 0)≤64:=h8.mpr (d.word n)
  refine cA (Ey rfl (d.word n) _) fun v K ⟨e,f⟩=>?_
  subst e;subst f
  refine bQ rfl ?_
  refine cO (eB (val (dS aA)):Int) (by omega) (by omega) (by omega) ⟨rfl,rfl⟩
theorem qK{N aP:Int}{n:Nat}(a:N=(n:Int))(aH p:Nat)(bM:aH≤64)(b:p=2 ^ aH)(c:aP=(aH:Int)){aF:Int→Prop}(g:aF ((n*p % 18446744073709551616:Nat):Int)):0≤aP∧a5 (h4 .u64 N aP) aF:=by
 subst a;subst c;subst b
 refine⟨by omega,⟨?_⟩⟩
 show aF (IntKind.u64.wrap ((n:Int)*2 ^ (min (aH:Int).toNat 64)))
 have R:min (aH:Int).toNat 64=aH:=by omega
 rw [R,wrap_u64]
 have d:((n:Int)*2 ^ aH) % 18446744073709551616=((n*2 ^ aH % 18446744073709551616:Nat):Int):=by
  have e:(2:Int) ^ aH=((2 ^ aH:Nat):Int):=by rw [Int.natCast_pow];rfl
  rw [e,← Int.natCast_mul];omega
 rw [d];exact g
theorem mI{N aP:Int}{n:Nat}(a:N=(n:Int))(aH p:Nat)(bM:aH≤64)(b:p=2 ^ aH)(c:aP=(aH:Int)){aF:Int→Prop}(g:aF ((n / p:Nat):Int)):0≤aP∧a5 (g6 .u64 N aP) aF:=
 ⟨by omega,zT a aH p bM b c g⟩
theorem zU(a:Nat):BitVec.ofInt 64 (a:Int)=BitVec.ofNat 64 a:=BitVec.ofInt_natCast 64 a
theorem zV{N aP:Int}{a L:Nat}(b:N=(a:Int))(c:aP=(L:Int))(d:a < 18446744073709551616)(e:L < 18446744073709551616){aF:Int→Prop}(g:aF ((a ||| L:Nat):Int)):a5 (uR .u64 N aP) aF:=by
 subst b;subst c
 refine⟨?_⟩
 show aF (IntKind.u64.wrap (BitVec.ofInt 64 (a:Int) ||| BitVec.ofInt 64 (L:Int)).toNat)
 have R:(BitVec.ofInt 64 (a:Int) ||| BitVec.ofInt 64 (L:Int)).toNat=a ||| L:=by
  rw [zU,zU,BitVec.toNat_or,BitVec.toNat_ofNat,BitVec.toNat_ofNat,Nat.mod_eq_of_lt (by omega),Nat.mod_eq_of_lt (by omega)]
 have f:a ||| L < 18446744073709551616:=Nat.or_lt_two_pow (n:=64) d e
 rw [R,BH (by omega) (by omega)];exact g
theorem EA{N aP:Int}{a L:Nat}(b:N=(a:Int))(c:aP=(L:Int))(d:a < 18446744073709551616)(e:L < 18446744073709551616){aF:Int→Prop}(g:aF ((a &&& L:Nat):Int)):a5 (jE .u64 N aP) aF:=by
 subst b;subst c
 refine⟨?_⟩
 show aF (IntKind.u64.wrap (BitVec.ofInt 64 (a:Int) &&& BitVec.ofInt 64 (L:Int)).toNat)
 have R:(BitVec.ofInt 64 (a:Int) &&& BitVec.ofInt 64 (L:Int)).toNat=a &&& L:=by
  rw [zU,zU,BitVec.toNat_and,BitVec.toNat_ofNat,BitVec.toNat_ofNat,Nat.mod_eq_of_lt (by omega),Nat.mod_eq_of_lt (by omega)]
 have f:a &&& L≤a:=Nat.and_le_left
 rw [R,BH (by omega) (by omega)];exact g
theorem EB{O a L:Nat}(Z:L < 2 ^ O):L ||| (2 ^ O*a)=2 ^ O*a+L:=by
 rw [Nat.or_comm,Nat.two_pow_add_eq_or_of_lt Z]
theorem dB{N:Int}(aP:Nat)(R:N=(aP:Int))(Z:aP < 18446744073709551616){aF:Int→Prop}(g:aF (aP:Int)):a5 (IntKind.u64.wrap N) aF:=by
 subst R;refine⟨?_⟩;show aF _;rw [BH (by omega) (by omega)];exact g
theorem n0(n m:Nat):Int.tdiv (n:Int) (m:Int)=((n / m:Nat):Int):=by
 rw [Int.tdiv_eq_ediv_of_nonneg (by omega)];norm_cast
theorem tB(n m:Nat):Int.tmod (n:Int) (m:Int)=((n % m:Nat):Int):=by
 rw [Int.tmod_eq_emod_of_nonneg (by omega)];norm_cast
theorem tC{a L:Nat}(b:a < 4294967296)(b:L < 4294967296):a*L≤18446744065119617025:=Nat.mul_le_mul (show a≤4294967295 by omega) (show L≤4294967295 by omega)
theorem nC{N:Int}{n:Nat}(a:N=(n:Int))(b:n < 18446744073709551616){aF:Int→Prop}(g:aF ((n % 4294967296:Nat):Int)):a5 (jE .u64 N 4294967295) aF:=by
 refine EA (L:=4294967295) a rfl b (by decide) ?_
 have:n &&& 4294967295=n % 4294967296:=Nat.and_two_pow_sub_one_eq_mod n 32
 rw [this];exact g
theorem kJ{N:Int}(aP:Nat)(R:N=(aP:Int))(Z:aP < 4294967296){aF:Int→Prop}(g:aF (aP:Int)):a5 (IntKind.u32.wrap N) aF:=by
 subst R;refine⟨?_⟩;show aF _
 have:IntKind.u32.wrap (aP:Int)=(aP:Int):=by
  simp only [IntKind.wrap,IntKind.bits,IntKind.signed,Bool.false_and,Bool.false_eq_true,if_false];omega
 rw [this];exact g
theorem rL{N:Int}{n:Nat}(a:N=(n:Int)){aF:Int→Prop}(g:aF ((n / 4294967296:Nat):Int)):0≤(32:Int)∧a5 (g6 .u64 N 32) aF:=
 mI a 32 4294967296 (by decide) (by decide) rfl g
theorem BI{N:Int}{n:Nat}(a:N=(n:Int))(b:n < 4294967296){aF:Int→Prop}(g:aF ((n*4294967296:Nat):Int)):0≤(32:Int)∧a5 (h4 .u64 N 32) aF:=by
 refine qK a 32 4294967296 (by decide) (by decide) rfl ?_
 rw [Nat.mod_eq_of_lt (by omega)];exact g
theorem rM{aX Z:U}{a:M}{l c n:Nat}{N:Int}{aA:List Nat}(g:cV b6 aX Z a c aA)(e:bA aX Z)(f:l=aA.length)(h:N=(n:Int))(i:n < 4294967296)(j:aA.length+1≤70368744177656)(k:c < aA.length+1→aA.length+1≤35184372088832){aF:M→Nat→Nat→U→Prop}
  (post:∀ b dF K,cV b6 aX K b dF (aA ++ [n])→bA aX K→(aA.length+1≤c→dF=c)→aF b (aA.length+1) dF K):dN Z 89 [.int .u32 N] fun aE m=>hF m 89 iG a l c (.slice (some aE) 1 1) aF:=
 Ek b6 g e [n] (by rw [h];rfl) (fun aP d=>by rw [List.mem_singleton] at d;subst d;exact i) f rfl rfl 0 rfl pO 4 rfl (by decide) j (fun Z=>by have:=k (by simpa using Z);simp;omega) post
theorem BJ{aX Z:U}{a:M}{l c n:Nat}{N:Int}{aA:List Nat}(g:cV dP aX Z a c aA)(e:bA aX Z)(f:l=aA.length)(h:N=(n:Int))(i:n < 18446744073709551616)(j:aA.length+1≤35184372088828)(k:c < aA.length+1→aA.length+1≤17592186044416){aF:M→Nat→Nat→U→Prop}
  (post:∀ b dF K,cV dP aX K b dF (aA ++ [n])→bA aX K→(aA.length+1≤c→dF=c)→aF b (aA.length+1) dF K):dN Z 35 [.int .u64 N] fun aE m=>hF m 35 j6 a l c (.slice (some aE) 1 1) aF:=
 Ek dP g e [n] (by rw [h];rfl) (fun aP d=>by rw [List.mem_singleton] at d;subst d;exact i) f rfl rfl 0 rfl Ee 8 rfl (by decide) j (fun Z=>by have:=k (by simpa using Z);simp;omega) post
theorem EC{Y:aD}{a:M}{c l:Nat}{aA:List Nat}{Z:U}(r:cH b6 Z a c aA)(j:l=aA.length)(n:Nat)(e:n≤aA.length)(R:dS aA=aA.take n)(g:∀ v K,bA Z K→gO Z K v (D.val aA)→Y v K):gV.a0.t Y a l c (n:Int) Z:=by
 have aZ:=r.m8
 unfold gV.a0.t
 refine pP b6 0 n n rfl pO 4 rfl (by decide) rfl rfl (Nat.le_refl _) (by omega) fun k aN S=>?_
 refine vH rfl (Nat.le_trans e r.cap) ?_
 have f:=(r.take n).aR S
 have b:(aA.take n).length=n:=by rw [List.length_take];omega
 refine IK aN f (by simp) b.symm fun m d h=>?_
 have i:(aA.take n).take (min (aA.take n).length n) ++ (List.replicate n 0).drop (min (aA.take n).length n)=D.aK (D.val aA):=by
  rw [D.lR r.ok,R,b,Nat.min_self,List.take_take];simp
 rw [Int.toNat_natCast] at d ⊢
 rw [i] at d
 refine g _ _ (h.aR S (Nat.le_refl _)) ⟨some ⟨Z.size,0,none⟩,n,?_,d.mE (Nat.le_refl _) (by rw [D.lR r.ok,R,b];show n≤70368744177656;omega) ?_⟩
 ·rw [D.lR r.ok,R,b]
 ·rw [D.lR r.ok,R,b]
theorem I6{Y:aD}{a:M}{c l:Nat}{aA:List Nat}{Z:U}(r:cH b6 Z a c aA)(d:l=aA.length)(g:∀ v K,bA Z K→gO Z K v (D.val aA)→Y v K):
  ∀ n:Nat,n≤aA.length→dS (aA.take n)=dS aA→gV.cK.t Y (n+1) a l c (n:Int) Z:=by
 have aZ:=r.m8
 intro n
 induction n with
 | zero=>
  intro e b
  unfold gV.cK.t gV.cE.t
  refine b9 (fun Z=>absurd Z (by omega)) fun _=>EC r d 0 e ?_ g
  rw [← b];rfl
 | succ n bU=>
  intro e b
  refine b9 (fun _=>?_) fun Z=>absurd (by omega) Z
  refine cO (n:Int) (by omega) (by omega) (by omega) ?_
  refine iR r (aC:=n) rfl d (by omega) ?_
  have es:=lS (aA:=aA) (n:=n) (by omega)
  refine eY (fun f=>?_) fun f=>?_
  ·refine cO (n:Int) (by omega) (by omega) (by omega) ?_
   refine bU (by omega) ?_
   rw [← b,es,show aA.getD n 0=0 by omega,vI]
  ·refine EC r d (n+1) e ?_ g
   rw [← b,es,xC _ (by omega)]
theorem nD{a:M}{c l:Nat}{aA:List Nat}{Z:U}(r:cH b6 Z a c aA)(b:l=aA.length):
  aY gV.id #[.slice a l c] Z fun v K=>bA Z K∧gO Z K v (D.val aA):=by
 refine gV.ok ?_
 unfold gV.t gV.aL.t
 refine⟨aA.length+1,?_⟩
 subst b
 exact I6 r rfl (fun v K S aH=>⟨S,aH⟩) aA.length (Nat.le_refl _) (by rw [List.take_length])
theorem rN{aX Z:U}{a:M}{c l a2:Nat}{aA:List Nat}(g:cV b6 aX Z a c aA)(b:l=aA.length)(d:D.val aA=a2)(S:bA aX Z){Y:aD}(post:∀ v K,bA aX K→gO aX K v a2→Y v K):
  aY gV.id #[.slice a l c] Z fun v K=>aQ v fun a l c=>Y (.slice a l c) K:=by
 subst d
 refine cA (nD g.rd b) fun v K ⟨e,aH⟩=>?_
 refine aH.elim fun bJ bG f=>?_
 exact post _ _ (S.trans e) ⟨_,_,rfl,f.from S.le⟩
theorem I7{Y:aD}{a:M}{c l m:Nat}{b:List Nat}{aX:U}(r:cH b6 aX a c b)(k:l=b.length)(post:∀ a c K,bA aX K→cV dP aX K a c (join b)→Y (.slice a (join b).length c) K)(p:(b.length+1) / 2≤m):
  ∀ (S O:Nat) (bJ:M) (Z:U),O+S=(b.length+1) / 2→cV dP aX Z bJ m (join (b.take (2*O)))→bA aX Z→
   j7.bL.t Y (S+1) a l c bJ O m ((2*O:Nat):Int) Z:=by
 subst k
 have aZ:=r.m8
 intro S
 induction S with
 | zero=>
  intro O bJ Z a4 g cM
  unfold j7.bL.t j7.b7.t
  refine b9 (fun d=>absurd d (by omega)) fun _=>?_
  unfold j7.a0.t
  have R:b.take (2*O)=b:=List.take_of_length_le (by omega)
  rw [R] at g
  have:=post _ _ _ cM g
  have n:(join b).length=O:=by rw [BC];omega
  rw [n] at this;exact this
 | succ S bU=>
  intro O bJ Z a4 g cM
  have q:=r.k3 (2*O)
  have o:=r.k3 (2*O+1)
  have f:(join (b.take (2*O))).length=O:=by rw [BC,List.length_take];omega
  have j:(b.take (2*O)).length % 2=0:=by rw [List.length_take];omega
  unfold j7.bL.t j7.b7.t
  refine b9 (fun _=>?_) fun d=>absurd (by omega) d
  refine iR (r.aR cM) (aC:=2*O) rfl rfl (by omega) ?_
  refine dB (b.getD (2*O) 0) rfl (by omega) ?_
  refine cO ((2*O+1:Nat):Int) (by omega) (by omega) (by omega) ?_
  refine b9 (fun d=>?_) fun d=>?_
  ·refine cO ((2*O+1:Nat):Int) (by omega) (by omega) (by omega) ?_
   refine iR (r.aR cM) (aC:=2*O+1) rfl rfl (by omega) ?_
   refine dB (b.getD (2*O+1) 0) rfl (by omega) ?_
   refine BI rfl o ?_
   refine dB (b.getD (2*O) 0+b.getD (2*O+1) 0*4294967296) (by omega) (by omega) ?_
   refine BJ g cM f.symm rfl (by omega) (by omega) (by omega) fun h dF K e cS i=>?_
   obtain rfl:=i (by omega)
   refine cO ((2*(O+1):Nat):Int) (by omega) (by omega) (by omega) ?_
   rw [f]
   have R:b.take (2*(O+1))=b.take (2*O) ++ [b.getD (2*O) 0,b.getD (2*O+1) 0]:=by
    rw [show 2*(O+1)=2*O+1+1 by omega,lS (by omega),lS (by omega)];simp
   rw [← Ep j,← R] at e
   exact bU (O+1) h K (by omega) e cS
  ·refine BJ g cM f.symm rfl (by omega) (by omega) (by omega) fun h dF K e cS i=>?_
   obtain rfl:=i (by omega)
   refine cO ((2*(O+1):Nat):Int) (by omega) (by omega) (by omega) ?_
   rw [f]
   have R:b.take (2*(O+1))=b.take (2*O) ++ [b.getD (2*O) 0]:=by
    rw [← lS (by omega),List.take_of_length_le (by omega),List.take_of_length_le (by omega)]
   rw [← Er j,← R] at e
   exact bU (O+1) h K (by omega) e cS
theorem I8{a:M}{c l:Nat}{aA:List Nat}{Z:U}(r:cH b6 Z a c aA)(e:l=aA.length):
  aY j7.id #[.slice a l c] Z fun v K=>bA Z K∧s8 Z K v (aK (D.val aA)):=by
 refine j7.ok ?_
 unfold j7.t j7.aL.t
 refine cA (nD r e) fun v aZ ⟨b3,aH⟩=>?_
 refine aH.elim fun aJ aG b=>?_
 have h:=b.rd.m8
 have f:Int.tdiv (((D.aK (D.val aA)).length:Nat):Int) 2=(((D.aK (D.val aA)).length / 2:Nat):Int):=n0 _ 2
 refine⟨by decide,?_⟩
 rw [f]
 refine cO (((D.aK (D.val aA)).length / 2:Nat):Int) rfl (by omega) (by omega) ?_
 refine cO (((D.aK (D.val aA)).length / 2+1:Nat):Int) (by omega) (by omega) (by omega) ?_
 refine pP dP 0 0 ((D.aK (D.val aA)).length / 2+1) rfl Ee 8 rfl (by decide) rfl rfl (by omega) (by omega) fun g aN S=>?_
 unfold j7.bF.t
 refine⟨((D.aK (D.val aA)).length+1) / 2+1,?_⟩
 rw [Int.toNat_natCast]
 refine I7 b.rd rfl (fun i dF K cS d=>?_) (by omega) _ 0 _ g (by omega) ?_ S
 ·have R:join (D.aK (D.val aA))=aK (D.val aA):=IN _
  rw [R] at d ⊢
  exact⟨b3.trans cS,_,_,rfl,d.from b3.le⟩
 ·exact dZ.kF (aA:=join ((D.aK (D.val aA)).take (2*0))) (rest:=List.replicate ((D.aK (D.val aA)).length / 2+1) 0) (by simpa [join] using aN) (Nat.le_refl _) (by simp [join]) (by simp [join]) (by simp [join])
theorem ED{a:M}{c l a2:Nat}{Z:U}(r:cH b6 Z a c (D.aK a2))(b:l=(D.aK a2).length):
  aY j7.id #[.slice a l c] Z fun v K=>bA Z K∧s8 Z K v (aK a2):=by
 have:=I8 r b
 rw [D.e1] at this;exact this
theorem n1{N:Int}{aB:Nat}(a:N=(aB:Int))(d:aB < 18446744073709551616)(Z:U):aY gF.id #[.int .u64 N] Z fun v K=>bA Z K∧gO Z K v aB:=by
 refine gF.ok ?_
 unfold gF.t gF.aL.t
 refine nC a d ?_
 refine kJ (aB % 4294967296) rfl (by omega) ?_
 refine rL a ?_
 refine kJ (aB / 4294967296) rfl (by omega) ?_
 refine vC b6 [aB % 4294967296,aB / 4294967296] rfl (fun aP b=>?_) fun aZ aN S=>?_
 ·simp only [List.mem_cons,List.not_mem_nil,or_false] at b
  show aP < 4294967296
  rcases b with R | R <;> omega
 ·refine rN (aX:=Z) (Y:=fun v K=>bA Z K∧gO Z K v aB) (aN.mE (c:=2) (Nat.le_refl _) (show 2≤70368744177656 by decide) rfl) (by rfl) (a2:=aB) ?_ S (fun v K S aH=>⟨S,aH⟩)
  simp only [D.val];omega
theorem I9{Y:aD}{a L:M}{c aV:Nat}{aA aU:List Nat}{Z:U}(r:cH b6 Z a c aA)(aH:cH b6 Z L aV aU)(e:aA.length=aU.length)(g:Y (.int .i64 (fA (D.val aA) (D.val aU))) Z):
  ∀ n:Nat,n≤aA.length→aA.drop n=aU.drop n→hZ.bL.t Y (n+1) a aA.length c L aU.length aV ((n:Int) - 1) Z:=by
 have aZ:=r.m8
 intro n
 induction n with
 | zero=>
  intro f b
  unfold hZ.bL.t hZ.b7.t
  refine b9 (fun d=>absurd d (by omega)) fun _=>?_
  unfold hZ.a0.t
  rw [List.drop_zero,List.drop_zero] at b
  rw [b] at g
  simpa [fA] using g
 | succ n bU=>
  intro f b
  unfold hZ.bL.t hZ.b7.t
  refine b9 (fun d=>?_) fun d=>absurd (by omega) d
  refine iR r (aC:=n) (by omega) rfl (by omega) ?_
  refine iR aH (aC:=n) (by omega) rfl (by omega) ?_
  refine b9 (fun d=>?_) fun d=>?_
  ·have bW:=D.s6 r.ok aH.ok e (aC:=n) (by omega) b (by omega)
   unfold fA at g;rw [if_pos bW] at g;exact g
  ·refine iR r (aC:=n) (by omega) rfl (by omega) ?_
   refine iR aH (aC:=n) (by omega) rfl (by omega) ?_
   refine b9 (fun h=>?_) fun h=>?_
   ·have bW:=D.s6 aH.ok r.ok e.symm (aC:=n) (by omega) b.symm (by omega)
    unfold fA at g;rw [if_neg (by omega),if_neg (by omega)] at g;exact g
   ·refine cO ((n:Int) - 1) (by omega) (by omega) (by omega) ?_
    refine bU (by omega) ?_
    rw [iK (aA:=aA) (by omega),iK (aA:=aU) (by omega),b,show aA.getD n 0=aU.getD n 0 by omega]
theorem zW{a L:M}{c aV l m a2 bK:Nat}{Z:U}(r:cH b6 Z a c (D.aK a2))(aH:cH b6 Z L aV (D.aK bK))(e:l=(D.aK a2).length)(f:m=(D.aK bK).length):
  aY hZ.id #[.slice a l c,.slice L m aV] Z fun v K=>K=Z∧v=.int .i64 (fA a2 bK):=by
 subst e;subst f
 have aZ:=r.m8
 refine hZ.ok ?_
 unfold hZ.t hZ.aL.t
 have b:D.val (D.aK a2)=a2:=D.e1 a2
 have d:D.val (D.aK bK)=bK:=D.e1 bK
 refine jK (fun h=>?_) fun i=>?_
 ·refine b9 (fun g=>⟨rfl,?_⟩) fun g=>⟨rfl,?_⟩
  ·have:=D.rJ r.ok (D.qF bK) (by omega)
   rw [b,d] at this
   unfold fA;rw [if_pos this]
  ·have:=D.rJ aH.ok (D.qF a2) (by omega)
   rw [b,d] at this
   unfold fA;rw [if_neg (by omega),if_neg (by omega)]
 ·unfold hZ.bF.t
  refine cO (((D.aK a2).length:Int) - 1) rfl (by omega) (by omega) ?_
  refine⟨(D.aK a2).length+1,?_⟩
  refine I9 r aH (by omega) ?_ _ (Nat.le_refl _) ?_
  ·rw [b,d];exact⟨rfl,rfl⟩
  ·rw [List.drop_length,List.drop_of_length_le (by omega)]
theorem zX{Y:aD}{a L:M}{c aV S m T:Nat}{aA aU:List Nat}{aX:U}(O:Nat)(a6:List Nat)(b:Nat)(bJ:M)(Z:U)(N:Int)(d:N=(b:Int))(f:b < 18446744073709551616)(a4:O < m)(w:m≤35184372088832)(g:cV b6 aX Z bJ m a6)(cM:bA aX Z)(e:a6.length=O)
  (bU:∀ bJ Z,cV b6 aX Z bJ m (a6 ++ [b % 4294967296])→bA aX Z→gS.bL.t Y S a aA.length c L aU.length aV bJ (O+1) m ((b / 4294967296:Nat):Int) ((O+1:Nat):Int) Z) :
  a5 (jE .u64 N 4294967295) fun h=>a5 (IntKind.u32.wrap h) fun i=>dN Z 89 [.int .u32 i] fun j k=>hF k 89 iG bJ O m (.slice (some j) 1 1) fun l n o p=>
   0≤(32:Int)∧a5 (g6 .u64 N 32) fun q=>a5 (IntKind.i64.wrap ((O:Int)+1)) fun r=>gS.bL.t Y S a aA.length c L aU.length aV l n o q r p:=by
 refine nC d f ?_
 refine kJ (b % 4294967296) rfl (by omega) ?_
 refine rM g cM e.symm rfl (by omega) (by omega) (by omega) fun s dF K u cS v=>?_
 obtain rfl:=v (by omega)
 refine rL d ?_
 refine cO ((O+1:Nat):Int) (by omega) (by omega) (by omega) ?_
 rw [e]
 exact bU s K u cS
theorem Ja{Y:aD}{a L:M}{c aV m T:Nat}{aA aU:List Nat}{aX:U}(r:cH b6 aX a c aA)(aH:cH b6 aX L aV aU)(p:aA.length < m)(q:aU.length < m)(i:m≤35184372088832)(post:∀ v K,bA aX K→gO aX K v T→Y v K):
  ∀ (S O b:Nat) (a6:List Nat) (bJ:M) (Z:U),O+S=m→a6.length=O→b≤1→(m≤O→b=0)→D.val a6+(D.val (aA.drop O)+D.val (aU.drop O)+b)*2 ^ (32*O)=T→cV b6 aX Z bJ m a6→bA aX Z→
   gS.bL.t Y (S+1) a aA.length c L aU.length aV bJ O m (b:Int) (O:Int) Z:=by
 intro S
 induction S with
 | zero=>
  intro O b a6 bJ Z a4 d n l R g cM
  unfold gS.bL.t gS.b7.t
  refine b9 (fun e=>absurd e (by omega)) fun _=>?_
  refine b9 (fun e=>absurd e (by omega)) fun _=>?_
  rw [List.drop_of_length_le (by omega),List.drop_of_length_le (by omega)] at R
  have k:=l (by omega)
  refine b9 (fun e=>absurd e (by omega)) fun _=>?_
  unfold gS.a0.t
  refine rN g d.symm ?_ cM post
  rw [k] at R
  simpa [D.val] using R
 | succ S bU=>
  intro O b a6 bJ Z a4 d n l R g cM
  have s:=r.k3 O
  have u:=aH.k3 O
  have cW:∀ t dF,(aA.getD O 0+aU.getD O 0+b)=t+4294967296*dF→D.val (a6 ++ [t])+(D.val (aA.drop (O+1))+D.val (aU.drop (O+1))+dF)*2 ^ (32*(O+1))=T:=by
   intro t dF w
   have aZ:=D.lE aA O
   have x:=D.lE aU O
   rw [← R]
   exact D.Es (aH:=aA.getD O 0+aU.getD O 0) d (by omega) (by omega)
  have more:O < aA.length∨O < aU.length∨0 < b→gS.c8.t Y (gS.bL.t Y (S+1)) a aA.length c L aU.length aV bJ O m (b:Int) (O:Int) Z:=by
   intro _
   unfold gS.c8.t
   refine b9 (fun e=>?_) fun e=>?_
   ·refine iR (r.aR cM) (aC:=O) rfl rfl (by omega) ?_
    refine dB (aA.getD O 0) rfl (by omega) ?_
    refine dB (b+aA.getD O 0) (by omega) (by omega) ?_
    refine b9 (fun j=>?_) fun j=>?_
    ·refine iR (aH.aR cM) (aC:=O) rfl rfl (by omega) ?_
     refine dB (aU.getD O 0) rfl (by omega) ?_
     refine dB (b+aA.getD O 0+aU.getD O 0) (by omega) (by omega) ?_
     exact zX (T:=T) O a6 _ bJ Z _ rfl (by omega) (by omega) i g cM d fun f K h cS=>bU (O+1) _ _ f K (by omega) (by simp [d]) (by omega) (by omega) (cW _ _ (by omega)) h cS
    ·have o:aU.getD O 0=0:=by simp [List.getD,show aU.length≤O by omega]
     exact zX (T:=T) O a6 _ bJ Z _ rfl (by omega) (by omega) i g cM d fun f K h cS=>bU (O+1) _ _ f K (by omega) (by simp [d]) (by omega) (by omega) (cW _ _ (by omega)) h cS
   ·have y:aA.getD O 0=0:=by simp [List.getD,show aA.length≤O by omega]
    refine b9 (fun j=>?_) fun j=>?_
    ·refine iR (aH.aR cM) (aC:=O) rfl rfl (by omega) ?_
     refine dB (aU.getD O 0) rfl (by omega) ?_
     refine dB (b+aU.getD O 0) (by omega) (by omega) ?_
     exact zX (T:=T) O a6 _ bJ Z _ rfl (by omega) (by omega) i g cM d fun f K h cS=>bU (O+1) _ _ f K (by omega) (by simp [d]) (by omega) (by omega) (cW _ _ (by omega)) h cS
    ·have o:aU.getD O 0=0:=by simp [List.getD,show aU.length≤O by omega]
     exact zX (T:=T) O a6 _ bJ Z _ rfl (by omega) (by omega) i g cM d fun f K h cS=>bU (O+1) _ _ f K (by omega) (by simp [d]) (by omega) (by omega) (cW _ _ (by omega)) h cS
  unfold gS.bL.t gS.b7.t
  refine b9 (fun e=>more (by omega)) fun e=>?_
  refine b9 (fun e=>more (by omega)) fun j=>?_
  refine b9 (fun e=>more (by omega)) fun z=>?_
  have k:b=0:=by omega
  unfold gS.a0.t
  refine rN g d.symm ?_ cM post
  rw [List.drop_of_length_le (by omega),List.drop_of_length_le (by omega),k] at R
  simpa [D.val] using R
theorem BK{a L:M}{c aV l n a2 bK:Nat}{Z:U}(r:cH b6 Z a c (D.aK a2))(aH:cH b6 Z L aV (D.aK bK))(b:l=(D.aK a2).length)(d:n=(D.aK bK).length)(f:(D.aK a2).length≤1099511627776)(g:(D.aK bK).length≤1099511627776):
  aY gS.id #[.slice a l c,.slice L n aV] Z fun v K=>bA Z K∧gO Z K v (a2+bK):=by
 subst b;subst d
 refine gS.ok ?_
 unfold gS.t gS.aL.t
 have R:(if (((D.aK bK).length:Nat):Int) > (((D.aK a2).length:Nat):Int) then(((D.aK bK).length:Nat):Int) else(((D.aK a2).length:Nat):Int))=((max (D.aK a2).length (D.aK bK).length:Nat):Int):=by split <;> omega
 rw [R]
 refine cO ((max (D.aK a2).length (D.aK bK).length+1:Nat):Int) (by omega) (by omega) (by omega) ?_
 refine pP b6 0 0 (max (D.aK a2).length (D.aK bK).length+1) rfl pO 4 rfl (by decide) rfl rfl (by omega) (by omega) fun e aN S=>?_
 unfold gS.bF.t
 refine⟨max (D.aK a2).length (D.aK bK).length+2,?_⟩
 rw [Int.toNat_natCast]
 refine Ja (T:=a2+bK) r aH (by omega) (by omega) (by omega) (fun v K S aH=>⟨S,aH⟩) _ 0 0 [] _ e (by omega) rfl (by omega) (by omega) ?_ ?_ S
 ·simp [D.val,D.e1]
 ·exact dZ.kF (aA:=[]) (rest:=List.replicate (max (D.aK a2).length (D.aK bK).length+1) 0) (by simpa using aN) (Nat.le_refl _) (by simp) (by simp) (by simp)
theorem BL{aX Z:U}{L l:Nat}{a6:List Nat}(aN:dZ b6 Z L a6)(cM:bA aX Z)(a:aX.size≤L){O:Int}{aC:Nat}(a4:O=(aC:Int))(f:l=a6.length)(b:aC < a6.length){N:Int}{v:Nat}(c:N=(v:Int))(bW:v < 4294967296){aF:U→Prop}
  (g:∀ K,dZ b6 K L (a6.set aC v)→bA aX K→aF K):c7 (some ⟨L,0,none⟩) l O 1 fun aE=>cC Z aE (.int .u32 N) aF:=
 zN aN a4 (by omega) b (by rw [c];rfl) bW fun d e=>g _ d (e.aR cM a)
theorem Jb{aB:Nat}(Z:aB ≠ 0):eB aB=eB (aB / 2)+1:=by
 have aZ:=s7 aB 1
 have a:=qG Z
 rw [show aB / 2=aB / 2 ^ 1 by rfl];omega
theorem Jc{Y:aD}{Z:U}{T:Nat}(h:T < 4611686018427387904)(g:Y (.int .i64 (T:Int)) Z):∀ (S N aB:Nat),aB < 2 ^ S→N+eB aB=T→S≤32→kK.bL.t Y (S+1) (N:Int) (aB:Int) Z:=by
 intro S
 induction S with
 | zero=>
  intro N aB a R _
  have:aB=0:=by simpa using a
  subst this
  unfold kK.bL.t kK.b7.t
  refine b9 (fun b=>absurd b (by omega)) fun _=>?_
  unfold kK.a0.t
  rw [show N=T by simpa [EE] using R];exact g
 | succ S bU=>
  intro N aB a R c
  unfold kK.bL.t kK.b7.t
  refine b9 (fun b=>?_) fun b=>?_
  ·have d:aB ≠ 0:=by omega
   have i:=Jb d
   refine cO ((N+1:Nat):Int) (by omega) (by omega) (by omega) ?_
   refine⟨by decide,?_⟩
   have e:Int.tdiv (aB:Int) 2=((aB / 2:Nat):Int):=n0 aB 2
   rw [e]
   have f:2 ^ (S+1)≤2 ^ 32:=Nat.pow_le_pow_right (by decide) c
   refine kJ (aB / 2) rfl (by rw [show(2:Nat) ^ 32=4294967296 from rfl] at f;omega) ?_
   exact bU (N+1) (aB / 2) (by rw [Nat.pow_succ] at a;omega) (by omega) (by omega)
  ·have:aB=0:=by omega
   subst this
   unfold kK.a0.t
   rw [show N=T by simpa [EE] using R];exact g
theorem EF{a:M}{c l:Nat}{aA:List Nat}{Z:U}(r:cH b6 Z a c aA)(d:l=aA.length)(e:dS aA=aA):
  aY kK.id #[.slice a l c] Z fun v K=>K=Z∧v=.int .i64 ((eB (D.val aA):Nat):Int):=by
 subst d
 have aZ:=r.m8
 refine kK.ok ?_
 unfold kK.t kK.aL.t
 refine eY (fun aX=>?_) fun aX=>?_
 ·have R:aA=[]:=List.length_eq_zero_iff.mp (by omega)
  subst R;exact⟨rfl,rfl⟩
 ·have f:aA.getD (aA.length - 1) 0 ≠ 0:=by
   rcases vJ.mp e with R | R
   ·subst R;simp at aX
   ·exact R
  have g:=D.w6 r.ok (n:=aA.length - 1) (by omega) f
  have b:=r.k3 (aA.length - 1)
  have h:eB (aA.getD (aA.length - 1) 0)≤32:=h8.mpr b
  refine cO ((aA.length - 1:Nat):Int) (by omega) (by omega) (by omega) ?_
  refine cO ((32*(aA.length - 1):Nat):Int) (by omega) (by omega) (by omega) ?_
  unfold kK.bF.t
  refine cO ((aA.length - 1:Nat):Int) (by omega) (by omega) (by omega) ?_
  refine iR r (aC:=aA.length - 1) rfl rfl (by omega) ?_
  refine⟨33,?_⟩
  rw [g]
  exact Jc (by omega) ⟨rfl,rfl⟩ 32 _ _ b rfl (Nat.le_refl _)
theorem Jd{a:M}{c l a2:Nat}{Z:U}(r:cH b6 Z a c (D.aK a2))(b:l=(D.aK a2).length):
  aY kK.id #[.slice a l c] Z fun v K=>K=Z∧v=.int .i64 ((eB a2:Nat):Int):=by
 have:=EF r b (D.qF a2)
 rw [D.e1] at this;exact this
theorem EG{a6:List Nat}{O t v:Nat}(Z:O ≠ t):(a6.set O v).getD t 0=a6.getD t 0:=by
 simp [List.getD,Z]
theorem Je{Y:aD}{k:M→Nat→Nat→M→Nat→Nat→M→Nat→Nat→Int→U→Prop}{a L:M}{aG bG n O aE T N:Nat}{aA aU:List Nat}{aX:U}
  (aH:cH b6 aX L bG aU) (a4:O < aA.length) (o:N < 4294967296) (z:n=aA.length+aU.length) (l:aX.size≤aE) (q:n≤70368744177656)
  (g:∀ K a6,bA aX K→dZ b6 K aE a6→a6.length=n→(∀ t,O+1+aU.length≤t→a6.getD t 0=0)→D.val a6+D.val (aA.drop (O+1))*D.val aU*2 ^ (32*(O+1))=T→k a aA.length aG L aU.length bG (some ⟨aE,0,none⟩) n n ((O+1:Nat):Int) K) :
  ∀ (S aC b:Nat) (a6:List Nat) (Z:U),aC+S=aU.length→b < 4294967296→a6.length=n→dZ b6 Z aE a6→bA aX Z→(∀ t,O+aU.length≤t→a6.getD t 0=0)→
   D.val a6+(N*D.val (aU.drop aC)+b)*2 ^ (32*(O+aC))+D.val (aA.drop (O+1))*D.val aU*2 ^ (32*(O+1))=T→
   hG.lF.t Y k (S+1) a aA.length aG L aU.length bG (some ⟨aE,0,none⟩) n n (O:Int) (b:Int) (N:Int) (aC:Int) Z:=by
 intro S
 induction S with
 | zero=>
  intro aC b a6 Z s h d aN cM f R
  unfold hG.lF.t hG.rO.t
  refine b9 (fun e=>absurd e (by omega)) fun e=>?_
  have u:aC=aU.length:=by omega
  subst u
  unfold hG.eW.t
  refine cO ((O+aU.length:Nat):Int) (by omega) (by omega) (by omega) ?_
  refine kJ b rfl h ?_
  refine BL aN cM l (aC:=O+aU.length) rfl d.symm (by omega) rfl h fun w i j=>?_
  unfold hG.c8.t
  refine cO ((O+1:Nat):Int) (by omega) (by omega) (by omega) ?_
  refine g _ _ j i (by simp [d]) (fun t m=>?_) ?_
  ·rw [EG (by omega)];exact f t (by omega)
  ·have bM:=D.lQ (a6:=a6) (aC:=O+aU.length) (v:=b) (by omega)
   rw [f _ (Nat.le_refl _)] at bM
   rw [List.drop_length] at R
   simp only [D.val,Nat.zero_mul,Nat.mul_zero,Nat.zero_add,Nat.add_zero] at bM R
   omega
 | succ S bU=>
  intro aC b a6 Z s h d aN cM f R
  have x:=aH.k3 aC
  have A:a6.getD (O+aC) 0 < 4294967296:=m7 (by decide) aN.ok _
  have B:=tC o x
  unfold hG.lF.t hG.rO.t
  refine b9 (fun e=>?_) fun e=>absurd (by omega) e
  refine cO ((O+aC:Nat):Int) (by omega) (by omega) (by omega) ?_
  refine iR (aN.qH (c:=n) (by rw [d];exact q) (by omega)) (aC:=O+aC) rfl d.symm (by omega) ?_
  refine dB (a6.getD (O+aC) 0) rfl (by omega) ?_
  refine iR (aH.aR cM) (aC:=aC) rfl rfl (by omega) ?_
  refine dB (aU.getD aC 0) rfl (by omega) ?_
  have cW:N*D.val (aU.drop aC)=N*aU.getD aC 0+4294967296*(N*D.val (aU.drop (aC+1))):=by
   rw [D.lE,Nat.mul_add,Nat.mul_left_comm]
  rw [cW] at R
  have y:(N:Int)*((aU.getD aC 0:Nat):Int)=((N*aU.getD aC 0:Nat):Int):=(Int.natCast_mul _ _).symm
  rw [y]
  generalize N*aU.getD aC 0=p at *
  refine dB p rfl (by omega) ?_
  refine dB (a6.getD (O+aC) 0+p) (by omega) (by omega) ?_
  refine dB (p+b+a6.getD (O+aC) 0) (by omega) (by omega) ?_
  refine cO ((O+aC:Nat):Int) (by omega) (by omega) (by omega) ?_
  refine nC rfl (by omega) ?_
  refine kJ ((p+b+a6.getD (O+aC) 0) % 4294967296) rfl (by omega) ?_
  refine BL aN cM l (aC:=O+aC) rfl d.symm (by omega) rfl (by omega) fun w i j=>?_
  refine rL rfl ?_
  refine cO ((aC+1:Nat):Int) (by omega) (by omega) (by omega) ?_
  refine bU (aC+1) _ _ _ (by omega) (by omega) (by simp [d]) i j (fun t m=>?_) ?_
  ·rw [EG (by omega)];exact f t m
  ·have bM:=D.lQ (a6:=a6) (aC:=O+aC) (v:=(p+b+a6.getD (O+aC) 0) % 4294967296) (by omega)
   have:=zI (bC:=4294967296) (p:=p) (c:=b) (r:=N*D.val (aU.drop (aC+1))) (jI:=(p+b+a6.getD (O+aC) 0) % 4294967296) (dF:=(p+b+a6.getD (O+aC) 0) / 4294967296) (by omega) bM
   rw [show O+(aC+1)=O+aC+1 by omega,D.j2 (O+aC),this];exact R
theorem Jf{Y:aD}{a L:M}{aG bG n aE T:Nat}{aA aU:List Nat}{aX:U}
  (r:cH b6 aX a aG aA) (aH:cH b6 aX L bG aU) (g:n=aA.length+aU.length) (d:aX.size≤aE) (e:n≤70368744177656) (post:∀ v K,bA aX K→gO aX K v T→Y v K) :
  ∀ (S O:Nat) (a6:List Nat) (Z:U),O+S=aA.length→a6.length=n→dZ b6 Z aE a6→bA aX Z→(∀ t,O+aU.length≤t→a6.getD t 0=0)→D.val a6+D.val (aA.drop O)*D.val aU*2 ^ (32*O)=T→
   hG.bL.t Y (S+1) a aA.length aG L aU.length bG (some ⟨aE,0,none⟩) n n (O:Int) Z:=by
 intro S
 induction S with
 | zero=>
  intro O a6 Z a4 b aN cM f R
  unfold hG.bL.t hG.b7.t
  refine b9 (fun c=>absurd c (by omega)) fun c=>?_
  unfold hG.a0.t
  refine rN (aN.mE d (by rw [b];exact e) b.symm) b.symm ?_ cM post
  rw [List.drop_of_length_le (by omega)] at R
  simpa [D.val] using R
 | succ S bU=>
  intro O a6 Z a4 b aN cM f R
  have h:=r.k3 O
  unfold hG.bL.t hG.b7.t
  refine b9 (fun c=>?_) fun c=>absurd (by omega) c
  unfold hG.e0.t
  refine iR (r.aR cM) (aC:=O) rfl rfl (by omega) ?_
  refine dB (aA.getD O 0) rfl (by omega) ?_
  unfold hG.gK.t
  refine⟨aU.length+1,?_⟩
  refine Je (T:=T) (N:=aA.getD O 0) aH (by omega) h g d e (fun K i cS fO j k l=>?_) aU.length 0 0 a6 Z (by omega) (by omega) b aN cM f ?_
  ·exact bU (O+1) i K (by omega) j fO cS k l
  ·rw [D.lE] at R
   rw [← R,D.j2,List.drop_zero,Nat.add_zero,Nat.add_zero,Nat.add_mul,Nat.add_mul]
   have m:D.val (aA.drop (O+1))*D.val aU*(4294967296*2 ^ (32*O))=4294967296*D.val (aA.drop (O+1))*D.val aU*2 ^ (32*O):=by
    rw [Nat.mul_left_comm,Nat.mul_assoc 4294967296,Nat.mul_assoc 4294967296]
   rw [m];omega
theorem D.Jg(n t:Nat):(List.replicate n 0).getD t 0=0:=by
 simp only [List.getD,List.getElem?_replicate];split <;> rfl
theorem EH{a L:M}{c aV l n a2 bK:Nat}{Z:U}(r:cH b6 Z a c (D.aK a2))(aH:cH b6 Z L aV (D.aK bK))(b:l=(D.aK a2).length)(d:n=(D.aK bK).length)(f:(D.aK a2).length≤1099511627776)(g:(D.aK bK).length≤1099511627776):
  aY hG.id #[.slice a l c,.slice L n aV] Z fun v K=>bA Z K∧gO Z K v (a2*bK):=by
 subst b;subst d
 refine hG.ok ?_
 unfold hG.t hG.aL.t
 refine cO (((D.aK a2).length+(D.aK bK).length:Nat):Int) (by omega) (by omega) (by omega) ?_
 refine pP b6 0 ((D.aK a2).length+(D.aK bK).length) ((D.aK a2).length+(D.aK bK).length) rfl pO 4 rfl (by decide) rfl rfl (by omega) (by omega) fun e aN S=>?_
 unfold hG.bF.t
 refine⟨(D.aK a2).length+1,?_⟩
 rw [Int.toNat_natCast]
 refine Jf (T:=a2*bK) r aH rfl (Nat.le_refl _) (by omega) (fun v K S aH=>⟨S,aH⟩) _ 0 _ e (by omega) (by simp) aN S (fun t _=>D.Jg _ _) ?_
 rw [D.s5,List.drop_zero,D.e1,D.e1];simp
theorem Jh{Y:aD}{a:M}{c aB aE:Nat}{aA:List Nat}{aX:U}(r:cH b6 aX a c aA)(m:aX.size≤aE)(u:aB < 4294967296)(e:0 < aB)
  (post:∀ v K,bA aX K→(∃ h dF,v=.tuple #[.slice h (D.aK (D.val aA / aB)).length dF,.int .u32 ((D.val aA % aB:Nat):Int)]∧cV b6 aX K h dF (D.aK (D.val aA / aB)))→Y v K) :
  ∀ (n le:Nat) (a6:List Nat) (Z:U),n≤aA.length→a6.length=aA.length→le < aB→dZ b6 Z aE a6→bA aX Z→D.val (a6.drop n)*aB+le=D.val (aA.drop n)→
   jM.bL.t Y (n+1) a aA.length c (aB:Int) (some ⟨aE,0,none⟩) aA.length aA.length (le:Int) ((n:Int) - 1) Z:=by
 have aZ:=r.m8
 intro n
 induction n with
 | zero=>
  intro le a6 Z o b f aN cM R
  unfold jM.bL.t jM.b7.t
  refine b9 (fun d=>absurd d (by omega)) fun _=>?_
  unfold jM.a0.t
  rw [List.drop_zero,List.drop_zero] at R
  have i:D.val a6=D.val aA / aB∧le=D.val aA % aB:=by
   rw [← R,Nat.mul_comm,Nat.mul_add_div e,Nat.div_eq_of_lt f,Nat.mul_add_mod,Nat.mod_eq_of_lt f];simp
  refine cA (nD (aN.qH (c:=aA.length) (by rw [b];exact aZ) (by omega)) b.symm) fun v K ⟨g,aH⟩=>?_
  refine aH.elim fun bJ bG j=>?_
  refine kJ le rfl (by omega) ?_
  rw [i.1] at j ⊢
  rw [i.2]
  exact post _ _ (cM.trans g) ⟨_,_,rfl,j.from cM.le⟩
 | succ n bU=>
  intro le a6 Z o b f aN cM R
  have w:=r.k3 n
  unfold jM.bL.t jM.b7.t
  refine b9 (fun d=>?_) fun d=>absurd (by omega) d
  refine BI rfl (by omega) ?_
  refine iR (r.aR cM) (aC:=n) (by omega) rfl (by omega) ?_
  refine dB (aA.getD n 0) rfl (by omega) ?_
  refine dB (le*4294967296+aA.getD n 0) (by omega) (by omega) ?_
  refine dB aB rfl (by omega) ?_
  have k:(aB:Int) ≠ 0:=by omega
  refine⟨k,?_⟩
  have l:(le*4294967296+aA.getD n 0) / aB < 4294967296:=by
   rw [Nat.div_lt_iff_lt_mul e]
   have:le*4294967296+4294967296≤aB*4294967296:=by omega
   rw [Nat.mul_comm 4294967296];omega
  have x:=Nat.div_add_mod (le*4294967296+aA.getD n 0) aB
  have p:=Nat.mod_lt (le*4294967296+aA.getD n 0) e
  rw [n0]
  refine dB ((le*4294967296+aA.getD n 0) / aB) rfl (by omega) ?_
  refine kJ ((le*4294967296+aA.getD n 0) / aB) rfl l ?_
  refine BL aN cM m (aC:=n) (by omega) b.symm (by omega) rfl l fun y q g=>?_
  refine dB aB rfl (by omega) ?_
  refine⟨k,?_⟩
  rw [tB]
  refine j5 rfl ?_
  refine cO ((n:Int) - 1) (by omega) (by omega) (by omega) ?_
  refine bU _ _ _ (by omega) (by simp [b]) p q g ?_
  have s:(a6.set n ((le*4294967296+aA.getD n 0) / aB)).drop n=(le*4294967296+aA.getD n 0) / aB :: a6.drop (n+1):=by
   rw [iK (by simp;omega),List.drop_set_of_lt (by omega)]
   simp [List.getD,show n < a6.length by omega]
  rw [s,iK (aA:=aA) (by omega)]
  simp only [D.val]
  rw [Nat.add_mul,Nat.mul_assoc,Nat.mul_comm _ aB]
  generalize aB*((le*4294967296+aA.getD n 0) / aB)=z at *
  generalize (le*4294967296+aA.getD n 0) % aB=bC at *
  generalize D.val (a6.drop (n+1))*aB=aO at *
  omega
theorem BM{a:M}{c l aB:Nat}{aA:List Nat}{Z:U}(r:cH b6 Z a c aA)(e:l=aA.length){N:Int}(f:N=(aB:Int))(g:aB < 4294967296)(b:0 < aB):
  aY jM.id #[.slice a l c,.int .u32 N] Z fun v K=>bA Z K∧∃ d dF,v=.tuple #[.slice d (D.aK (D.val aA / aB)).length dF,.int .u32 ((D.val aA % aB:Nat):Int)]∧cV b6 Z K d dF (D.aK (D.val aA / aB)):=by
 subst e;subst f
 have aZ:=r.m8
 refine jM.ok ?_
 unfold jM.t jM.aL.t
 refine eY (fun aX=>absurd aX (by omega)) fun _=>?_
 refine pP b6 0 aA.length aA.length rfl pO 4 rfl (by decide) rfl rfl (by omega) (by omega) fun h aN S=>?_
 unfold jM.bF.t
 refine cO ((aA.length:Int) - 1) rfl (by omega) (by omega) ?_
 refine⟨aA.length+1,?_⟩
 rw [Int.toNat_natCast]
 refine Jh r (Nat.le_refl _) g b (fun v K S aH=>⟨S,aH⟩) aA.length 0 _ h (Nat.le_refl _) (by simp) b aN S ?_
 rw [List.drop_length,List.drop_of_length_le (by simp)];simp [D.val]
theorem BN{S:Nat}(b:S < 32):2 ^ S < 4294967296:=Nat.pow_lt_pow_right (a:=2) (by decide) b
theorem BO{S:Nat}(b:S < 32){N:Int}(c:N=(S:Int)){aF:Int→Prop}(g:aF ((2 ^ S:Nat):Int)):0≤N∧a5 (h4 .u32 1 N) aF:=by
 subst c
 refine⟨by omega,⟨?_⟩⟩
 show aF (IntKind.u32.wrap (1*2 ^ (min (S:Int).toNat 32)))
 have R:min (S:Int).toNat 32=S:=by omega
 have e:2 ^ S < 4294967296:=Nat.pow_lt_pow_right (a:=2) (by decide) b
 have d:(1:Int)*2 ^ S=((2 ^ S:Nat):Int):=by rw [Int.natCast_pow,Int.one_mul];rfl
 rw [R,d]
 have:IntKind.u32.wrap ((2 ^ S:Nat):Int)=((2 ^ S:Nat):Int):=by
  simp only [IntKind.wrap,IntKind.bits,IntKind.signed,Bool.false_and,Bool.false_eq_true,if_false]
  generalize 2 ^ S=p at *
  omega
 rw [this];exact g
theorem oO{n:Nat}(b:n < 9223372036854775808){N:Int}(a:N=(n:Int)){aF:Int→Prop}(g:aF ((n / 32:Nat):Int)):(32:Int) ≠ 0∧a5 (IntKind.i64.wrap (Int.tdiv N 32)) aF:=by
 subst a
 refine⟨by decide,?_⟩
 have R:Int.tdiv (n:Int) 32=((n / 32:Nat):Int):=n0 n 32
 rw [R];exact cO _ rfl (by omega) (by omega) g
theorem zY{n:Nat}{N:Int}(a:N=(n:Int)){aF:Int→Prop}(g:aF ((n % 32:Nat):Int)):(32:Int) ≠ 0∧a5 (Int.tmod N 32) aF:=by
 subst a
 refine⟨by decide,?_⟩
 have R:Int.tmod (n:Int) 32=((n % 32:Nat):Int):=tB n 32
 rw [R];exact⟨g⟩
theorem EI(n:Nat):2 ^ n=2 ^ (32*(n / 32))*2 ^ (n % 32):=by rw [← Nat.pow_add,Nat.div_add_mod]
theorem BP{a:M}{c l a2:Nat}{Z:U}(r:cH b6 Z a c (D.aK a2))(g:l=(D.aK a2).length){N:Int}{n:Nat}(h:N=(n:Int))(f:n < 9223372036854775808):
  aY kT.id #[.slice a l c,.int .i64 N] Z fun v K=>bA Z K∧gO Z K v (a2 / 2 ^ n):=by
 subst g;subst h
 have e:D.val (D.aK a2)=a2:=D.e1 a2
 have aZ:=r.m8
 refine kT.ok ?_
 unfold kT.t kT.aL.t
 refine b9 (fun aX=>?_) fun aX=>?_
 ·have:n=0:=by omega
  subst this
  refine cA (nD r rfl) fun v K ⟨d,aH⟩=>?_
  refine aH.elim fun bJ bG b=>⟨d,bJ,bG,?_,?_⟩
  ·rw [e];simp
  ·rw [e] at b;simpa using b
 ·refine oO f rfl ?_
  refine b9 (fun i=>?_) fun i=>?_
  ·refine cA (n1 (aB:=0) rfl (by decide) Z) fun v K ⟨d,aH⟩=>?_
   refine aH.elim fun bJ bG b=>⟨d,bJ,bG,?_,?_⟩
   all_goals
    have q:=D.gR.mp (Nat.le_of_eq (rfl:(D.aK a2).length=_))
    have s:2 ^ (32*(D.aK a2).length)≤2 ^ n:=Nat.pow_le_pow_right (by decide) (by omega)
    have j:a2 / 2 ^ n=0:=Nat.div_eq_of_lt (by omega)
    rw [j]
   exact b
  ·refine oO f rfl ?_
   refine EJ rfl (by omega) ?_
   have k:=r.drop (m:=c) (n / 32) (by omega) r.cap
   refine zY rfl ?_
   refine BO (S:=n % 32) (by omega) rfl ?_
   have o:2 ^ (n % 32) < 4294967296:=BN (show n % 32 < 32 by omega)
   refine cA (BM k (by simp) rfl o (Nat.pow_pos (by decide))) fun v K ⟨d,bJ,bG,p,b⟩=>?_
   subst p
   have cW:D.val ((D.aK a2).drop (n / 32)) / 2 ^ (n % 32)=a2 / 2 ^ n:=by
    rw [D.k2 (D.pM a2),e,Nat.div_div_eq_div_mul,← EI]
   rw [cW] at b ⊢
   refine gE rfl (cF (bE rfl (cF (bQ rfl (dR ?_)))))
   exact⟨d,_,_,rfl,b⟩
theorem EK{a:M}{c l a2:Nat}{Z:U}(r:cH b6 Z a c (D.aK a2))(w:l=(D.aK a2).length){N:Int}{n:Nat}(x:N=(n:Int))(d:n < 9223372036854775808)(C:(D.aK a2).length≤1099511627776):
  aY jR.id #[.slice a l c,.int .i64 N] Z fun v K=>bA Z K∧gO Z K v (a2 % 2 ^ n):=by
 subst w;subst x
 have i:D.val (D.aK a2)=a2:=D.e1 a2
 have aZ:=r.m8
 refine jR.ok ?_
 unfold jR.t jR.aL.t
 refine b9 (fun aX=>?_) fun aX=>?_
 ·have:n=0:=by omega
  subst this
  refine cA (n1 (aB:=0) rfl (by decide) Z) fun v K ⟨e,aH⟩=>?_
  refine aH.elim fun bJ bG b=>⟨e,bJ,bG,?_,?_⟩
  ·simp [Nat.mod_one]
  ·simpa [Nat.mod_one] using b
 ·refine oO d rfl ?_
  refine b9 (fun f=>?_) fun f=>?_
  ·refine cA (nD r rfl) fun v K ⟨e,aH⟩=>?_
   have E:=D.gR.mp (Nat.le_of_eq (rfl:(D.aK a2).length=_))
   have y:2 ^ (32*(D.aK a2).length)≤2 ^ n:=Nat.pow_le_pow_right (by decide) (by omega)
   have o:a2 % 2 ^ n=a2:=Nat.mod_eq_of_lt (by omega)
   refine aH.elim fun bJ bG b=>⟨e,bJ,bG,?_,?_⟩
   ·rw [i,o]
   ·rw [i] at b;rw [o];exact b
  ·have p:n / 32 < (D.aK a2).length:=by omega
   refine oO d rfl ?_
   refine vH rfl (by have:=r.cap;omega) ?_
   have q:=r.take (n / 32)
   have s:((D.aK a2).take (n / 32)).length=n / 32:=by rw [List.length_take];omega
   refine cA (nD q s.symm) fun v z ⟨e,aH⟩=>?_
   refine aH.elim fun bJ bG b=>?_
   have F:(D.aK (D.val ((D.aK a2).take (n / 32)))).length≤n / 32:=by
    rw [D.lR q.ok]
    have:=vK ((D.aK a2).take (n / 32));omega
   have G:=r.k3 (n / 32)
   have key:∀ (S:Nat) (a6:List Nat) (c3:M) (cR:Nat) (g:U),a6.length+S=n / 32→D.val a6=D.val ((D.aK a2).take (n / 32))→cV b6 Z g c3 cR a6→bA Z g→
     jR.cK.t (fun v K=>bA Z K∧gO Z K v (a2 % 2 ^ n)) (S+1) a (D.aK a2).length c (n:Int) c3 a6.length cR g:=by
    intro S
    induction S with
    | zero=>
     intro a6 c3 cR g A cW j h
     unfold jR.cK.t jR.cE.t
     refine oO d rfl ?_
     refine b9 (fun f=>absurd f (by omega)) fun _=>?_
     unfold jR.a0.t
     refine oO d rfl ?_
     refine iR (r.aR h) (aC:=n / 32) rfl rfl p ?_
     refine zY rfl ?_
     refine BO (S:=n % 32) (by omega) rfl ?_
     have H:0 < 2 ^ (n % 32):=Nat.pow_pos (by decide)
     refine⟨by omega,?_⟩
     rw [tB]
     refine j5 rfl ?_
     have y:(D.aK a2).getD (n / 32) 0 % 2 ^ (n % 32)≤(D.aK a2).getD (n / 32) 0:=Nat.mod_le _ _
     refine rM j h rfl rfl (by omega) (by omega) (by omega) fun u dF K k cS _=>?_
     refine rN (Y:=fun v K=>bA Z K∧gO Z K v (a2 % 2 ^ n)) k (by simp) ?_ cS fun v K S aH=>⟨S,aH⟩
     have B:a6.length=n / 32:=by omega
     rw [D.hX,B,cW]
     have bW:=D.Br (D.pM a2) (m:=n / 32) (S:=n % 32) p (by omega)
     rw [i,Nat.div_add_mod,D.hX,s] at bW
     exact bW
    | succ S bU=>
     intro a6 c3 cR g A cW j h
     unfold jR.cK.t jR.cE.t
     refine oO d rfl ?_
     refine b9 (fun _=>?_) fun f=>absurd (by omega) f
     refine rM (n:=0) j h rfl rfl (by decide) (by omega) (by omega) fun u dF K k cS _=>?_
     have:=bU (a6 ++ [0]) u dF K (by simp;omega) (by rw [D.hX,cW];simp [D.val]) k cS
     simpa using this
   refine⟨n / 32 - (D.aK (D.val ((D.aK a2).take (n / 32)))).length+1,?_⟩
   exact key _ _ bJ bG z (by omega) (by rw [D.e1]) b e
theorem EL{a6 aA aU:List Nat}{O N aP t aN fO:Nat}(a:a6.length=O)(Z:N+4294967296*fO=t+aP+aN)(a4:D.val a6+D.val (aU.take O)=D.val (aA.take O)+aN*2 ^ (32*O))(b:D.val (aA.take (O+1))=D.val (aA.take O)+2 ^ (32*O)*N)(c:D.val (aU.take (O+1))=D.val (aU.take O)+2 ^ (32*O)*aP):
  D.val (a6 ++ [t])+D.val (aU.take (O+1))=D.val (aA.take (O+1))+fO*2 ^ (32*(O+1)):=by
 rw [D.hX,a,b,c,D.j2]
 simp only [D.val,Nat.mul_zero,Nat.add_zero]
 generalize 2 ^ (32*O)=P at *
 have R:P*(N+4294967296*fO)=P*(t+aP+aN):=by rw [Z]
 have d:P*(N+4294967296*fO)=P*N+fO*(4294967296*P):=by rw [Nat.mul_add,Nat.mul_left_comm,Nat.mul_comm P fO,Nat.mul_left_comm]
 have e:P*(t+aP+aN)=P*t+P*aP+aN*P:=by rw [Nat.mul_add,Nat.mul_add,Nat.mul_comm P aN]
 omega
theorem vL{aA:List Nat}{O:Nat}:D.val (aA.take (O+1))=D.val (aA.take O)+2 ^ (32*O)*aA.getD O 0:=by
 by_cases Z:O < aA.length
 ·rw [lS Z,D.hX,List.length_take,Nat.min_eq_left (by omega)];simp [D.val]
 ·rw [List.take_of_length_le (by omega),List.take_of_length_le (by omega)]
  simp [List.getD,show aA.length≤O by omega]
theorem EM{Y:aD}{a L:M}{c aV S m:Nat}{aA aU:List Nat}{aX:U}(i:m=aA.length)(O N take:Nat)(a6:List Nat)(bJ:M)(Z:U)(aP:Int)(j:aP=(take:Int))(k:N=aA.getD O 0)(Q:N < 4294967296)(T:take≤4294967296)(a4:O < m)(V:m≤70368744177656)(r:cH b6 Z a c aA)(g:cV b6 aX Z bJ m a6)(cM:bA aX Z)(b:a6.length=O)
  (bU:∀ (t aN:Nat) bJ Z,N+4294967296*aN=t+take→aN≤1→t < 4294967296→cV b6 aX Z bJ m (a6 ++ [t])→bA aX Z→g1.bL.t Y S a aA.length c L aU.length aV bJ (O+1) m (aN:Int) ((O+1:Nat):Int) Z) :
  c7 a aA.length (O:Int) 1 fun l=>fG Z l fun n=>aW .u32 n fun o=>a5 (IntKind.u64.wrap o) fun d=>
   cond (decide (d < aP)) (a5 (IntKind.u64.wrap (d+4294967296)) fun p=>a5 (IntKind.u64.wrap (p - aP)) fun q=>a5 (IntKind.u32.wrap q) fun s=>dN Z 89 [.int .u32 s] fun u v=>hF v 89 iG bJ O m (.slice (some u) 1 1) fun w x y z=>a5 (IntKind.i64.wrap ((O:Int)+1)) fun A=>g1.bL.t Y S a aA.length c L aU.length aV w x y 1 A z)
    (a5 (IntKind.u64.wrap (d - aP)) fun B=>a5 (IntKind.u32.wrap B) fun C=>dN Z 89 [.int .u32 C] fun D E=>hF E 89 iG bJ O m (.slice (some D) 1 1) fun F G H I=>a5 (IntKind.i64.wrap ((O:Int)+1)) fun J=>g1.bL.t Y S a aA.length c L aU.length aV F G H 0 J I):=by
 subst j;subst i
 refine iR r (aC:=O) rfl rfl a4 ?_
 rw [← k]
 refine dB N rfl (by omega) ?_
 refine b9 (fun P=>?_) fun P=>?_
 ·refine dB (N+4294967296) (by omega) (by omega) ?_
  refine dB (N+4294967296 - take) (by omega) (by omega) ?_
  refine kJ (N+4294967296 - take) rfl (by omega) ?_
  refine rM g cM b.symm rfl (by omega) (by omega) (by omega) fun e dF K f cS h=>?_
  obtain rfl:=h (by omega)
  refine cO ((O+1:Nat):Int) (by omega) (by omega) (by omega) ?_
  rw [b]
  exact bU _ 1 e K (by omega) (by omega) (by omega) f cS
 ·refine dB (N - take) (by omega) (by omega) ?_
  refine kJ (N - take) rfl (by omega) ?_
  refine rM g cM b.symm rfl (by omega) (by omega) (by omega) fun e dF K f cS h=>?_
  obtain rfl:=h (by omega)
  refine cO ((O+1:Nat):Int) (by omega) (by omega) (by omega) ?_
  rw [b]
  exact bU _ 0 e K (by omega) (by omega) (by omega) f cS
theorem Ji{Y:aD}{a L:M}{c aV:Nat}{aA aU:List Nat}{aX:U}(r:cH b6 aX a c aA)(aH:cH b6 aX L aV aU)(q:D.val aU≤D.val aA)(s:aU.length≤aA.length)(post:∀ v K,bA aX K→gO aX K v (D.val aA - D.val aU)→Y v K):
  ∀ (S O b:Nat) (a6:List Nat) (bJ:M) (Z:U),O+S=aA.length→a6.length=O→b≤1→D.val a6+D.val (aU.take O)=D.val (aA.take O)+b*2 ^ (32*O)→cV b6 aX Z bJ aA.length a6→bA aX Z→
   g1.bL.t Y (S+1) a aA.length c L aU.length aV bJ O aA.length (b:Int) (O:Int) Z:=by
 have aZ:=r.m8
 intro S
 induction S with
 | zero=>
  intro O b a6 bJ Z a4 d k R g cM
  unfold g1.bL.t g1.b7.t
  refine b9 (fun e=>absurd e (by omega)) fun _=>?_
  unfold g1.a0.t
  refine rN g d.symm ?_ cM post
  rw [List.take_of_length_le (by omega),List.take_of_length_le (by omega)] at R
  have l:=D.h7 (aA:=a6) g.rd.ok
  rw [d] at l
  have:b=0:=by
   rcases Nat.lt_or_ge b 1 with m | m
   ·omega
   ·have:b=1:=by omega
    subst this;omega
  subst this
  omega
 | succ S bU=>
  intro O b a6 bJ Z a4 d k R g cM
  have j:=r.k3 O
  have u:=aH.k3 O
  unfold g1.bL.t g1.b7.t
  refine b9 (fun _=>?_) fun e=>absurd (by omega) e
  refine b9 (fun e=>?_) fun e=>?_
  ·refine iR (aH.aR cM) (aC:=O) rfl rfl (by omega) ?_
   refine dB (aU.getD O 0) rfl (by omega) ?_
   refine dB (aU.getD O 0+b) (by omega) (by omega) ?_
   exact EM rfl O (aA.getD O 0) (aU.getD O 0+b) a6 bJ Z _ rfl rfl j (by omega) (by omega) aZ (r.aR cM) g cM d fun t aN f K n h o i cS=>bU (O+1) aN _ f K (by omega) (by simp [d]) h (EL d (by omega) R vL vL) i cS
  ·have p:aU.getD O 0=0:=by simp [List.getD,show aU.length≤O by omega]
   exact EM rfl O (aA.getD O 0) b a6 bJ Z _ rfl rfl j (by omega) (by omega) aZ (r.aR cM) g cM d fun t aN f K n h o i cS=>bU (O+1) aN _ f K (by omega) (by simp [d]) h (EL d (by omega) R vL (aP:=0) (by rw [vL,p])) i cS
theorem EN{a L:M}{c aV l n a2 bK:Nat}{Z:U}(r:cH b6 Z a c (D.aK a2))(aH:cH b6 Z L aV (D.aK bK))(e:l=(D.aK a2).length)(f:n=(D.aK bK).length):
  aY g1.id #[.slice a l c,.slice L n aV] Z fun v K=>bA Z K∧gO Z K v (a2 - bK):=by
 subst e;subst f
 have aZ:=r.m8
 refine g1.ok ?_
 unfold g1.t g1.aL.t
 refine cA (zW r aH rfl rfl) fun v K ⟨g,h⟩=>?_
 subst g;subst h
 refine bQ rfl ?_
 refine b9 (fun b=>?_) fun b=>?_
 ·refine cA (n1 (aB:=0) rfl (by decide) K) fun v d ⟨i,s2⟩=>?_
  have j:a2 - bK=0:=by unfold fA at b;split at b <;> (try split at b) <;> omega
  rw [j]
  refine s2.elim fun bJ bG k=>⟨i,bJ,bG,rfl,k⟩
 ·have m:bK < a2:=by unfold fA at b;split at b <;> (try split at b) <;> omega
  have o:(D.aK bK).length≤(D.aK a2).length:=D.nV (Nat.le_of_lt m)
  refine pP b6 0 0 (D.aK a2).length rfl pO 4 rfl (by decide) rfl rfl (by omega) (by omega) fun d aN S=>?_
  unfold g1.bF.t
  refine⟨(D.aK a2).length+1,?_⟩
  rw [Int.toNat_natCast]
  refine Ji r aH (by rw [D.e1,D.e1];omega) o (fun v q p hN=>⟨p,by rw [D.e1,D.e1] at hN;exact hN⟩) _ 0 0 [] _ d (by omega) rfl (by omega) (by simp [D.val]) ?_ S
  ·exact dZ.kF (aA:=[]) (rest:=List.replicate (D.aK a2).length 0) (by simpa using aN) (Nat.le_refl _) (by simp) (by simp) (by simp)
theorem Jj{Y:aD}{a:M}{c aB T m:Nat}{aA:List Nat}{aX:U}(r:cH b6 aX a c aA)(j:aB < 4294967296)(n:m=aA.length+1)(o:m≤70368744177656)(post:∀ v K,bA aX K→gO aX K v T→Y v K):
  ∀ (S O b:Nat) (a6:List Nat) (bJ:M) (Z:U),O+S=aA.length→a6.length=O→b < 4294967296→D.val a6+(D.val (aA.drop O)*aB+b)*2 ^ (32*O)=T→cV b6 aX Z bJ m a6→bA aX Z→
   kL.bL.t Y (S+1) a aA.length c (aB:Int) bJ O m (b:Int) (O:Int) Z:=by
 intro S
 induction S with
 | zero=>
  intro O b a6 bJ Z a4 d e R g cM
  unfold kL.bL.t kL.b7.t
  refine b9 (fun f=>absurd f (by omega)) fun _=>?_
  unfold kL.a0.t
  refine kJ b rfl e ?_
  refine rM g cM d.symm rfl e (by omega) (by omega) fun i dF K h cS e=>?_
  refine rN h (by simp) ?_ cS post
  rw [List.drop_of_length_le (by omega)] at R
  rw [D.hX,d,← R]
  simp [D.val,Nat.mul_comm]
 | succ S bU=>
  intro O b a6 bJ Z a4 d e R g cM
  have k:=r.k3 O
  have q:=tC k j
  unfold kL.bL.t kL.b7.t
  refine b9 (fun _=>?_) fun f=>absurd (by omega) f
  refine iR (r.aR cM) (aC:=O) rfl rfl (by omega) ?_
  refine dB (aA.getD O 0) rfl (by omega) ?_
  refine dB aB rfl (by omega) ?_
  have l:((aA.getD O 0:Nat):Int)*(aB:Int)=((aA.getD O 0*aB:Nat):Int):=(Int.natCast_mul _ _).symm
  rw [l]
  have cW:D.val (aA.drop O)*aB=aA.getD O 0*aB+4294967296*(D.val (aA.drop (O+1))*aB):=by
   rw [D.lE,Nat.add_mul,Nat.mul_assoc]
  rw [cW] at R
  generalize aA.getD O 0*aB=p at *
  refine dB p rfl (by omega) ?_
  refine dB (b+p) (by omega) (by omega) ?_
  refine nC rfl (by omega) ?_
  refine kJ ((b+p) % 4294967296) rfl (by omega) ?_
  refine rM g cM d.symm rfl (by omega) (by omega) (by omega) fun i dF K h cS e=>?_
  obtain rfl:=e (by omega)
  refine rL rfl ?_
  refine cO ((O+1:Nat):Int) (by omega) (by omega) (by omega) ?_
  rw [d]
  refine bU (O+1) _ _ i K (by omega) (by simp [d]) (by omega) ?_ h cS
  rw [← R]
  exact D.Es (aH:=p) (t:=(b+p) % 4294967296) (dF:=(b+p) / 4294967296) d rfl (by omega)
theorem EO{a:M}{c l aB bI:Nat}{aA:List Nat}{Z:U}(r:cH b6 Z a c aA)(b:l=aA.length){N aP:Int}(d:N=(aB:Int))(e:aP=(bI:Int))(f:aB < 4294967296)(g:bI < 4294967296)(i:aA.length≤1099511627777):
  aY kL.id #[.slice a l c,.int .u32 N,.int .u32 aP] Z fun v K=>bA Z K∧gO Z K v (D.val aA*aB+bI):=by
 subst b;subst d;subst e
 refine kL.ok ?_
 unfold kL.t kL.aL.t
 refine cO ((aA.length+1:Nat):Int) (by omega) (by omega) (by omega) ?_
 refine pP b6 0 0 (aA.length+1) rfl pO 4 rfl (by decide) rfl rfl (by omega) (by omega) fun h aN S=>?_
 refine dB bI rfl (by omega) ?_
 unfold kL.bF.t
 refine⟨aA.length+1,?_⟩
 rw [Int.toNat_natCast]
 refine Jj (T:=D.val aA*aB+bI) r f rfl (by omega) (fun v K S aH=>⟨S,aH⟩) _ 0 bI [] _ h (by omega) rfl g ?_ ?_ S
 ·simp [D.val]
 ·exact dZ.kF (aA:=[]) (rest:=List.replicate (aA.length+1) 0) (by simpa using aN) (Nat.le_refl _) (by simp) (by simp) (by simp)
theorem EP{a2 aB S:Nat}(a:(D.aK a2).length≤S)(b:aB < 4294967296):(D.aK (a2*aB)).length≤S+1:=by
 rw [D.gR] at a ⊢
 rw [D.j2]
 rcases Nat.eq_zero_or_pos aB with Z | Z
 ·subst Z;simp [Nat.pow_pos]
 ·calc a2*aB < 2 ^ (32*S)*aB:=Nat.mul_lt_mul_of_pos_right a Z
   _≤2 ^ (32*S)*4294967296:=Nat.mul_le_mul_left _ (Nat.le_of_lt b)
   _=4294967296*2 ^ (32*S):=Nat.mul_comm _ _
theorem zZ{a:M}{c l a2:Nat}{Z:U}(r:cH b6 Z a c (D.aK a2))(h:l=(D.aK a2).length){N:Int}{n:Nat}(i:N=(n:Int))(u:n≤35184372088832)(w:(D.aK a2).length≤1099511627776):
  aY kM.id #[.slice a l c,.int .i64 N] Z fun v K=>bA Z K∧gO Z K v (a2*2 ^ n):=by
 subst h;subst i
 have d:D.val (D.aK a2)=a2:=D.e1 a2
 refine kM.ok ?_
 unfold kM.t kM.aL.t
 have same:∀ bK,a2=bK→aY gV.id #[.slice a (D.aK a2).length c] Z fun v K=>aQ v fun a l c=>(fun v K=>bA Z K∧gO Z K v bK) (.slice a l c) K:=by
  intro bK R
  refine cA (nD r rfl) fun v K ⟨j,aH⟩=>?_
  rw [d,R] at aH
  refine aH.elim fun bJ bG e=>⟨j,bJ,bG,rfl,e⟩
 refine b9 (fun aX=>?_) fun aX=>?_
 ·have:n=0:=by omega
  subst this;exact same _ (by simp)
 ·refine eY (fun aZ=>?_) fun aZ=>?_
  ·refine same _ ?_
   have R:D.aK a2=[]:=List.length_eq_zero_iff.mp (by omega)
   have:a2=0:=by rw [← d,R];rfl
   subst this;simp
  ·unfold kM.a0.t
   refine oO (by omega) rfl ?_
   refine oO (by omega) rfl ?_
   refine cO ((n / 32+(D.aK a2).length:Nat):Int) (by omega) (by omega) (by omega) ?_
   refine cO ((n / 32+(D.aK a2).length+1:Nat):Int) (by omega) (by omega) (by omega) ?_
   refine pP b6 0 (n / 32) (n / 32+(D.aK a2).length+1) rfl pO 4 rfl (by decide) rfl rfl (by omega) (by omega) fun k aN S=>?_
   refine zY rfl ?_
   refine BO (S:=n % 32) (by omega) rfl ?_
   have f:2 ^ (n % 32) < 4294967296:=BN (show n % 32 < 32 by omega)
   refine cA (EO (bI:=0) (r.aR S) rfl rfl rfl f (by decide) (by omega)) fun v x ⟨b,aH⟩=>?_
   rw [d,Nat.add_zero] at aH
   refine aH.elim fun bJ bG e=>?_
   have y:=EP (Nat.le_refl (D.aK a2).length) f
   have g:cV b6 Z k (some ⟨Z.size,0,none⟩) (n / 32+(D.aK a2).length+1) (List.replicate (n / 32) 0):=by
    refine dZ.kF (rest:=List.replicate ((D.aK a2).length+1) 0) ?_ (Nat.le_refl _) ?_ (by simp;omega) (by simp;omega)
    ·rw [List.replicate_append_replicate,show n / 32+((D.aK a2).length+1)=n / 32+(D.aK a2).length+1 by omega];exact aN
    ·simp;show n / 32≤70368744177656;omega
   rw [Int.toNat_natCast,Int.toNat_natCast]
   refine Ej (g.aR b) (Nat.le_trans S.le b.le) e.rd (by simp) rfl rfl 0 rfl pO 4 rfl (by decide) ?_ ?_ fun eA eF m o p _=>?_
   ·simp only [List.length_replicate];show n / 32+_≤70368744177656;omega
   ·intro q;simp only [List.length_replicate] at q;omega
   ·have s:bA Z m:=p.aR (S.trans b) (g.aR b).zO
    refine rN (Y:=fun v K=>bA Z K∧gO Z K v (a2*2 ^ n)) o (by simp) ?_ s fun v K S aH=>⟨S,aH⟩
    rw [D.hX,D.s5,D.e1,List.length_replicate,EI n,Nat.zero_add,Nat.mul_left_comm]
theorem Jk{a2 S m:Nat}(a:S < 32):a2 / 2 ^ (32*m+S) % 2=(a2 / 2 ^ (32*m) % 4294967296) / 2 ^ S % 2:=by
 rw [Nat.pow_add,← Nat.div_div_eq_div_mul]
 generalize a2 / 2 ^ (32*m)=bK
 have R:(4294967296:Nat)=2 ^ S*(2*2 ^ (31 - S)):=by
  rw [← Nat.pow_succ',← Nat.pow_add,show S+(31 - S+1)=32 by omega]
 rw [R,Nat.mod_mul,Nat.add_comm,Nat.mul_add_div (Nat.pow_pos (by decide)),Nat.div_eq_of_lt (Nat.mod_lt _ (Nat.pow_pos (by decide))),Nat.add_zero,Nat.mod_mul_right_mod]
theorem D.Jl{aA:List Nat}(a:D.Words aA)(m:Nat):aA.getD m 0=D.val aA / 2 ^ (32*m) % 4294967296:=by
 rw [← D.k2 a,D.lE,Nat.add_mul_mod_self_left]
 exact(Nat.mod_eq_of_lt (m7 (by decide) a m)).symm
theorem Jm{N aP:Int}{n S:Nat}(a:N=(n:Int))(b:aP=(S:Int))(d:S < 32){aF:Int→Prop}(g:aF ((n / 2 ^ S:Nat):Int)):0≤aP∧a5 (g6 .u32 N aP) aF:=by
 subst a;subst b
 refine⟨by omega,⟨?_⟩⟩
 show aF (Int.fdiv (n:Int) (2 ^ (min (S:Int).toNat 32)))
 have R:min (S:Int).toNat 32=S:=by omega
 rw [R]
 have c:Int.fdiv (n:Int) (2 ^ S)=((n / 2 ^ S:Nat):Int):=by
  rw [Int.fdiv_eq_ediv_of_nonneg _ (Int.le_of_lt (Int.pow_pos (by decide)))]
  norm_cast
 rw [c];exact g
theorem Jn{N:Int}{n:Nat}(a:N=(n:Int))(d:n < 4294967296){aF:Int→Prop}(g:aF ((n % 2:Nat):Int)):a5 (jE .u32 N 1) aF:=by
 subst a
 refine⟨?_⟩
 show aF (IntKind.u32.wrap (BitVec.ofInt 32 (n:Int) &&& BitVec.ofInt 32 1).toNat)
 have R:(BitVec.ofInt 32 (n:Int) &&& BitVec.ofInt 32 1).toNat=n % 2:=by
  have b:BitVec.ofInt 32 (1:Int)=BitVec.ofNat 32 1:=rfl
  rw [BitVec.ofInt_natCast,b,BitVec.toNat_and,BitVec.toNat_ofNat,BitVec.toNat_ofNat,Nat.mod_eq_of_lt (by omega)]
  exact Nat.and_two_pow_sub_one_eq_mod n 1
 have e:n % 2 < 2:=Nat.mod_lt _ (by decide)
 have c:IntKind.u32.wrap ((n % 2:Nat):Int)=((n % 2:Nat):Int):=by
  simp only [IntKind.wrap,IntKind.bits,IntKind.signed,Bool.false_and,Bool.false_eq_true,if_false];omega
 rw [R,c];exact g
def tD(a2:Nat)(O:Int):Int:=if O < 0 then 0 else((a2 / 2 ^ O.toNat % 2:Nat):Int)
theorem Jo{a:M}{c l a2:Nat}{Z:U}(r:cH b6 Z a c (D.aK a2))(b:l=(D.aK a2).length){N:Int}(d:In .i64 N):
  aY oP.id #[.slice a l c,.int .i64 N] Z fun v K=>K=Z∧v=.int .i64 (tD a2 N):=by
 subst b
 rw [qI] at d
 refine oP.ok ?_
 unfold oP.t oP.aL.t
 refine b9 (fun aX=>⟨rfl,by unfold tD;rw [if_pos aX]⟩) fun aX=>?_
 obtain⟨n,rfl⟩:∃ n:Nat,N=(n:Int):=⟨N.toNat,by omega⟩
 unfold tD
 rw [if_neg aX,Int.toNat_natCast]
 refine oO (by omega) rfl ?_
 have e:D.val (D.aK a2)=a2:=D.e1 a2
 have bW:a2 / 2 ^ n % 2=(D.aK a2).getD (n / 32) 0 / 2 ^ (n % 32) % 2:=by
  have:=Jk (a2:=a2) (m:=n / 32) (S:=n % 32) (Nat.mod_lt _ (by decide))
  rw [Nat.div_add_mod] at this
  rw [this,D.Jl (D.pM a2),e]
 rw [bW]
 refine b9 (fun f=>⟨rfl,?_⟩) fun f=>?_
 ·have:(D.aK a2).getD (n / 32) 0=0:=by simp [List.getD,show(D.aK a2).length≤n / 32 by omega]
  rw [this];simp
 ·unfold oP.a0.t
  refine oO (by omega) rfl ?_
  refine iR r (aC:=n / 32) rfl rfl (by omega) ?_
  have g:=r.k3 (n / 32)
  refine zY rfl ?_
  refine Jm rfl rfl (by omega) ?_
  have h:(D.aK a2).getD (n / 32) 0 / 2 ^ (n % 32)≤(D.aK a2).getD (n / 32) 0:=Nat.div_le_self _ _
  refine Jn rfl (by omega) ?_
  refine cO (((D.aK a2).getD (n / 32) 0 / 2 ^ (n % 32) % 2:Nat):Int) rfl (by omega) (by omega) ?_
  exact⟨rfl,rfl⟩
def BQ(a2:Nat):Int × Bool:=if a2 < 18446744073709551616 then((a2:Int),true) else(0,false)
theorem Jp{a2:Nat}(aX:a2 ≠ 0)(Z:a2 < 18446744073709551616):aK a2=[a2]:=by
 rw [kE aX,show a2 / 18446744073709551616=0 by omega,eP,Nat.mod_eq_of_lt Z]
theorem Jq{a:M}{c l a2:Nat}{Z:U}(r:cH b6 Z a c (D.aK a2))(d:l=(D.aK a2).length):
  aY qL.id #[.slice a l c] Z fun v K=>bA Z K∧s2 (m6 .u64) zP Z K v (BQ a2):=by
 refine qL.ok ?_
 unfold qL.t qL.aL.t
 refine cA (ED r d) fun v aZ ⟨b3,aJ,aG,R,e⟩=>?_
 subst R
 refine bE rfl ?_
 have f:=@gR a2 0
 have g:=@gR a2 1
 have h:(2:Nat) ^ (64*1)=18446744073709551616:=by decide
 have i:(2:Nat) ^ (64*0)=1:=by decide
 rw [h] at g;rw [i] at f
 unfold BQ
 refine eY (fun j=>⟨b3,_,_,rfl,⟨?_,?_⟩,?_⟩) fun j=>?_
 ·have:a2=0:=by omega
  subst this;rfl
 ·rw [xB];split <;> simp <;> omega
 ·have:a2=0:=by omega
  subst this;rfl
 ·refine eY (fun k=>?_) fun k=>⟨b3,_,_,rfl,⟨?_,?_⟩,?_⟩
  ·have m:a2 ≠ 0:=by omega
   have b:a2 < 18446744073709551616:=by omega
   have n:=Jp m b
   refine Ef e.rd (aC:=0) rfl rfl (by omega) ?_
   rw [if_pos b,n]
   exact⟨b3,_,_,rfl,⟨rfl,by rw [xB];omega⟩,rfl⟩
  ·rw [if_neg (by omega)]
  ·rw [if_neg (by omega)];decide
  ·rw [if_neg (by omega)];rfl
theorem z0{Z:U}{aE off l:Nat}{a bH bC:List Nat}(aN:dZ b6 Z aE (a ++ (bH ++ bC)))(b:a.length=off)(d:l=bH.length)(e:bH.length≤70368744177656){O:Int}{aC:Nat}(a4:O=(aC:Int))(f:aC < bH.length){aF:Int→Prop}
  (g:aF (bH.getD aC 0:Nat)):c7 (some ⟨aE,off,none⟩) l O 1 fun aE=>fG Z aE fun v=>aW .u32 v aF:=by
 have r:=aN.Bt (off:=off) (n:=bH.length) (c:=bH.length) e (by simp;omega) (Nat.le_refl _)
 have R:((a ++ (bH ++ bC)).drop off).take bH.length=bH:=by rw [← b,List.drop_left,List.take_left]
 rw [R] at r
 exact iR r a4 d f g
def oQ(bW:U)(aE:Nat)(aZ Z:U):Prop:=bA bW Z∧cD aE aZ Z
theorem z1{Z bW aZ:U}{aE off l:Nat}{a bH bC:List Nat}(aN:dZ b6 Z aE (a ++ (bH ++ bC)))(d:a.length=off)(j:l=bH.length)(cM:oQ bW aE aZ Z)(e:bW.size≤aE){O:Int}{aC:Nat}(a4:O=(aC:Int))(f:aC < bH.length){N:Int}{v:Nat}(h:N=(v:Int))(i:v < 4294967296){aF:U→Prop}
  (g:∀ K,dZ b6 K aE (a ++ (bH.set aC v ++ bC))→oQ bW aE aZ K→aF K):c7 (some ⟨aE,off,none⟩) l O 1 fun aE=>cC Z aE (.int .u32 N) aF:=by
 refine Bu aN a4 (by omega) (by simp;omega) (by rw [h];rfl) i fun b c=>?_
 refine g _ ?_ ⟨c.aR cM.1 e,cM.2.trans c⟩
 have R:(a ++ (bH ++ bC)).set (off+aC) v=a ++ (bH.set aC v ++ bC):=by
  rw [← d,List.set_append_right _ _ (by omega),Nat.add_sub_cancel_left,List.set_append_left _ _ f]
 rw [R] at b;exact b
theorem ER{bH aU:List Nat}{aC aB dH c aN dF fO t:Nat}(a:aC < bH.length)(aZ:c+aB*aU.getD aC 0+aN+t=bH.getD aC 0+4294967296*(dF+fO))(R:D.val bH+aB*D.val (aU.take aC)=dH+(c+aN)*2 ^ (32*aC)):
  D.val (bH.set aC t)+aB*D.val (aU.take (aC+1))=dH+(dF+fO)*2 ^ (32*(aC+1)):=by
 have bM:=D.lQ (a6:=bH) (aC:=aC) (v:=t) a
 rw [vL,D.j2]
 generalize 2 ^ (32*aC)=P at *
 generalize bH.getD aC 0=bI at *
 have b:(c+aB*aU.getD aC 0+aN+t)*P=(bI+4294967296*(dF+fO))*P:=by rw [aZ]
 have d:(c+aB*aU.getD aC 0+aN+t)*P=(c+aN)*P+aB*(P*aU.getD aC 0)+t*P:=by
  have:aB*(P*aU.getD aC 0)=aB*aU.getD aC 0*P:=by rw [Nat.mul_comm P,Nat.mul_assoc]
  rw [this,← Nat.add_mul,← Nat.add_mul];congr 1;omega
 have e:(bI+4294967296*(dF+fO))*P=bI*P+(dF+fO)*(4294967296*P):=by
  rw [Nat.add_mul,Nat.mul_comm 4294967296,Nat.mul_assoc]
 rw [Nat.mul_add]
 omega
theorem Jr{Y:aD}{L:M}{c aV n aE off aB dH:Nat}{aU i bC:List Nat}{bW aZ:U}(aH:cH b6 bW L aV aU)(z:aU.length=n)(j:i.length=off)(s:bW.size≤aE)(A:aB < 4294967296)(PD:n < 1099511627776)
  (g:∀ Z aN bH,aN≤1→bH.length=n+1→dZ b6 Z aE (i ++ (bH ++ bC))→oQ bW aE aZ Z→D.val bH+aB*D.val aU=dH+aN*2 ^ (32*(n+1))→(∃ m,hO.cK.t Y m (some ⟨aE,off,none⟩) (n+1) c L n aV (n:Int) (aB:Int) (aN:Int) Z)) :
  ∀ (S aC a aN:Nat) (bH:List Nat) (Z:U),aC+S=n+1→bH.length=n+1→a < 4294967296→aN≤1→(aC=n+1→a=0)→dZ b6 Z aE (i ++ (bH ++ bC))→oQ bW aE aZ Z→D.val bH+aB*D.val (aU.take aC)=dH+(a+aN)*2 ^ (32*aC)→
   hO.kU.t Y (S+1) (some ⟨aE,off,none⟩) (n+1) c L n aV (n:Int) (aB:Int) (a:Int) (aN:Int) (aC:Int) Z:=by
 intro S
 induction S with
 | zero=>
  intro aC a aN bH Z B e C u v f cM R
  unfold hO.kU.t hO.rP.t
  refine b9 (fun b=>absurd b (by omega)) fun _=>?_
  have E:=v (by omega)
  subst E
  rw [List.take_of_length_le (by omega),Nat.zero_add,show aC=n+1 by omega] at R
  exact g Z aN bH u e f cM R
 | succ S bU=>
  intro aC a aN bH Z B e C u v f cM R
  have PE:bH.getD aC 0 < 4294967296:=by
   refine m7 (by decide) (fun N F=>f.ok N ?_) aC
   exact List.mem_append_right _ (List.mem_append_left _ F)
  have G:bH.length≤70368744177656:=by omega
  have step:∀ (p take d:Nat),p=aB*aU.getD aC 0→take < 4294967296→a+p=take+4294967296*d→d < 4294967296→(aC=n→d=0)→
    c7 (some ⟨aE,off,none⟩) (n+1) (aC:Int) 1 fun H=>fG Z H fun I=>aW .u32 I fun J=>a5 (IntKind.u64.wrap J) fun k=>
     cond (decide (k < ((take+aN:Nat):Int))) (a5 (IntKind.u64.wrap (k+4294967296)) fun P=>a5 (IntKind.u64.wrap (P - ((take+aN:Nat):Int))) fun Q=>a5 (IntKind.u32.wrap Q) fun T=>c7 (some ⟨aE,off,none⟩) (n+1) (aC:Int) 1 fun V=>cC Z V (.int .u32 T) fun Pt=>a5 (IntKind.i64.wrap ((aC:Int)+1)) fun Pu=>hO.kU.t Y (S+1) (some ⟨aE,off,none⟩) (n+1) c L n aV (n:Int) (aB:Int) (d:Int) 1 Pu Pt)
      (a5 (IntKind.u64.wrap (k - ((take+aN:Nat):Int))) fun Pv=>a5 (IntKind.u32.wrap Pv) fun Pw=>c7 (some ⟨aE,off,none⟩) (n+1) (aC:Int) 1 fun Px=>cC Z Px (.int .u32 Pw) fun Py=>a5 (IntKind.i64.wrap ((aC:Int)+1)) fun Pz=>hO.kU.t Y (S+1) (some ⟨aE,off,none⟩) (n+1) c L n aV (n:Int) (aB:Int) (d:Int) 0 Pz Py):=by
   intro p take d h PF PG w x
   refine z0 f j e.symm G rfl (by omega) ?_
   refine dB (bH.getD aC 0) rfl (by omega) ?_
   refine b9 (fun b=>?_) fun b=>?_
   ·refine dB (bH.getD aC 0+4294967296) (by omega) (by omega) ?_
    refine dB (bH.getD aC 0+4294967296 - (take+aN)) (by omega) (by omega) ?_
    refine kJ (bH.getD aC 0+4294967296 - (take+aN)) rfl (by omega) ?_
    refine z1 f j e.symm cM s rfl (by omega) rfl (by omega) fun l o q=>?_
    refine cO ((aC+1:Nat):Int) (by omega) (by omega) (by omega) ?_
    exact bU (aC+1) d 1 _ l (by omega) (by simp [e]) w (by omega) (fun r=>x (by omega)) o q (ER (by omega) (by rw [← h];omega) R)
   ·refine dB (bH.getD aC 0 - (take+aN)) (by omega) (by omega) ?_
    refine kJ (bH.getD aC 0 - (take+aN)) rfl (by omega) ?_
    refine z1 f j e.symm cM s rfl (by omega) rfl (by omega) fun l o q=>?_
    refine cO ((aC+1:Nat):Int) (by omega) (by omega) (by omega) ?_
    exact bU (aC+1) d 0 _ l (by omega) (by simp [e]) w (by omega) (fun r=>x (by omega)) o q (ER (by omega) (by rw [← h];omega) R)
  unfold hO.kU.t hO.rP.t
  refine b9 (fun _=>?_) fun b=>absurd (by omega) b
  refine b9 (fun b=>?_) fun b=>?_
  ·have PA:=aH.k3 aC
   have h:=tC A PA
   refine iR (aH.aR cM.1) (aC:=aC) rfl z.symm (by omega) ?_
   refine dB (aU.getD aC 0) rfl (by omega) ?_
   have PB:(aB:Int)*((aU.getD aC 0:Nat):Int)=((aB*aU.getD aC 0:Nat):Int):=(Int.natCast_mul _ _).symm
   rw [PB]
   obtain⟨p,y⟩:∃ p,p=aB*aU.getD aC 0:=⟨_,rfl⟩
   rw [← y] at h ⊢
   refine dB p rfl (by omega) ?_
   refine dB (a+p) (by omega) (by omega) ?_
   refine nC rfl (by omega) ?_
   refine dB ((a+p) % 4294967296+aN) (by omega) (by omega) ?_
   refine rL rfl ?_
   exact step p _ _ y (by omega) (by omega) (by omega) (fun r=>absurd b (by omega))
  ·have PC:aU.getD aC 0=0:=by simp [List.getD,show aU.length≤aC by omega]
   refine nC rfl (by omega) ?_
   refine dB (a % 4294967296+aN) (by omega) (by omega) ?_
   refine rL rfl ?_
   exact step 0 _ _ (by rw [PC];rfl) (by omega) (by omega) (by omega) (fun r=>by omega)
theorem ES{bH aU:List Nat}{aC T c dF t:Nat}(a:aC < bH.length)(aZ:c+bH.getD aC 0+aU.getD aC 0=t+4294967296*dF)(R:D.val bH+c*2 ^ (32*aC)=T+D.val (aU.take aC)):
  D.val (bH.set aC t)+dF*2 ^ (32*(aC+1))=T+D.val (aU.take (aC+1)):=by
 have bM:=D.lQ (a6:=bH) (aC:=aC) (v:=t) a
 rw [vL,D.j2]
 generalize 2 ^ (32*aC)=P at *
 generalize bH.getD aC 0=bI at *
 have b:(c+bI+aU.getD aC 0)*P=(t+4294967296*dF)*P:=by rw [aZ]
 have d:(c+bI+aU.getD aC 0)*P=c*P+bI*P+P*aU.getD aC 0:=by rw [Nat.add_mul,Nat.add_mul,Nat.mul_comm P]
 have e:(t+4294967296*dF)*P=t*P+dF*(4294967296*P):=by rw [Nat.add_mul,Nat.mul_comm 4294967296,Nat.mul_assoc]
 omega
theorem Js{Y:aD}{l:M→Nat→Nat→M→Nat→Nat→Int→Int→Int→U→Prop}{L:M}{c aV n aE off T:Nat}{aB:Int}{aU f bC:List Nat}{bW aZ:U}(aH:cH b6 bW L aV aU)(p:aU.length=n)(h:f.length=off)(m:bW.size≤aE)(v:n < 1099511627776)
  (g:∀ Z a bH,a≤1→bH.length=n+1→dZ b6 Z aE (f ++ (bH ++ bC))→oQ bW aE aZ Z→D.val bH+a*2 ^ (32*(n+1))=T+D.val aU→l (some ⟨aE,off,none⟩) (n+1) c L n aV (n:Int) aB ((1 - a:Nat):Int) Z) :
  ∀ (S aC a:Nat) (bH:List Nat) (Z:U),aC+S=n+1→bH.length=n+1→a≤1→dZ b6 Z aE (f ++ (bH ++ bC))→oQ bW aE aZ Z→D.val bH+a*2 ^ (32*aC)=T+D.val (aU.take aC)→
   hO.hH.t Y l (S+1) (some ⟨aE,off,none⟩) (n+1) c L n aV (n:Int) aB (a:Int) 1 (aC:Int) Z:=by
 intro S
 induction S with
 | zero=>
  intro aC a bH Z q b o d cM R
  unfold hO.hH.t hO.gK.t
  refine b9 (fun e=>absurd e (by omega)) fun _=>?_
  unfold hO.c8.t
  refine dB (1 - a) (by split <;> omega) (by omega) ?_
  rw [List.take_of_length_le (by omega),show aC=n+1 by omega] at R
  exact g Z a bH o b d cM R
 | succ S bU=>
  intro aC a bH Z q b o d cM R
  have w:bH.getD aC 0 < 4294967296:=by
   refine m7 (by decide) (fun N r=>d.ok N ?_) aC
   exact List.mem_append_right _ (List.mem_append_left _ r)
  have s:bH.length≤70368744177656:=by omega
  unfold hO.hH.t hO.gK.t
  refine b9 (fun _=>?_) fun e=>absurd (by omega) e
  refine z0 d h b.symm s rfl (by omega) ?_
  refine dB (bH.getD aC 0) rfl (by omega) ?_
  refine dB (a+bH.getD aC 0) (by omega) (by omega) ?_
  refine b9 (fun e=>?_) fun e=>?_
  ·have x:=aH.k3 aC
   refine iR (aH.aR cM.1) (aC:=aC) rfl p.symm (by omega) ?_
   refine dB (aU.getD aC 0) rfl (by omega) ?_
   refine dB (a+bH.getD aC 0+aU.getD aC 0) (by omega) (by omega) ?_
   refine nC rfl (by omega) ?_
   refine kJ ((a+bH.getD aC 0+aU.getD aC 0) % 4294967296) rfl (by omega) ?_
   refine z1 d h b.symm cM m rfl (by omega) rfl (by omega) fun i j k=>?_
   refine rL rfl ?_
   refine cO ((aC+1:Nat):Int) (by omega) (by omega) (by omega) ?_
   exact bU (aC+1) _ _ i (by omega) (by simp [b]) (by omega) j k (ES (by omega) (by omega) R)
  ·have u:aU.getD aC 0=0:=by simp [List.getD,show aU.length≤aC by omega]
   refine nC rfl (by omega) ?_
   refine kJ ((a+bH.getD aC 0) % 4294967296) rfl (by omega) ?_
   refine z1 d h b.symm cM m rfl (by omega) rfl (by omega) fun i j k=>?_
   refine rL rfl ?_
   refine cO ((aC+1:Nat):Int) (by omega) (by omega) (by omega) ?_
   exact bU (aC+1) _ _ i (by omega) (by simp [b]) (by omega) j k (ES (by omega) (by rw [u];omega) R)
theorem Jt{Y:aD}{L:M}{c aV n aE off dH:Nat}{aU f bC:List Nat}{bW aZ:U}(aH:cH b6 bW L aV aU)(m:aU.length=n)(o:f.length=off)(p:bW.size≤aE)(q:n < 1099511627776)(h:0 < D.val aU)
  (post:∀ Z bH,bH.length=n+1→dZ b6 Z aE (f ++ (bH ++ bC))→oQ bW aE aZ Z→D.val bH=dH % D.val aU→Y (.int .u32 ((dH / D.val aU:Nat):Int)) Z) :
  ∀ (S aB aN:Nat) (bH:List Nat) (Z:U),aB≤dH / D.val aU+S→dH / D.val aU≤aB→aB < 4294967296→aN≤1→bH.length=n+1→dZ b6 Z aE (f ++ (bH ++ bC))→oQ bW aE aZ Z→D.val bH+aB*D.val aU=dH+aN*2 ^ (32*(n+1))→
   hO.cK.t Y (S+1) (some ⟨aE,off,none⟩) (n+1) c L n aV (n:Int) (aB:Int) (aN:Int) Z:=by
 have r:=Nat.div_add_mod dH (D.val aU)
 have s:=Nat.mod_lt dH h
 have fin:∀ (aB:Nat) (bH:List Nat) (Z:U),dH / D.val aU≤aB→aB < 4294967296→bH.length=n+1→dZ b6 Z aE (f ++ (bH ++ bC))→oQ bW aE aZ Z→D.val bH+aB*D.val aU=dH→hO.a0.t Y (aB:Int) Z:=by
  intro aB bH Z d e a b cM R
  have u:aB≤dH / D.val aU:=by rw [Nat.le_div_iff_mul_le h];omega
  have l:aB=dH / D.val aU:=Nat.le_antisymm u d
  unfold hO.a0.t
  refine kJ aB rfl e ?_
  rw [l]
  refine post Z bH a b cM ?_
  rw [l,Nat.mul_comm] at R;omega
 have more:∀ (aB:Nat) (bH:List Nat),bH.length=n+1→(∀ N ∈ bH,N < 4294967296)→D.val bH+aB*D.val aU=dH+1*2 ^ (32*(n+1))→dH / D.val aU < aB:=by
  intro aB bH a v R
  have w:=D.h7 (aA:=bH) v
  rw [a] at w
  rw [Nat.div_lt_iff_lt_mul h];omega
 clear r s
 generalize dH / D.val aU=Q at *
 intro S
 induction S with
 | zero=>
  intro aB aN bH Z x d e y a b cM R
  unfold hO.cK.t hO.cE.t
  have z:aN=0:=by
   rcases Nat.lt_or_ge aN 1 with i | i
   ·omega
   ·have:aN=1:=by omega
    subst this
    have:=more aB bH a (fun N j=>b.ok N (List.mem_append_right _ (List.mem_append_left _ j))) R
    omega
  subst z
  refine b9 (fun k=>absurd k (by omega)) fun _=>?_
  exact fin aB bH Z d e a b cM (by omega)
 | succ S bU=>
  intro aB aN bH Z x d e y a b cM R
  unfold hO.cK.t hO.cE.t
  refine b9 (fun k=>?_) fun k=>?_
  ·have A:aN=1:=by omega
   subst A
   have H:=more aB bH a (fun N j=>b.ok N (List.mem_append_right _ (List.mem_append_left _ j))) R
   unfold hO.b7.t
   refine dB (aB - 1) (by omega) (by omega) ?_
   unfold hO.e0.t
   refine⟨n+2,?_⟩
   refine Js (T:=D.val bH) aH m o p q (fun B g C I E F G J=>?_) (n+1) 0 0 bH Z (by omega) a (by omega) b cM (by simp [D.val])
   refine bU (aB - 1) (1 - g) C B (by omega) (by omega) (by omega) (by omega) E F G ?_
   have P:(aB - 1)*D.val aU+D.val aU=aB*D.val aU:=by
    rw [← Nat.succ_mul,Nat.succ_eq_add_one,Nat.sub_add_cancel (by omega)]
   generalize 2 ^ (32*(n+1))=cN at *
   rcases Nat.lt_or_ge g 1 with i | i
   ·have:g=0:=by omega
    subst this;omega
   ·have:g=1:=by omega
    subst this;omega
  ·have:aN=0:=by omega
   subst this
   exact fin aB bH Z d e a b cM (by omega)
theorem ET{aA:List Nat}(a:D.Words aA){m:Nat}(b:aA.length=m+1):D.val aA / 2 ^ (32*m)=aA.getD m 0:=by
 rw [← D.k2 a,iK (by omega),List.drop_of_length_le (by omega)];simp [D.val]
theorem Ju{aA:List Nat}(a:D.Words aA){m:Nat}(b:aA.length=m+2):D.val aA / 2 ^ (32*m)=aA.getD m 0+4294967296*aA.getD (m+1) 0:=by
 rw [← D.k2 a,iK (by omega),iK (by omega),List.drop_of_length_le (by omega)];simp [D.val]
theorem Jv{L:M}{c aV l n aE off m dH:Nat}{aU e bH bC:List Nat}{bW Z:U}(aH:cH b6 bW L aV aU)(f:aU.length=n)(w:n=l)(a:e.length=off)(k:bW.size≤aE)(o:n < 1099511627776)(Pt:0 < n)(Pu:aU.getD (n - 1) 0 ≠ 0)(p:D.val bH=dH)(q:dH < 4294967296*D.val aU)
  (g:bH.length=n+1) (x:m=n+1) (b:dZ b6 Z aE (e ++ (bH ++ bC))) (y:bA bW Z) :
  aY hO.id #[.slice (some ⟨aE,off,none⟩) m c,.slice L l aV] Z fun v K=>v=.int .u32 ((dH / D.val aU:Nat):Int)∧oQ bW aE Z K∧∃ h,h.length=n+1∧dZ b6 K aE (e ++ (h ++ bC))∧D.val h=dH % D.val aU:=by
 subst x;subst w
 have cM:oQ bW aE Z Z:=⟨y,cD.refl _ _⟩
 refine hO.ok ?_
 unfold hO.t hO.aL.t
 have r:bH.length≤70368744177656:=by omega
 have i:D.Words bH:=fun N z=>b.ok N (List.mem_append_right _ (List.mem_append_left _ z))
 have A:=m7 (aA:=bH) (bC:=4294967296) (by decide) i n
 have Pv:=m7 (aA:=bH) (bC:=4294967296) (by decide) i (n - 1)
 have Pw:=aH.k3 (n - 1)
 refine z0 b a g.symm r (aC:=n) rfl (by omega) ?_
 refine dB (bH.getD n 0) rfl (by omega) ?_
 refine BI rfl A ?_
 refine cO ((n - 1:Nat):Int) (by omega) (by omega) (by omega) ?_
 refine z0 b a g.symm r (aC:=n - 1) rfl (by omega) ?_
 refine dB (bH.getD (n - 1) 0) rfl (by omega) ?_
 refine dB (bH.getD (n - 1) 0+4294967296*bH.getD n 0) (by omega) (by omega) ?_
 refine cO ((n - 1:Nat):Int) (by omega) (by omega) (by omega) ?_
 refine iR (aH.aR cM.1) (aC:=n - 1) rfl f.symm (by omega) ?_
 refine dB (aU.getD (n - 1) 0) rfl (by omega) ?_
 refine⟨by omega,?_⟩
 rw [n0]
 have Px:=Nat.div_le_self (bH.getD (n - 1) 0+4294967296*bH.getD n 0) (aU.getD (n - 1) 0)
 refine dB ((bH.getD (n - 1) 0+4294967296*bH.getD n 0) / aU.getD (n - 1) 0) rfl (by omega) ?_
 have s:0 < D.val aU:=by
  rcases Nat.eq_zero_or_pos (D.val aU) with R | R
  ·rw [R] at q;omega
  ·exact R
 have u:=ET aH.ok (m:=n - 1) (by omega)
 have d:=Ju i (m:=n - 1) (by omega)
 rw [show n - 1+1=n by omega,p] at d
 have Py:dH / D.val aU≤(bH.getD (n - 1) 0+4294967296*bH.getD n 0) / aU.getD (n - 1) 0:=by
  rw [← d,← u,Nat.div_div_eq_div_mul]
  refine Nat.div_le_div_left (Nat.mul_div_le _ _) ?_
  rw [u];exact Nat.mul_pos (Nat.pow_pos (by decide)) (by omega)
 have Pz:dH / D.val aU < 4294967296:=by rw [Nat.div_lt_iff_lt_mul s];exact q
 generalize (bH.getD (n - 1) 0+4294967296*bH.getD n 0) / aU.getD (n - 1) 0=j at *
 obtain⟨aB,PA⟩:∃ aB:Nat,aB=min j 4294967295:=⟨_,rfl⟩
 have B:(if (4294967295:Int) < (j:Int) then(4294967295:Int) else(j:Int))=(aB:Int):=by split <;> omega
 rw [B]
 unfold hO.rQ.t
 refine⟨n+2,?_⟩
 refine Jr (dH:=dH) aH f a k (by omega) o (fun C aN E F G H I d=>?_) (n+1) 0 0 0 bH Z (by omega) g (by decide) (by omega) (by omega) b cM (by simp [D.val,p])
 refine⟨aB - dH / D.val aU+1,?_⟩
 exact Jt aH f a k o s (fun PB J P Q T V=>⟨rfl,T,J,P,Q,V⟩) _ aB aN E C (by omega) (by omega) (by omega) F G H I d
def nE(a2 bK:Nat):Nat × Nat:=if bK=0 then(0,0) else(a2 / bK,a2 % bK)
theorem EU{a:List Nat}{S V:Nat}(d:V≤2 ^ (32*S))(Z:D.val a < V)(b:D.Words a):D.val (a.drop S)=0∧D.val (a.take S)=D.val a:=by
 have R:D.val a=D.val (a.take S)+2 ^ (32*S)*D.val (a.drop S):=by
  by_cases c:S≤a.length
  ·conv=>lhs;rw [← List.take_append_drop S a]
   rw [D.hX,List.length_take,Nat.min_eq_left c]
  ·rw [List.take_of_length_le (by omega),List.drop_of_length_le (by omega)];simp [D.val]
 have aX:D.val (a.drop S)=0:=by
  rw [D.k2 b];exact Nat.div_eq_of_lt (by omega)
 rw [aX] at R
 exact⟨aX,by omega⟩
theorem Jw{Y:aD}{L:M}{aV n c e b hJ h1:Nat}{gW:Int}{aU g7 rest:List Nat}{bW:U}(aH:cH b6 bW L aV aU)(z:aU.length=n)(hu:bW.size≤c)(Pu:bW.size≤e)(A:c ≠ e)(Pv:n < 1099511627776)(Pw:0 < n)(B:aU.getD (n - 1) 0 ≠ 0)(PX:b < 1099511627776)(PY:b≤hJ)(PZ:n < b)
  (Px:D.val g7=h1) (P0:g7.length=b) (C:D.Words g7)
  (post:∀ Z a eO,a.length=b→eO.length=b - n→dZ b6 Z c (a ++ rest)→dZ b6 Z e eO→bA bW Z→D.val a=h1 % D.val aU→D.val eO=h1 / D.val aU→hK.bF.t Y gW (some ⟨c,0,none⟩) b hJ (n:Int) (some ⟨e,0,none⟩) (b - n) (b - n) Z) :
  ∀ (aC:Nat) (a eO:List Nat) (Z:U),aC≤b - n→a.length=b→eO.length=b - n→dZ b6 Z c (a ++ rest)→dZ b6 Z e eO→bA bW Z→a.take aC=g7.take aC→D.val (a.drop aC) < D.val aU→D.val (eO.drop aC)*D.val aU+D.val (a.drop aC)=h1 / 2 ^ (32*aC)→
   hK.dW.t Y (aC+1) gW L n aV (some ⟨c,0,none⟩) b hJ (n:Int) (some ⟨e,0,none⟩) (b - n) (b - n) ((aC:Int) - 1) Z:=by
 have E:=D.h7 aH.ok
 rw [z] at E
 have l:0 < D.val aU:=by
  rcases Nat.eq_zero_or_pos (D.val aU) with R | R
  ·exfalso
   have:=ET aH.ok (m:=n - 1) (by omega)
   rw [R,Nat.zero_div] at this;exact B this.symm
  ·exact R
 intro aC
 induction aC with
 | zero=>
  intro a eO Z Py F o f j cM _ k R
  unfold hK.dW.t hK.c8.t
  refine b9 (fun p=>absurd p (by omega)) fun _=>?_
  rw [List.drop_zero] at k R
  rw [List.drop_zero,Nat.mul_zero,Nat.pow_zero,Nat.div_one] at R
  refine post Z a eO F o f j cM ?_ ?_
  ·rw [← R,Nat.mul_comm,Nat.mul_add_mod,Nat.mod_eq_of_lt k]
  ·rw [← R,Nat.mul_comm,Nat.mul_add_div l,Nat.div_eq_of_lt k,Nat.add_zero]
 | succ aC bU=>
  intro a eO Z Py F o f j cM G k R
  have H:D.Words a:=fun N q=>f.ok N (List.mem_append_left _ q)
  have P1:D.Words eO:=j.ok
  unfold hK.dW.t hK.c8.t
  refine b9 (fun _=>?_) fun p=>absurd (by omega) p
  refine cO ((aC+n:Nat):Int) (by omega) (by omega) (by omega) ?_
  refine cO ((aC+n+1:Nat):Int) (by omega) (by omega) (by omega) ?_
  have Pz:(((aC+1:Nat):Int) - 1)=(aC:Int):=by omega
  rw [Pz]
  have PA:∀ {aF:M→Nat→Nat→Prop},aF (some ⟨c,aC,none⟩) (n+1) (hJ - aC)→iD 1 (some ⟨c,0,none⟩) b hJ (some (.int .i64 (aC:Int))) (some (.int .i64 ((aC+n+1:Nat):Int))) none aF:=by
   intro aF g
   refine⟨⟨by omega,by omega⟩,⟨by omega,by omega⟩,?_⟩
   show aF (iY (some ⟨c,0,none⟩) hJ ((aC:Int)).toNat 1) ((((aC+n+1:Nat):Int)).toNat - ((aC:Int)).toNat) (hJ - ((aC:Int)).toNat)
   have r:(((aC+n+1:Nat):Int)).toNat - ((aC:Int)).toNat=n+1:=by omega
   have h:hJ - ((aC:Int)).toNat=hJ - aC:=by omega
   have PB:iY (some ⟨c,0,none⟩) hJ ((aC:Int)).toNat 1=some ⟨c,aC,none⟩:=by
    unfold iY
    rw [if_neg (by omega),Int.toNat_natCast,Nat.mul_one]
    show some ((⟨c,0,none⟩:Addr).add aC)=_
    rw [cB]
   rw [r,h,PB];exact g
  refine PA ?_
  obtain⟨d,s⟩:∃ d,d=a.take aC:=⟨_,rfl⟩
  obtain⟨bH,u⟩:∃ bH,bH=(a.drop aC).take (n+1):=⟨_,rfl⟩
  obtain⟨bC,w⟩:∃ bC,bC=a.drop (aC+(n+1)):=⟨_,rfl⟩
  have PC:a=d ++ (bH ++ bC):=by
   rw [s,u,w,← List.drop_drop,List.take_append_drop,List.take_append_drop]
  have x:d.length=aC:=by rw [s,List.length_take];omega
  have PD:bH.length=n+1:=by rw [u,List.length_take,List.length_drop];omega
  have P2:bC.length=b - (aC+(n+1)):=by rw [w,List.length_drop];omega
  have P3:D.val (a.drop aC)=a.getD aC 0+4294967296*D.val (a.drop (aC+1)):=D.lE a aC
  have P4:a.getD aC 0 < 4294967296:=m7 (by decide) H aC
  have y:D.val (a.drop aC) < 4294967296*D.val aU:=by omega
  have PE:D.val (a.drop aC) < 2 ^ (32*(n+1)):=by
   rw [D.j2]
   calc D.val (a.drop aC) < 4294967296*D.val aU:=y
    _≤4294967296*2 ^ (32*n):=Nat.mul_le_mul_left _ (Nat.le_of_lt E)
  have PF:D.Words (a.drop aC):=fun N q=>H N (List.mem_of_mem_drop q)
  have I:=EU (Nat.le_refl _) PE PF
  have PG:D.val bH=D.val (a.drop aC):=by rw [u];exact I.2
  have PH:D.val bC=0:=by
   have:=I.1
   rw [List.drop_drop] at this
   rw [w];exact this
  have PI:dZ b6 Z c (d ++ (bH ++ (bC ++ rest))):=by
   rw [PC] at f;simpa [List.append_assoc] using f
  refine cA (Jv (dH:=D.val (a.drop aC)) aH z rfl x hu Pv Pw B PG y PD rfl PI cM) fun v PJ ⟨h,J,i,P5,PK,PL⟩=>?_
  subst h
  refine bQ rfl ?_
  have PM:D.val (a.drop aC) / D.val aU < 4294967296:=by rw [Nat.div_lt_iff_lt_mul l];exact y
  have PN:dZ b6 PJ e eO:=j.cL (fun R=>A R.symm) J.2
  refine zN PN (aC:=aC) rfl (by omega) (by omega) rfl PM fun PO Q=>?_
  have PQ:=Q.aR J.1 Pu
  have PR:=PK.cL A Q
  refine cO ((aC:Int) - 1) (by omega) (by omega) (by omega) ?_
  have PS:=Nat.mod_lt (D.val (a.drop aC)) l
  have P6:=Nat.div_add_mod (D.val (a.drop aC)) (D.val aU)
  have T:(d ++ (i ++ bC)).drop aC=i ++ bC:=by rw [← x,List.drop_left]
  have V:D.val (i ++ bC)=D.val (a.drop aC) % D.val aU:=by
   rw [D.hX,PH,PL];simp
  have PT:a.take aC=g7.take aC:=by
   have:=congrArg (List.take aC) G
   rwa [List.take_take,List.take_take,Nat.min_eq_left (by omega)] at this
  have PU:a.getD aC 0=g7.getD aC 0:=by
   have r:(a.take (aC+1)).getD aC 0=a.getD aC 0:=by simp [List.getD]
   have h:(g7.take (aC+1)).getD aC 0=g7.getD aC 0:=by simp [List.getD]
   rw [← r,← h,G]
  refine bU (d ++ (i ++ bC)) (eO.set aC (D.val (a.drop aC) / D.val aU)) _ (by omega) (by simp;omega) (by simp [o]) (by simpa [List.append_assoc] using PR) PO PQ ?_ ?_ ?_
  ·have Pt:(d ++ (i ++ bC)).take d.length=d:=List.take_left
   rw [x] at Pt;rw [Pt,s];exact PT
  ·rw [T,V];exact PS
  ·rw [T,V]
   have PV:(eO.set aC (D.val (a.drop aC) / D.val aU)).drop aC=D.val (a.drop aC) / D.val aU :: eO.drop (aC+1):=by
    rw [iK (by simp;omega),List.drop_set_of_lt (by omega)]
    simp [List.getD,show aC < eO.length by omega]
   have PW:h1 / 2 ^ (32*aC)=g7.getD aC 0+4294967296*(h1 / 2 ^ (32*(aC+1))):=by
    rw [← Px,← D.k2 C,← D.k2 C,D.lE]
   rw [PV,PW,← R,← PU]
   simp only [D.val]
   rw [Nat.add_mul,Nat.mul_comm (D.val (a.drop aC) / D.val aU),Nat.mul_assoc]
   generalize D.val (eO.drop (aC+1))*D.val aU=P at *
   omega
theorem Jx{a2 n:Nat}(Z:eB a2=32*n)(b:0 < n):(D.aK a2).length=n:=by
 refine Nat.le_antisymm ((D.zM n).mp (by omega)) ?_
 rcases Nat.lt_or_ge (D.aK a2).length n with a | a
 ·have:=(D.zM (v:=a2) (n - 1)).mpr (by omega)
  omega
 ·exact a
theorem EV{a L:M}{c aV l m a2 bK:Nat}{Z:U}(r:cH b6 Z a c (D.aK a2))(aH:cH b6 Z L aV (D.aK bK))(PU:l=(D.aK a2).length)(PV:m=(D.aK bK).length)(QE:(D.aK a2).length≤1099511627770):
  aY hK.id #[.slice a l c,.slice L m aV] Z fun v K=>bA Z K∧s2 gO gO Z K v (nE a2 bK):=by
 subst PU;subst PV
 have Pv:D.val (D.aK a2)=a2:=D.e1 a2
 have F:D.val (D.aK bK)=bK:=D.e1 bK
 refine hK.ok ?_
 unfold hK.t hK.aL.t
 refine eY (fun aX=>?_) fun aX=>?_
 ·have R:D.aK bK=[]:=List.length_eq_zero_iff.mp (by omega)
  have A:bK=0:=by rw [← F,R];rfl
  refine cA (n1 (aB:=0) rfl (by decide) Z) fun v aZ ⟨b3,G⟩=>?_
  refine G.elim fun aJ aG k=>?_
  refine cA (n1 (aB:=0) rfl (by decide) aZ) fun v Pw ⟨g,o⟩=>?_
  refine o.elim fun bJ bG w=>?_
  unfold nE;rw [if_pos A]
  exact⟨b3.trans g,_,_,rfl,⟨_,_,rfl,k.aR g⟩,⟨_,_,rfl,w.from b3.le⟩⟩
 have A:bK ≠ 0:=by
  intro R;subst R;rw [D.eP] at aX;exact aX rfl
 unfold nE;rw [if_neg A]
 refine cA (zW r aH rfl rfl) fun v K ⟨h,H⟩=>?_
 subst h;subst H
 refine bQ rfl ?_
 refine b9 (fun e=>?_) fun e=>?_
 ·have Px:a2 < bK:=by unfold fA at e;split at e <;> (try split at e) <;> omega
  refine cA (n1 (aB:=0) rfl (by decide) K) fun v aZ ⟨b3,G⟩=>?_
  refine G.elim fun aJ aG k=>?_
  refine cA (nD (r.aR b3) rfl) fun v Pw ⟨g,o⟩=>?_
  rw [Pv] at o
  refine o.elim fun bJ bG w=>?_
  rw [Nat.div_eq_of_lt Px,Nat.mod_eq_of_lt Px]
  exact⟨b3.trans g,_,_,rfl,⟨_,_,rfl,k.aR g⟩,⟨_,_,rfl,w.from b3.le⟩⟩
 have PW:bK≤a2:=by unfold fA at e;split at e <;> (try split at e) <;> omega
 have p:(D.aK bK).getD ((D.aK bK).length - 1) 0 ≠ 0:=by
  rcases vJ.mp (D.qF bK) with R | R
  ·rw [R] at aX;exact absurd rfl aX
  ·exact R
 have B:=aH.k3 ((D.aK bK).length - 1)
 have QF:(D.aK bK).length≤(D.aK a2).length:=D.nV PW
 refine eY (fun aZ=>?_) fun aZ=>?_
 ·have PX:(D.aK bK).length=1:=by omega
  rw [PX] at p B
  have PY:(D.aK bK).getD 0 0=bK:=by
   have R:=D.lE (D.aK bK) 0
   rw [List.drop_zero,F,List.drop_of_length_le (by omega)] at R
   simpa [D.val] using R.symm
  have PZ:(D.aK bK).getD 0 0 ≠ 0:=p
  have Py:(D.aK bK).getD 0 0 < 4294967296:=B
  refine iR aH (aC:=0) rfl rfl (by omega) ?_
  rw [PY] at PZ Py ⊢
  refine cA (BM r rfl rfl Py (by omega)) fun v aZ ⟨b3,aJ,aG,R,k⟩=>?_
  subst R
  rw [Pv] at k ⊢
  have QG:=Nat.mod_lt a2 (show 0 < bK by omega)
  refine gE rfl (cF (bE rfl (cF (bQ rfl (dR ?_)))))
  refine dB (a2 % bK) rfl (by omega) ?_
  refine cA (n1 (aB:=a2 % bK) rfl (by omega) aZ) fun v Pw ⟨g,o⟩=>?_
  refine o.elim fun bJ bG w=>?_
  exact⟨b3.trans g,_,_,rfl,⟨_,_,rfl,k.aR g⟩,⟨_,_,rfl,w.from b3.le⟩⟩
 refine cO (((D.aK bK).length - 1:Nat):Int) (by omega) (by omega) (by omega) ?_
 refine EJ rfl (by omega) ?_
 obtain⟨lU,C⟩:∃ lU,lU=(D.aK bK).getD ((D.aK bK).length - 1) 0:=⟨_,rfl⟩
 have P0:(D.aK bK).drop ((D.aK bK).length - 1)=[lU]:=by
  rw [iK (by omega),List.drop_of_length_le (by omega),C]
 have Pz:=aH.drop (m:=aV) ((D.aK bK).length - 1) (by omega) aH.cap
 rw [P0] at Pz
 rw [← C] at p B
 have P1:dS [lU]=[lU]:=by simp [dS,p]
 refine cA (EF Pz (by simp;omega) P1) fun v x ⟨h,H⟩=>?_
 subst h;subst H
 refine bQ rfl ?_
 have P2:D.val [lU]=lU:=by simp [D.val]
 rw [P2]
 have QH:eB lU≤32:=h8.mpr B
 have QI:=qG p
 obtain⟨d,QJ⟩:∃ d,d=32 - eB lU:=⟨_,rfl⟩
 refine cO ((d:Nat):Int) (by omega) (by omega) (by omega) ?_
 have P3:=D.w6 (D.pM bK) (n:=(D.aK bK).length - 1) (by omega) (by rw [← C];exact p)
 rw [F,← C] at P3
 obtain⟨n,QK⟩:∃ n,n=(D.aK bK).length:=⟨_,rfl⟩
 obtain⟨V,q⟩:∃ V,V=bK*2 ^ d:=⟨_,rfl⟩
 have P4:eB V=32*n:=by rw [q,z2 d A];omega
 have s:(D.aK V).length=n:=Jx P4 (by omega)
 refine cA (zZ aH rfl rfl (by omega) (by omega)) fun v PA ⟨PB,PC⟩=>?_
 rw [← q] at PC
 refine PC.elim fun P5 P6 P7=>?_
 refine cA (zZ (r.aR PB) rfl rfl (by omega) (by omega)) fun v P8 ⟨P9,Qa⟩=>?_
 refine Qa.elim fun Qb hJ PD=>?_
 obtain⟨h1,y⟩:∃ h1,h1=a2*2 ^ d:=⟨_,rfl⟩
 rw [← y] at PD ⊢
 obtain⟨f,PE⟩:∃ f,f=(D.aK a2).length:=⟨_,rfl⟩
 have Qc:a2 < 2 ^ (32*f):=D.gR.mp (Nat.le_of_eq PE.symm)
 have Qd:d < 32:=by omega
 have Qe:2 ^ d < 4294967296:=BN Qd
 have QL:(D.aK h1).length≤f+1:=by rw [y];exact EP (Nat.le_of_eq PE.symm) Qe
 have Qf:=P7.rd
 have pad:∀ (S:Nat) (b:List Nat) (c3:M) (cR:Nat) (u:U),b.length+S=f+1→D.val b=h1→cV b6 PA u c3 cR b→bA PA u→
   hK.g8.t (fun v i=>bA x i∧s2 gO gO x i v (a2 / bK,a2 % bK)) (S+1) a (D.aK a2).length c ((d:Nat):Int) P5 (D.aK V).length P6 c3 b.length cR u:=by
  intro S
  induction S with
  | zero=>
   intro b c3 cR u Qg h2 j E
   unfold hK.g8.t hK.iL.t
   refine b9 (fun e=>absurd e (by omega)) fun _=>?_
   unfold hK.a0.t
   have PF:b.length=f+1:=by omega
   refine cO ((b.length - n:Nat):Int) (by omega) (by omega) (by omega) ?_
   refine pP b6 0 (b.length - n) (b.length - n) rfl pO 4 rfl (by decide) rfl rfl (Nat.le_refl _) (by omega) fun I Qh z=>?_
   unfold hK.cE.t
   refine cO ((b.length - n:Nat):Int) (by omega) (by omega) (by omega) ?_
   refine cO (((b.length - n:Nat):Int) - 1) (by omega) (by omega) (by omega) ?_
   refine⟨b.length - n+1,?_⟩
   rw [Int.toNat_natCast]
   have PG:=j.aR z
   rcases j.here with ⟨h,_,_⟩ | ⟨Qi,rest,h,Qj,PH,QM⟩
   ·rw [h] at PF;simp at PF
   subst h
   have Qk:Qi ≠ u.size:=Nat.ne_of_lt PH.lt
   have PI:(D.aK V).getD ((D.aK V).length - 1) 0 ≠ 0:=by
    rcases vJ.mp (D.qF V) with R | R
    ·rw [R] at s;simp at s;omega
    ·exact R
   have Ql:2 ^ (32*(n - 1))*2 ^ d≤V:=by
    rw [q]
    refine Nat.mul_le_mul_right _ ?_
    rcases Nat.lt_or_ge bK (2 ^ (32*(n - 1))) with J | J
    ·have:=(D.gR (n:=bK) (S:=n - 1)).mpr J
     omega
    ·exact J
   have Qm:h1 < V*2 ^ (32*(b.length - n)):=by
    have Qn:2 ^ (32*f)*2 ^ d=2 ^ (32*(n - 1))*2 ^ d*2 ^ (32*(b.length - n)):=by
     rw [Nat.mul_assoc,Nat.mul_comm (2 ^ d),← Nat.mul_assoc]
     congr 1
     rw [← Nat.pow_add,show 32*(n - 1)+32*(b.length - n)=32*f by omega]
    calc h1 < 2 ^ (32*f)*2 ^ d:=by rw [y];exact Nat.mul_lt_mul_of_pos_right Qc (Nat.pow_pos (by decide))
     _=2 ^ (32*(n - 1))*2 ^ d*2 ^ (32*(b.length - n)):=Qn
     _≤V*2 ^ (32*(b.length - n)):=Nat.mul_le_mul_right _ Ql
   have PJ:D.Words b:=j.rd.ok
   have PK:D.val (b.drop (b.length - n))=h1 / 2 ^ (32*(b.length - n)):=by rw [D.k2 PJ,h2]
   have P:D.val (D.aK V)=V:=D.e1 V
   have go:=Jw (Y:=fun v i=>bA x i∧s2 gO gO x i v (a2 / bK,a2 % bK)) (h1:=h1) (g7:=b) (gW:=((d:Nat):Int)) (hJ:=cR) (rest:=rest) Qf s Qj (Nat.le_trans E.le (Nat.le_refl _)) Qk (by omega) (by omega) (by rw [s] at PI;exact PI) (by omega) j.cap (by omega) h2 rfl PJ (fun i PL QN QO Qo PM Qp Qq Q Qr=>?_) (b.length - n) b (List.replicate (b.length - n) 0) I (Nat.le_refl _) rfl (by simp) (PH.aR z) Qh (E.trans z) rfl ?_ ?_
   ·rw [s];exact go
   ·unfold hK.bF.t
    have QP:=j.cap
    refine cA (nD (Qp.qH (c:=b.length - n) (by show _≤70368744177656;omega) (by omega)) Qo.symm) fun v fM ⟨T,PN⟩=>?_
    rw [Qr,P] at PN
    refine PN.elim fun QQ QR PO=>?_
    refine vH rfl (by omega) ?_
    rw [P] at Q
    have Qs:0 < V:=by rw [q];exact Nat.mul_pos (by omega) (Nat.pow_pos (by decide))
    have Qt:D.val PL < V:=by rw [Q];exact Nat.mod_lt _ Qs
    have Qu:V≤2 ^ (32*n):=Nat.le_of_lt (D.gR.mp (Nat.le_of_eq s))
    have Qv:D.Words PL:=fun N Qw=>PM.ok N (List.mem_append_left _ Qw)
    have Qx:=EU Qu Qt Qv
    have Qy:=((PM.rd (c:=cR) (by show _≤70368744177656;omega) (by omega)).aR T).take n
    refine cA (nD Qy (by rw [List.length_take];omega)) fun v QS ⟨Pt,PQ⟩=>?_
    rw [Qx.2,Q] at PQ
    refine PQ.elim fun QT QU Qz=>?_
    refine cA (BP Qz.rd rfl rfl (by omega)) fun v QV ⟨PR,QA⟩=>?_
    refine QA.elim fun QW QX PS=>?_
    have PT:0 < 2 ^ d:=Nat.pow_pos (by decide)
    have QB:h1 / V=a2 / bK:=by rw [y,q,Nat.mul_div_mul_right _ _ PT]
    have QC:h1 % V / 2 ^ d=a2 % bK:=by rw [y,q,Nat.mul_mod_mul_right,Nat.mul_div_cancel _ PT]
    rw [QB] at PO ⊢
    rw [QC] at PS ⊢
    have Pu:bA x i:=PB.trans Qq
    exact⟨Pu.trans (T.trans (Pt.trans PR)),_,_,rfl,⟨_,_,rfl,(PO.aR (Pt.trans PR)).from Pu.le⟩,⟨_,_,rfl,PS.from ((Pu.trans T).trans Pt).le⟩⟩
   ·rw [P,PK]
    rw [Nat.div_lt_iff_lt_mul (Nat.pow_pos (by decide))];exact Qm
   ·rw [List.drop_of_length_le (by simp),PK];simp [D.val]
  | succ S bU=>
   intro b c3 cR u Qg h2 j E
   unfold hK.g8.t hK.iL.t
   refine b9 (fun _=>?_) fun e=>absurd (by omega) e
   refine rM (n:=0) j E rfl rfl (by decide) (by omega) (by omega) fun QD dF I PG z _=>?_
   have:=bU (b ++ [0]) QD dF I (by simp;omega) (by rw [D.hX,h2];simp [D.val]) PG z
   simpa using this
 refine⟨f+1 - (D.aK h1).length+1,?_⟩
 exact pad _ (D.aK h1) Qb hJ P8 (by omega) (D.e1 h1) (PD.from (Nat.le_refl _)) P9
theorem Jy{Y:aD}{a L:M}{c aV l m:Nat}{aA aU:List Nat}{Z:U}(r:cG Z a c aA)(aH:cG Z L aV aU)(h:l=aA.length)(i:m=aU.length)(f:aA.length=aU.length)(g:Y (.int .i64 (fA (val aA) (val aU))) Z):
  ∀ n:Nat,n≤aA.length→aA.drop n=aU.drop n→iU.bL.t Y (n+1) a l c L m aV ((n:Int) - 1) Z:=by
 subst h;subst i
 have aZ:=r.len
 intro n
 induction n with
 | zero=>
  intro j b
  unfold iU.bL.t iU.b7.t
  refine b9 (fun e=>absurd e (by omega)) fun _=>?_
  have R:aA=aU:=by simpa using b
  unfold iU.a0.t
  rw [R] at g
  have d:fA (val aU) (val aU)=0:=by simp [fA]
  rw [d] at g;exact g
 | succ n bU=>
  intro j b
  unfold iU.bL.t iU.b7.t
  refine b9 (fun e=>?_) fun e=>absurd (by omega) e
  refine fX r (aC:=n) (by omega) rfl (by omega) ?_
  refine fX aH (aC:=n) (by omega) rfl (by omega) ?_
  refine jK (fun o=>?_) fun p=>?_
  ·refine fX r (aC:=n) (by omega) rfl (by omega) ?_
   refine fX aH (aC:=n) (by omega) rfl (by omega) ?_
   refine b9 (fun k=>?_) fun k=>?_
   ·have:=s6 r.words aH.words f (by omega) b (by omega)
    have d:fA (val aA) (val aU)=-1:=by simp [fA,this]
    rw [d] at g;exact g
   ·have:=s6 aH.words r.words f.symm (by omega) b.symm (aC:=n) (by omega)
    have d:fA (val aA) (val aU)=1:=by unfold fA;rw [if_neg (by omega),if_neg (by omega)]
    rw [d] at g;exact g
  ·refine cO ((n:Int) - 1) (by omega) (by omega) (by omega) ?_
   refine bU (by omega) ?_
   rw [iK (by omega),iK (aA:=aU) (by omega),b,show aA.getD n 0=aU.getD n 0 by omega]
theorem BR{a L:M}{c aV l m:Nat}{aA aU:List Nat}{Z:U}(r:cG Z a c aA)(aH:cG Z L aV aU)(g:l=aA.length)(h:m=aU.length):
  aY iU.id #[.slice a l c,.slice L m aV] Z fun v K=>K=Z∧v=.int .i64 (fA (val aA) (val aU)):=by
 refine iU.ok ?_
 unfold iU.t iU.aL.t
 refine cA (xD r g) fun v K ⟨b,d,e⟩=>?_
 subst b;subst d
 refine bE rfl ?_
 refine cA (xD aH h) fun v K ⟨b,d,f⟩=>?_
 subst b;subst d
 refine bE rfl ?_
 rw [← rI aA,← rI aU]
 have j:=e.len
 refine jK (fun k=>?_) fun n=>?_
 ·refine b9 (fun i=>⟨rfl,?_⟩) fun i=>⟨rfl,?_⟩
  ·have:=rJ e.words (BG aU) (by omega)
   simp [fA,this]
  ·have:=rJ f.words (BG aA) (by omega)
   unfold fA;rw [if_neg (by omega),if_neg (by omega)]
 ·unfold iU.bF.t
  refine cO (((dS aA).length:Int) - 1) (by omega) (by omega) (by omega) ?_
  refine⟨(dS aA).length+1,?_⟩
  refine Jy e f rfl rfl (by omega) ⟨rfl,rfl⟩ _ (Nat.le_refl _) ?_
  rw [List.drop_length,show(dS aA).length=(dS aU).length by omega,List.drop_length]
theorem pR{N aP bI:Int}{a L c:Nat}(b:N=(a:Int))(d:aP=(L:Int))(e:bI=(c:Int))(f:c≤1){aF:Int→Int→Prop}
  (g:aF ((a+L+c) % 18446744073709551616:Nat) ((a+L+c) / 18446744073709551616:Nat)):nS N aP bI aF:=by
 subst b;subst d;subst e
 exact⟨⟨by omega,by omega,by omega,by omega⟩,by simpa using g⟩
theorem vM{N aP bI:Int}{a L c:Nat}(d:N=(a:Int))(e:aP=(L:Int))(f:bI=(c:Int))(j:c≤1)(k:L < 18446744073709551616){aF:Int→Int→Prop}
  (g:aF ((a+18446744073709551616 - L - c) % 18446744073709551616:Nat) ((if a < L+c then 1 else 0:Nat):Int)):rD N aP bI aF:=by
 subst d;subst e;subst f
 refine⟨⟨by omega,by omega,by omega,by omega,by omega⟩,?_⟩
 have h:((a:Int) - (L:Int) - (c:Int)) % 18446744073709551616=(((a+18446744073709551616 - L - c) % 18446744073709551616:Nat):Int):=by omega
 have i:(if (a:Int) < (L:Int)+(c:Int) then(1:Int) else 0)=((if a < L+c then 1 else 0:Nat):Int):=by
  by_cases b:a < L+c
  ·rw [if_pos b,if_pos (by omega)];rfl
  ·rw [if_neg b,if_neg (by omega)];rfl
 rw [h,i];exact g
def vN(aA aU:List Nat):List Nat × Int:=if iT aA∧iT aU then fL (val aA+val aU) else([],2)
theorem Jz{Y:aD}{a:M}{c l bI aB:Nat}{a6:List Nat}{n:Nat}{Z:U}{aX:U}{aE:Nat}{b:Nat}(e:l=n)(f:Own Z aE a6)(h:bI=a6.length)(i:aB=a6.length)(p:a6.length=n+1)(j:b < 18446744073709551616)(q:n≤8192)(d:aX.size≤aE)(S:bA aX Z)
  (g:∀ v K,bA aX K→e2 aX K v (fL (val (a6.take n ++ [b])))→Y v K):iZ.cE.t Y a l c (some ⟨aE,0,none⟩) bI aB (b:Int) Z:=by
 subst e;subst h;subst i
 unfold iZ.cE.t
 refine mJ f (aC:=l) rfl rfl (by omega) rfl j fun aN=>?_
 have R:a6.set l b=a6.take l ++ [b]:=by
  have:=pS (aH:=a6) (aC:=l) (t:=b) (by omega)
  rw [← this,List.take_of_length_le (by rw [List.length_set];omega)]
 rw [R] at aN
 have k:bA aX (gQ Z ⟨aE,l,none⟩ (h0 b)):=S.set d
 have s:(a6.take l ++ [b]).length=l+1:=by simp;omega
 refine cA (tA (aN.mE (c:=a6.length) d (by omega)) (by omega)) fun v K ⟨m,o⟩=>?_
 subst m
 refine o.h9 fun a c r O=>?_
 exact g _ _ k (e2.back r O)
theorem JA{Y:aD}{a L:M}{c aV l m bI aB:Nat}{aA aU:List Nat}{aX:U}{aE:Nat}(r:cG aX a c aA)(aH:cG aX L aV aU)(j:l=aA.length)(k:m=aU.length)(f:aX.size≤aE)(o:aA.length≤8192)(u:bI=aA.length+1)(w:aB=aA.length+1)
  (eL:List Nat) (g:∀ v K,bA aX K→e2 aX K v (fL (val eL))→Y v K) :
  ∀ (S n b:Nat) (a6:List Nat) (Z:U),n+S=aA.length→b≤1→a6.length=aA.length+1→Own Z aE a6→bA aX Z→a6.take n ++ qM (aA.drop n) (aU.drop n) b=eL→
   iZ.gX.t Y (S+1) a l c L m aV (some ⟨aE,0,none⟩) bI aB (b:Int) (l:Int) (n:Int) Z:=by
 subst j;subst k
 intro S
 induction S with
 | zero=>
  intro n b a6 Z p h i e cM R
  unfold iZ.gX.t iZ.e0.t
  refine b9 (fun d=>absurd d (by omega)) fun _=>?_
  have q:n=aA.length:=by omega
  subst q
  rw [List.drop_length] at R
  refine Jz (n:=aA.length) rfl e (by omega) (by omega) i (by omega) o f cM ?_
  rw [show a6.take aA.length ++ [b]=eL from R];exact g
 | succ S bU=>
  intro n b a6 Z p h i e cM R
  have x:aA.getD n 0 < 18446744073709551616:=r.word n
  have y:aU.getD n 0 < 18446744073709551616:=aH.word n
  have step:a6.take n ++ qM (aA.drop n) (aU.drop n) b=(a6.set n ((aA.getD n 0+aU.getD n 0+b) % 18446744073709551616)).take (n+1) ++ qM (aA.drop (n+1)) (aU.drop (n+1)) ((aA.getD n 0+aU.getD n 0+b) / 18446744073709551616):=by
   rw [iK (aA:=aA) (aC:=n) (by omega),pS (by omega)]
   simp only [qM,z3,List.tail_drop,List.append_assoc,List.cons_append,List.nil_append]
  rw [step] at R
  unfold iZ.gX.t iZ.e0.t
  refine b9 (fun d=>?_) fun d=>absurd (by omega) d
  refine b9 (fun d=>?_) fun d=>?_
  ·refine fX (aH.aR cM) (aC:=n) rfl rfl (by omega) ?_
   refine fX (r.aR cM) (aC:=n) rfl rfl (by omega) ?_
   refine pR rfl rfl rfl h ?_
   refine mJ e (aC:=n) rfl (by omega) (by omega) rfl (by omega) fun aN=>?_
   refine cO ((n+1:Nat):Int) (by omega) (by omega) (by omega) ?_
   exact bU (n+1) _ _ _ (by omega) (by omega) (by rw [List.length_set];omega) aN (cM.set f) R
  ·refine fX (r.aR cM) (aC:=n) rfl rfl (by omega) ?_
   have s:aU.getD n 0=0:=by simp [List.getD,show aU.length≤n by omega]
   rw [s] at R
   refine pR (L:=0) rfl rfl rfl h ?_
   refine mJ e (aC:=n) rfl (by omega) (by omega) rfl (by omega) fun aN=>?_
   refine cO ((n+1:Nat):Int) (by omega) (by omega) (by omega) ?_
   exact bU (n+1) _ _ _ (by omega) (by omega) (by rw [List.length_set];omega) aN (cM.set f) R
theorem EW{Y:aD}{a L:M}{c aV l m:Nat}{aA aU:List Nat}{Z:U}(r:cG Z a c aA)(aH:cG Z L aV aU)(b:l=aA.length)(d:m=aU.length)(e:aA.length≤8192)(f:aU.length≤aA.length)
  (g:∀ v K,bA Z K→e2 Z K v (fL (val aA+val aU))→Y v K):iZ.bF.t Y a l c L m aV Z:=by
 subst b;subst d
 unfold iZ.bF.t
 refine cO ((aA.length+1:Nat):Int) (by omega) (by omega) (by omega) ?_
 refine nZ (aA.length+1) rfl rfl rfl rfl (by omega) fun aZ aN S=>?_
 refine⟨aA.length+1,?_⟩
 refine JA r aH rfl rfl (Nat.le_refl _) e rfl rfl (qM aA aU 0) ?_ aA.length 0 0 _ aZ (by omega) (by omega) (by simp) aN S (by simp)
 rw [EX aA aU 0 f];exact g
theorem JB{a L:M}{c aV l m:Nat}{aA aU:List Nat}{Z:U}(r:cG Z a c aA)(aH:cG Z L aV aU)(b:l=aA.length)(d:m=aU.length):
  aY iZ.id #[.slice a l c,.slice L m aV] Z fun v K=>bA Z K∧e2 Z K v (vN aA aU):=by
 refine iZ.ok ?_
 unfold iZ.t iZ.aL.t
 refine cA (nA r b) fun v K ⟨e,f⟩=>?_
 subst e;subst f
 refine c5 rfl ?_
 refine jL (fun g=>⟨bA.refl _,?_⟩) fun g=>?_
 ·unfold vN;rw [if_neg (fun h=>of_decide_eq_false g h.1)];exact e2.none
 refine cA (nA aH d) fun v K ⟨e,f⟩=>?_
 subst e;subst f
 refine c5 rfl ?_
 refine jL (fun i=>⟨bA.refl _,?_⟩) fun i=>?_
 ·unfold vN;rw [if_neg (fun h=>of_decide_eq_false i h.2)];exact e2.none
 have f1:=of_decide_eq_true g
 have f2:=of_decide_eq_true i
 unfold vN;rw [if_pos ⟨f1,f2⟩]
 unfold iZ.a0.t
 refine b9 (fun k=>?_) fun k=>?_
 ·refine EW aH r d b f2.1 (by omega) fun v K S j=>⟨S,?_⟩
  rw [Nat.add_comm];exact j
 ·exact EW r aH b d f1.1 (by omega) fun v K S j=>⟨S,j⟩
def vO(aA aU:List Nat):List Nat × Int:=if iT aA∧iT aU then(if val aA < val aU then([],3) else fL (val aA - val aU)) else([],2)
theorem JC{Y:aD}{a L:M}{c aV l m bI aB:Nat}{aA aU:List Nat}{aX:U}{aE:Nat}(r:cG aX a c aA)(aH:cG aX L aV aU)(k:l=aA.length)(o:m=aU.length)(f:aX.size≤aE)(z:aA.length≤8192)(A:bI=aA.length)(B:aB=aA.length)
  (eL:List Nat) (g:∀ v K,bA aX K→e2 aX K v (fL (val eL))→Y v K) :
  ∀ (S n b:Nat) (a6:List Nat) (Z:U),n+S=aA.length→b≤1→a6.length=aA.length→Own Z aE a6→bA aX Z→a6.take n ++ oR (aA.drop n) (aU.drop n) b=eL→
   jS.dW.t Y (S+1) a l c L m aV (some ⟨aE,0,none⟩) bI aB (b:Int) (l:Int) (n:Int) Z:=by
 subst k;subst o
 intro S
 induction S with
 | zero=>
  intro n b a6 Z p h j e cM R
  unfold jS.dW.t jS.c8.t
  refine b9 (fun d=>absurd d (by omega)) fun _=>?_
  have q:n=aA.length:=by omega
  subst q
  rw [List.drop_length] at R
  have s:a6=eL:=by rw [← R,← j,List.take_length];simp [oR]
  subst s
  unfold jS.bF.t
  refine cA (tA (e.mE (c:=aB) f (by omega)) (by omega)) fun v K ⟨u,w⟩=>?_
  subst u
  refine w.h9 fun a c r O=>?_
  exact g _ _ cM (e2.back r O)
 | succ S bU=>
  intro n b a6 Z p h j e cM R
  have C:aA.getD n 0 < 18446744073709551616:=r.word n
  have x:aU.getD n 0 < 18446744073709551616:=aH.word n
  have step:a6.take n ++ oR (aA.drop n) (aU.drop n) b=(a6.set n ((aA.getD n 0+18446744073709551616 - aU.getD n 0 - b) % 18446744073709551616)).take (n+1) ++ oR (aA.drop (n+1)) (aU.drop (n+1)) (if aA.getD n 0 < aU.getD n 0+b then 1 else 0):=by
   rw [iK (aA:=aA) (aC:=n) (by omega),pS (by omega)]
   simp only [oR,z3,List.tail_drop,List.append_assoc,List.cons_append,List.nil_append]
  rw [step] at R
  have i:(if aA.getD n 0 < aU.getD n 0+b then 1 else 0)≤1:=by split <;> omega
  unfold jS.dW.t jS.c8.t
  refine b9 (fun d=>?_) fun d=>absurd (by omega) d
  refine b9 (fun d=>?_) fun d=>?_
  ·refine fX (aH.aR cM) (aC:=n) rfl rfl (by omega) ?_
   refine fX (r.aR cM) (aC:=n) rfl rfl (by omega) ?_
   refine vM rfl rfl rfl h x ?_
   refine mJ e (aC:=n) rfl (by omega) (by omega) rfl (by omega) fun aN=>?_
   refine cO ((n+1:Nat):Int) (by omega) (by omega) (by omega) ?_
   exact bU (n+1) _ _ _ (by omega) i (by rw [List.length_set];omega) aN (cM.set f) R
  ·refine fX (r.aR cM) (aC:=n) rfl rfl (by omega) ?_
   have y:aU.getD n 0=0:=by simp [List.getD,show aU.length≤n by omega]
   rw [y] at R i
   refine vM (L:=0) rfl rfl rfl h (by omega) ?_
   refine mJ e (aC:=n) rfl (by omega) (by omega) rfl (by omega) fun aN=>?_
   refine cO ((n+1:Nat):Int) (by omega) (by omega) (by omega) ?_
   exact bU (n+1) _ _ _ (by omega) i (by rw [List.length_set];omega) aN (cM.set f) R
theorem JD{a L:M}{c aV l m:Nat}{aA aU:List Nat}{Z:U}(r:cG Z a c aA)(aH:cG Z L aV aU)(g:l=aA.length)(h:m=aU.length):
  aY jS.id #[.slice a l c,.slice L m aV] Z fun v K=>bA Z K∧e2 Z K v (vO aA aU):=by
 refine jS.ok ?_
 unfold jS.t jS.aL.t
 refine cA (nA r g) fun v K ⟨e,f⟩=>?_
 subst e;subst f
 refine c5 rfl ?_
 refine jL (fun i=>⟨bA.refl _,?_⟩) fun i=>?_
 ·unfold vO;rw [if_neg (fun b=>of_decide_eq_false i b.1)];exact e2.none
 refine cA (nA aH h) fun v K ⟨e,f⟩=>?_
 subst e;subst f
 refine c5 rfl ?_
 refine jL (fun j=>⟨bA.refl _,?_⟩) fun j=>?_
 ·unfold vO;rw [if_neg (fun b=>of_decide_eq_false j b.2)];exact e2.none
 have f1:=of_decide_eq_true i
 have f2:=of_decide_eq_true j
 unfold vO;rw [if_pos ⟨f1,f2⟩]
 unfold jS.a0.t
 refine cA (BR r aH g h) fun v K ⟨e,f⟩=>?_
 subst e;subst f
 refine bQ rfl ?_
 refine b9 (fun d=>⟨bA.refl _,?_⟩) fun d=>?_
 ·have:val aA < val aU:=by
   unfold fA at d;split at d
   ·assumption
   ·split at d <;> omega
  rw [if_pos this];exact e2.none
 ·have k:¬ val aA < val aU:=fun b=>by unfold fA at d;rw [if_pos b] at d;omega
  rw [if_neg k]
  subst g;subst h
  have n:=f1.1
  have o:aU.length≤aA.length:=Nat.le_of_not_lt fun b=>by
   have:=rJ r.words f2.2 b;omega
  refine nZ aA.length rfl rfl rfl rfl (by omega) fun aZ aN S=>?_
  unfold jS.cE.t
  refine⟨aA.length+1,?_⟩
  refine JC r aH rfl rfl (Nat.le_refl _) n rfl rfl (oR aA aU 0) ?_ aA.length 0 0 _ aZ (by omega) (by omega) (by simp) aN S (by simp)
  have:=BS aA aU 0 r.words aH.words o (by omega) (by omega)
  rw [show val (oR aA aU 0)=val aA - val aU by omega]
  exact fun v K S p=>⟨S,p⟩
def rR(p:Nat):List Nat→Nat→List Nat
 | [],c=>[c]
 | N :: aA,c=>(N*p % 18446744073709551616+c) :: rR p aA (N*p / 18446744073709551616)
theorem EY(p:Nat):∀ (aA:List Nat) (c:Nat),val (rR p aA c)=val aA*p+c
 | [],c=>by simp [rR,val]
 | N :: aA,c=>by
  simp only [rR,val,EY p aA,Nat.add_mul,Nat.mul_assoc]
  generalize N*p=aP;generalize val aA*p=bI;omega
theorem JE{S N:Nat}(a:S < 64):N / 2 / 2 ^ (63 - S)=N*2 ^ S / 18446744073709551616:=by
 have Z:N / 2 / 2 ^ (63 - S)=N / 2 ^ (64 - S):=by
  rw [Nat.div_div_eq_div_mul,← Nat.pow_succ',show(63 - S).succ=64 - S by omega]
 rw [Z,← mD a,Nat.mul_comm N,Nat.mul_div_mul_left _ _ (Nat.pow_pos (by decide))]
theorem EZ{S N c:Nat}(a:S < 64)(b:c < 2 ^ S):c ||| (N*2 ^ S % 18446744073709551616)=N*2 ^ S % 18446744073709551616+c:=by
 have R:N*2 ^ S % 18446744073709551616=2 ^ S*(N % 2 ^ (64 - S)):=by
  rw [← mD a,Nat.mul_comm N,Nat.mul_mod_mul_left]
 rw [R];exact EB b
theorem E0{S N:Nat}(a:N < 18446744073709551616):N*2 ^ S / 18446744073709551616 < 2 ^ S:=by
 rw [Nat.div_lt_iff_lt_mul (by decide),Nat.mul_comm]
 exact Nat.mul_lt_mul_of_pos_left a (Nat.pow_pos (by decide))
theorem E1{S N c:Nat}(a:S < 64)(d:c < 2 ^ S):N*2 ^ S % 18446744073709551616+c < 18446744073709551616:=by
 have R:N*2 ^ S % 18446744073709551616=2 ^ S*(N % 2 ^ (64 - S)):=by
  rw [← mD a,Nat.mul_comm N,Nat.mul_mod_mul_left]
 have aZ:N % 2 ^ (64 - S)+1≤2 ^ (64 - S):=Nat.mod_lt _ (Nat.pow_pos (by decide))
 have b:=Nat.mul_le_mul_left (2 ^ S) aZ
 rw [mD a,Nat.mul_add,Nat.mul_one] at b
 omega
theorem JF{Y:aD}{a:M}{c l m S bI aB:Nat}{aA:List Nat}{aX:U}{aE:Nat}(r:cG aX a c aA)(k:l=aA.length)(f:aX.size≤aE)(C:aA.length≤8192)(D:m≤8192)(b:S < 64)(E:bI=m+aA.length+1)(F:aB=m+aA.length+1)
  (eL:List Nat) (g:∀ v K,bA aX K→e2 aX K v (fL (val eL))→Y v K) :
  ∀ (aC n:Nat) (a6:List Nat) (Z:U),n+aC=aA.length→a6.length=m+aA.length+1→a6.getD (m+n) 0 < 2 ^ S→Own Z aE a6→bA aX Z→a6.take (m+n) ++ rR (2 ^ S) (aA.drop n) (a6.getD (m+n) 0)=eL→
   kN.bL.t Y (aC+1) a l c (m:Int) (S:Int) (some ⟨aE,0,none⟩) bI aB (l:Int) (n:Int) Z:=by
 subst k
 intro aC
 induction aC with
 | zero=>
  intro n a6 Z o p h d cM R
  unfold kN.bL.t kN.b7.t
  refine b9 (fun e=>absurd e (by omega)) fun _=>?_
  have q:n=aA.length:=by omega
  subst q
  rw [List.drop_length] at R
  have s:a6=eL:=by
   rw [← R];show a6=_ ++ [_]
   rw [← lS (by omega),List.take_of_length_le (by omega)]
  subst s
  unfold kN.a0.t
  refine cA (tA (d.mE (c:=aB) f (by omega)) (by omega)) fun v K ⟨u,w⟩=>?_
  subst u
  refine w.h9 fun a c r O=>?_
  exact g _ _ cM (e2.back r O)
 | succ aC bU=>
  intro n a6 Z o p h d cM R
  have x:aA.getD n 0 < 18446744073709551616:=r.word n
  have y:=E1 (N:=aA.getD n 0) b h
  have z:=E0 (S:=S) x
  have G:2 ^ S < 18446744073709551616:=BT b
  have A:=JE (N:=aA.getD n 0) b
  rw [iK (aA:=aA) (aC:=n) (by omega)] at R
  simp only [rR] at R
  unfold kN.bL.t kN.b7.t
  refine b9 (fun e=>?_) fun e=>absurd (by omega) e
  refine cO ((m+n:Nat):Int) (by omega) (by omega) (by omega) ?_
  refine fX (d.rd (c:=aB) (by omega)) (aC:=m+n) rfl (by omega) (by omega) ?_
  refine fX (r.aR cM) (aC:=n) rfl rfl (by omega) ?_
  refine qK rfl S _ (by omega) rfl rfl ?_
  refine zV rfl rfl (by omega) (Nat.mod_lt _ (by decide)) ?_
  rw [EZ b h]
  refine mJ d (aC:=m+n) rfl (by omega) (by omega) rfl y fun aN=>?_
  have i:=cM.set (v:=h0 (aA.getD n 0*2 ^ S % 18446744073709551616+a6.getD (m+n) 0)) (O:=m+n) f
  refine cO ((m+n:Nat):Int) (by omega) (by omega) (by omega) ?_
  refine cO ((m+n+1:Nat):Int) (by omega) (by omega) (by omega) ?_
  refine fX (r.aR i) (aC:=n) rfl rfl (by omega) ?_
  refine mI rfl 1 2 (by omega) (by decide) (by omega) ?_
  refine cO ((63 - S:Nat):Int) (by omega) (by omega) (by omega) ?_
  refine mI rfl (63 - S) _ (by omega) rfl rfl ?_
  rw [A]
  refine mJ aN (aC:=m+n+1) rfl (by rw [List.length_set];omega) (by rw [List.length_set];omega) rfl (by omega) fun B=>?_
  refine cO ((n+1:Nat):Int) (by omega) (by omega) (by omega) ?_
  have j:((a6.set (m+n) (aA.getD n 0*2 ^ S % 18446744073709551616+a6.getD (m+n) 0)).set (m+n+1) (aA.getD n 0*2 ^ S / 18446744073709551616)).getD (m+(n+1)) 0=aA.getD n 0*2 ^ S / 18446744073709551616:=by
   rw [← Nat.add_assoc];simp [List.getD,show m+n+1 < a6.length by omega]
  refine bU (n+1) _ _ (by omega) (by simp;omega) (by rw [j];exact z) B (i.set f) ?_
  rw [j,← R,← Nat.add_assoc,List.take_set_of_le (Nat.le_refl _),pS (by omega)]
  simp
def xE(aA:List Nat)(n:Int):List Nat × Int:=if n < 0 then([],1) else if iT aA then fL (val aA*2 ^ n.toNat) else([],2)
theorem JG{a:M}{c l:Nat}{aA:List Nat}{Z:U}(r:cG Z a c aA)(i:l=aA.length){n:Int}(q:n < 9223372036854775808):
  aY kN.id #[.slice a l c,.int .i64 n] Z fun v K=>bA Z K∧e2 Z K v (xE aA n):=by
 refine kN.ok ?_
 unfold kN.t kN.aL.t
 refine b9 (fun d=>⟨bA.refl _,?_⟩) fun d=>?_
 ·unfold xE;rw [if_pos d];exact e2.none
 unfold xE;rw [if_neg d]
 obtain⟨b,rfl⟩:∃ b:Nat,n=(b:Int):=⟨n.toNat,by omega⟩
 rw [Int.toNat_natCast]
 refine cA (nA r i) fun v K ⟨e,g⟩=>?_
 subst e;subst g;subst i
 refine c5 rfl ?_
 refine jL (fun h=>⟨bA.refl _,?_⟩) fun h=>?_
 ·rw [if_neg (of_decide_eq_false h)];exact e2.none
 have f:=of_decide_eq_true h
 rw [if_pos f]
 have j:=f.1
 refine eY (fun aX=>⟨bA.refl _,?_⟩) fun aX=>?_
 ·have R:aA=[]:=List.length_eq_zero_iff.mp (by omega)
  subst R
  have R:fL (val []*2 ^ b)=([],0):=by simp [val,fL,eP]
  rw [R];exact e2.none
 refine cA (Ez r rfl) fun v K ⟨e,g⟩=>?_
 subst e;subst g
 refine bQ rfl ?_
 have bW:val aA ≠ 0:=fun R=>by
  have:=pN.mpr R
  rw [f.2] at this;subst this;simp at aX
 have s:eB (val aA)≤524288:=by
  rw [E2,f.aK r.words];exact j
 refine cO (524288 - (eB (val aA):Int)) rfl (by omega) (by omega) ?_
 refine b9 (fun u=>⟨bA.refl _,?_⟩) fun w=>?_
 ·rw [JH (by rw [z2 b bW];omega)];exact e2.none
 have x:=qG bW
 refine⟨by decide,cO ((b / 64:Nat):Int) (n0 b 64) (by omega) (by omega) ?_⟩
 refine⟨by decide,j5 (tB b 64) ?_⟩
 refine cO ((b / 64+aA.length:Nat):Int) (by omega) (by omega) (by omega) ?_
 refine cO ((b / 64+aA.length+1:Nat):Int) (by omega) (by omega) (by omega) ?_
 refine nZ (b / 64+aA.length+1) rfl rfl rfl rfl (by omega) fun aZ aN S=>?_
 unfold kN.bF.t
 refine⟨aA.length+1,?_⟩
 have k:(List.replicate (b / 64+aA.length+1) 0).getD (b / 64+0) 0=0:=by
  simp only [List.getD,List.getElem?_replicate];split <;> rfl
 refine JF r rfl (Nat.le_refl _) j (by omega) (Nat.mod_lt _ (by decide)) rfl rfl (List.replicate (b / 64) 0 ++ rR (2 ^ (b % 64)) aA 0) ?_ aA.length 0 _ aZ (by omega) (by simp) (by rw [k];exact Nat.pow_pos (by decide)) aN S ?_
 ·have R:val (List.replicate (b / 64) 0 ++ rR (2 ^ (b % 64)) aA 0)=val aA*2 ^ b:=by
   have o:∀ m,val (List.replicate m 0)=0:=by
    intro m;induction m with
    | zero=>rfl
    | succ m bU=>rw [List.replicate_succ];simp [val,bU]
   rw [hX,o,EY,List.length_replicate,Nat.zero_add,Nat.add_zero,Nat.mul_comm,Nat.mul_assoc,← Nat.pow_add,show b % 64+64*(b / 64)=b by omega]
  rw [R];exact fun v K S p=>⟨S,p⟩
 ·rw [k];simp [List.take_replicate,show min (b / 64) (b / 64+aA.length+1)=b / 64 by omega]
def rS(p aE:Nat):List Nat→List Nat
 | []=>[]
 | N :: aA=>(N / p+aA.headD 0*aE % 18446744073709551616) :: rS p aE aA
theorem E3{p aE:Nat}(Z:p*aE=18446744073709551616)(a:0 < p)(b:0 < aE):∀ aA:List Nat,val (rS p aE aA)=val aA / p
 | []=>by simp [rS,val]
 | N :: aA=>by
  simp only [rS,val,E3 Z a b aA]
  have c:(N+18446744073709551616*val aA) / p=N / p+aE*val aA:=by
   rw [← Z,Nat.mul_assoc,Nat.add_mul_div_left _ _ a]
  rw [c]
  have cW:=zJ aA
  generalize aA.headD 0=cU at *
  generalize val aA.tail=t at *
  have d:val aA / p=cU / p+aE*t:=by
   rw [cW,← Z,Nat.mul_assoc,Nat.add_mul_div_left _ _ a]
  have e:cU*aE / 18446744073709551616=cU / p:=by rw [← Z,Nat.mul_div_mul_right _ _ b]
  have f:aE*(cU+18446744073709551616*t)=cU*aE+18446744073709551616*(aE*t):=by rw [Nat.mul_add,Nat.mul_left_comm aE,Nat.mul_comm aE cU]
  rw [d,cW,← e,f]
  generalize cU*aE=bI;generalize aE*t=aP;omega
theorem JI{S N aP:Nat}(a:S < 64)(b:N < 18446744073709551616):(N / 2 ^ S) ||| (aP*2 % 18446744073709551616*2 ^ (63 - S) % 18446744073709551616)=N / 2 ^ S+aP*2 ^ (64 - S) % 18446744073709551616:=by
 have c:aP*2 % 18446744073709551616*2 ^ (63 - S) % 18446744073709551616=aP*2 ^ (64 - S) % 18446744073709551616:=by
  rw [Nat.mod_mul_mod,Nat.mul_assoc,← Nat.pow_succ',show(63 - S).succ=64 - S by omega]
 have d:aP*2 ^ (64 - S) % 18446744073709551616=2 ^ (64 - S)*(aP % 2 ^ S):=by
  rw [← mD a,Nat.mul_comm aP,Nat.mul_comm (2 ^ S),Nat.mul_mod_mul_left]
 have e:N / 2 ^ S < 2 ^ (64 - S):=by
  rw [Nat.div_lt_iff_lt_mul (Nat.pow_pos (by decide)),Nat.mul_comm,mD a];exact b
 rw [c,d,EB e,Nat.add_comm]
theorem JJ{S N aP:Nat}(a:S < 64)(b:N < 18446744073709551616):N / 2 ^ S+aP*2 ^ (64 - S) % 18446744073709551616 < 18446744073709551616:=by
 have d:aP*2 ^ (64 - S) % 18446744073709551616=2 ^ (64 - S)*(aP % 2 ^ S):=by
  rw [← mD a,Nat.mul_comm aP,Nat.mul_comm (2 ^ S),Nat.mul_mod_mul_left]
 have e:N / 2 ^ S < 2 ^ (64 - S):=by
  rw [Nat.div_lt_iff_lt_mul (Nat.pow_pos (by decide)),Nat.mul_comm,mD a];exact b
 have aZ:aP % 2 ^ S+1≤2 ^ S:=Nat.mod_lt _ (Nat.pow_pos (by decide))
 have c:=Nat.mul_le_mul_left (2 ^ (64 - S)) aZ
 rw [Nat.mul_comm (2 ^ (64 - S)) (2 ^ S),mD a,Nat.mul_add,Nat.mul_one] at c
 omega
theorem JK{Y:aD}{a:M}{c l m S bI aB:Nat}{aA:List Nat}{aX:U}{aE:Nat}(r:cG aX a c aA)(j:l=aA.length)(d:aX.size≤aE)(A:aA.length≤8192)(h:S < 64)(B:m < aA.length)(C:bI=aA.length - m)(D:aB=aA.length - m)
  (eL:List Nat) (g:∀ v K,bA aX K→e2 aX K v (fL (val eL))→Y v K) :
  ∀ (aC n:Nat) (a6:List Nat) (Z:U),m+n+aC=aA.length→a6.length=aA.length - m→Own Z aE a6→bA aX Z→a6.take n ++ rS (2 ^ S) (2 ^ (64 - S)) (aA.drop (m+n))=eL→
   kV.bL.t Y (aC+1) a l c (m:Int) (S:Int) (some ⟨aE,0,none⟩) bI aB (bI:Int) (n:Int) Z:=by
 subst j
 intro aC
 induction aC with
 | zero=>
  intro n a6 Z k o e cM R
  unfold kV.bL.t kV.b7.t
  refine b9 (fun b=>absurd b (by omega)) fun _=>?_
  rw [List.drop_of_length_le (by omega)] at R
  have p:a6=eL:=by
   rw [← R];simp only [rS,List.append_nil]
   rw [List.take_of_length_le (by omega)]
  subst p
  unfold kV.a0.t
  refine cA (tA (e.mE (c:=aB) d (by omega)) (by omega)) fun v K ⟨q,s⟩=>?_
  subst q
  refine s.h9 fun a c r O=>?_
  exact g _ _ cM (e2.back r O)
 | succ aC bU=>
  intro n a6 Z k o e cM R
  have i:aA.getD (m+n) 0 < 18446744073709551616:=r.word _
  have E:aA.getD (m+n+1) 0 < 18446744073709551616:=r.word _
  have u:=JJ (S:=S) (aP:=aA.getD (m+n+1) 0) h i
  have F:aA.getD (m+n) 0 / 2 ^ S≤aA.getD (m+n) 0:=Nat.div_le_self _ _
  rw [iK (aA:=aA) (aC:=m+n) (by omega)] at R
  simp only [rS,z3] at R
  unfold kV.bL.t kV.b7.t
  refine b9 (fun b=>?_) fun b=>absurd (by omega) b
  refine cO ((m+n:Nat):Int) (by omega) (by omega) (by omega) ?_
  refine fX (r.aR cM) (aC:=m+n) rfl rfl (by omega) ?_
  refine mI rfl S _ (by omega) rfl rfl ?_
  refine mJ e (aC:=n) rfl (by omega) (by omega) rfl (by omega) fun aN=>?_
  have f:=cM.set (v:=h0 (aA.getD (m+n) 0 / 2 ^ S)) (O:=n) d
  refine cO ((m+n:Nat):Int) (by omega) (by omega) (by omega) ?_
  refine cO ((m+n+1:Nat):Int) (by omega) (by omega) (by omega) ?_
  refine b9 (fun w=>?_) fun w=>?_
  ·refine fX (aN.rd (c:=aB) (by rw [List.length_set];omega)) (aC:=n) rfl (by rw [List.length_set];omega) (by rw [List.length_set];omega) ?_
   have x:(a6.set n (aA.getD (m+n) 0 / 2 ^ S)).getD n 0=aA.getD (m+n) 0 / 2 ^ S:=by
    simp [List.getD,show n < a6.length by omega]
   rw [x]
   refine cO ((m+n:Nat):Int) (by omega) (by omega) (by omega) ?_
   refine cO ((m+n+1:Nat):Int) (by omega) (by omega) (by omega) ?_
   refine fX (r.aR f) (aC:=m+n+1) rfl rfl (by omega) ?_
   refine qK rfl 1 2 (by omega) (by decide) (by omega) ?_
   refine cO ((63 - S:Nat):Int) (by omega) (by omega) (by omega) ?_
   refine qK rfl (63 - S) _ (by omega) rfl rfl ?_
   refine zV rfl rfl (by omega) (Nat.mod_lt _ (by decide)) ?_
   rw [JI h i]
   refine mJ aN (aC:=n) rfl (by rw [List.length_set];omega) (by rw [List.length_set];omega) rfl u fun y=>?_
   refine cO ((n+1:Nat):Int) (by omega) (by omega) (by omega) ?_
   refine bU (n+1) _ _ (by omega) (by simp;omega) y (f.set d) ?_
   rw [← R,List.set_set,pS (by omega)]
   simp [Nat.add_assoc]
  ·refine cO ((n+1:Nat):Int) (by omega) (by omega) (by omega) ?_
   refine bU (n+1) _ _ (by omega) (by simp;omega) aN f ?_
   have z:aA.getD (m+n+1) 0=0:=by simp [List.getD,show aA.length≤m+n+1 by omega]
   rw [z] at R
   rw [← R,pS (by omega)]
   simp [Nat.add_assoc]
def tE(aA:List Nat)(n:Int):List Nat × Int:=if n < 0 then([],1) else if iT aA then fL (val aA / 2 ^ n.toNat) else([],2)
theorem E4{a:M}{c l:Nat}{aA:List Nat}{Z:U}(r:cG Z a c aA)(g:l=aA.length){n:Int}(o:n < 9223372036854775808):
  aY kV.id #[.slice a l c,.int .i64 n] Z fun v K=>bA Z K∧e2 Z K v (tE aA n):=by
 refine kV.ok ?_
 unfold kV.t kV.aL.t
 refine b9 (fun d=>⟨bA.refl _,?_⟩) fun d=>?_
 ·unfold tE;rw [if_pos d];exact e2.none
 unfold tE;rw [if_neg d]
 obtain⟨b,rfl⟩:∃ b:Nat,n=(b:Int):=⟨n.toNat,by omega⟩
 rw [Int.toNat_natCast]
 refine cA (nA r g) fun v K ⟨h,i⟩=>?_
 subst h;subst i;subst g
 refine c5 rfl ?_
 refine jL (fun e=>⟨bA.refl _,?_⟩) fun e=>?_
 ·rw [if_neg (of_decide_eq_false e)];exact e2.none
 have f:=of_decide_eq_true e
 rw [if_pos f]
 have j:=f.1
 have k:b=64*(b / 64)+b % 64:=by omega
 have cW:val aA / 2 ^ b=val (aA.drop (b / 64)) / 2 ^ (b % 64):=by
  rw [k2 r.words,Nat.div_div_eq_div_mul,← Nat.pow_add,← k]
 rw [cW]
 refine⟨by decide,cO ((b / 64:Nat):Int) (n0 b 64) (by omega) (by omega) ?_⟩
 refine⟨by decide,j5 (tB b 64) ?_⟩
 refine b9 (fun p=>⟨bA.refl _,?_⟩) fun q=>?_
 ·rw [List.drop_of_length_le (by omega)]
  have R:fL (val [] / 2 ^ (b % 64))=([],0):=by simp [val,fL,eP]
  rw [R];exact e2.none
 ·refine cO ((aA.length - b / 64:Nat):Int) (by omega) (by omega) (by omega) ?_
  refine nZ (aA.length - b / 64) rfl rfl rfl rfl (by omega) fun aZ aN S=>?_
  unfold kV.bF.t
  refine⟨aA.length - b / 64+1,?_⟩
  refine JK r rfl (Nat.le_refl _) j (Nat.mod_lt _ (by decide)) (by omega) rfl rfl (rS (2 ^ (b % 64)) (2 ^ (64 - b % 64)) (aA.drop (b / 64))) ?_ (aA.length - b / 64) 0 _ aZ (by omega) (by simp) aN S (by simp)
  rw [E3 (mD (Nat.mod_lt _ (by decide))) (Nat.pow_pos (by decide)) (Nat.pow_pos (by decide))]
  exact fun v K S m=>⟨S,m⟩
def xF(aA:List Nat)(n:Int):List Nat × Int:=if n < 0 then([],1) else if iT aA then fL (val aA % 2 ^ n.toNat) else([],2)
theorem JL{a:M}{c l:Nat}{aA:List Nat}{Z:U}(r:cG Z a c aA)(j:l=aA.length){n:Int}(E:n < 9223372036854775808):
  aY oS.id #[.slice a l c,.int .i64 n] Z fun v K=>bA Z K∧e2 Z K v (xF aA n):=by
 refine oS.ok ?_
 unfold oS.t oS.aL.t
 refine b9 (fun g=>⟨bA.refl _,?_⟩) fun g=>?_
 ·unfold xF;rw [if_pos g];exact e2.none
 unfold xF;rw [if_neg g]
 obtain⟨b,rfl⟩:∃ b:Nat,n=(b:Int):=⟨n.toNat,by omega⟩
 rw [Int.toNat_natCast]
 refine cA (nA r j) fun v K ⟨h,u⟩=>?_
 subst h;subst u;subst j
 refine c5 rfl ?_
 refine jL (fun i=>⟨bA.refl _,?_⟩) fun i=>?_
 ·rw [if_neg (of_decide_eq_false i)];exact e2.none
 have f:=of_decide_eq_true i
 rw [if_pos f]
 have F:=f.1
 have w:b=64*(b / 64)+b % 64:=by omega
 have k:b % 64 < 64:=Nat.mod_lt _ (by decide)
 refine⟨by decide,cO ((b / 64:Nat):Int) (n0 b 64) (by omega) (by omega) ?_⟩
 refine⟨by decide,j5 (tB b 64) ?_⟩
 refine nZ aA.length rfl rfl rfl rfl (by omega) fun aZ aN S=>?_
 refine zS aN (r.aR S) (by simp) rfl (Nat.le_refl _) S fun x d m=>?_
 have y:List.take (List.replicate aA.length 0).length aA ++ List.drop aA.length (List.replicate aA.length 0)=aA:=by simp
 rw [y] at d
 have o:∀ {a6:List Nat} {c bI:Nat} {e:U},cV dP K e (some ⟨K.size,0,none⟩) c a6→bI=a6.length→bA K e→val a6=val aA % 2 ^ b→oS.a0.t (fun v p=>bA K p∧e2 K p v (fL (val aA % 2 ^ b))) (some ⟨K.size,0,none⟩) bI c e:=by
  intro a6 c bI e z A B R
  unfold oS.a0.t
  refine cA (tA z A) fun v G ⟨h,q⟩=>?_
  subst h
  rw [R] at q
  refine q.h9 fun a c r O=>?_
  exact⟨B,e2.back r O⟩
 refine b9 (fun H=>?_) fun I=>?_
 ·refine fX (d.rd (c:=aA.length) (by omega)) (aC:=b / 64) rfl (by omega) (by omega) ?_
  have C:2 ^ (b % 64) < 18446744073709551616:=BT k
  have J:0 < 2 ^ (b % 64):=Nat.pow_pos (by decide)
  refine qK (n:=1) rfl (b % 64) _ (by omega) rfl rfl ?_
  rw [Nat.one_mul,Nat.mod_eq_of_lt C]
  refine dB (2 ^ (b % 64) - 1) (by omega) (by omega) ?_
  refine EA rfl rfl (r.word _) (by omega) ?_
  rw [Nat.and_two_pow_sub_one_eq_mod]
  have P:aA.getD (b / 64) 0 % 2 ^ (b % 64)≤aA.getD (b / 64) 0:=Nat.mod_le _ _
  have Q:=r.word (b / 64)
  refine mJ d (aC:=b / 64) rfl (by omega) (by omega) rfl (by omega) fun D=>?_
  refine cO ((b / 64+1:Nat):Int) (by omega) (by omega) (by omega) ?_
  refine vH rfl (by omega) ?_
  have s:=(D.mE (aX:=K) (c:=aA.length) (Nat.le_refl _) (by simp)).take (b / 64+1)
  rw [pS (by omega)] at s
  refine o s (by simp;omega) (m.set (Nat.le_refl _)) ?_
  rw [Br r.words (by omega) k,← w]
 ·refine o (d.mE (c:=aA.length) (Nat.le_refl _) rfl) (by omega) m ?_
  have aZ:=h7 r.words
  have x:2 ^ (64*aA.length)≤2 ^ b:=Nat.pow_le_pow_right (by decide) (by omega)
  rw [Nat.mod_eq_of_lt (by omega)]
def z4(v:Value)(a L:Nat):Prop:=v=.tuple #[.int .u64 (a:Int),.int .u64 (L:Int)]
theorem z4.elim{v:Value}{a L:Nat}{aF:Int→Int→Prop}(R:z4 v a L)(g:aF (a:Int) (L:Int)):
  cT v fun aP=>cQ aP fun b eH=>aW .u64 b fun N=>cQ eH fun c d=>aW .u64 c fun bI=>b5 d (aF N bI):=by
 subst R;exact g
theorem JM{N aP aS aM iV eH a L c aV:Nat}(b:N=aS+4294967296*aM)(d:aP=iV+4294967296*eH)(e:a=aS*iV)(f:L=aM*iV)(g:c=aS*eH)(h:aV=aM*eH):N*aP=a+4294967296*(L+c)+18446744073709551616*aV:=by
 subst b;subst d;subst e;subst f;subst g;subst h
 rw [Nat.add_mul,Nat.mul_add,Nat.mul_add]
 have i:aS*(4294967296*eH)=4294967296*(aS*eH):=Nat.mul_left_comm _ _ _
 have j:4294967296*aM*iV=4294967296*(aM*iV):=Nat.mul_assoc _ _ _
 have k:4294967296*aM*(4294967296*eH)=18446744073709551616*(aM*eH):=by
  rw [Nat.mul_assoc,Nat.mul_left_comm aM,← Nat.mul_assoc]
 rw [i,j,k];omega
theorem BU{N aP:Nat}(b:N < 18446744073709551616)(d:aP < 18446744073709551616)(Z:U):
  aY qN.id #[.int .u64 (N:Int),.int .u64 (aP:Int)] Z fun v K=>K=Z∧z4 v (N*aP / 18446744073709551616) (N*aP % 18446744073709551616):=by
 refine qN.ok ?_
 unfold qN.t qN.aL.t
 have g:=tC (a:=N % 4294967296) (L:=aP % 4294967296) (by omega) (by omega)
 have h:=tC (a:=N / 4294967296) (L:=aP % 4294967296) (by omega) (by omega)
 have i:=tC (a:=N % 4294967296) (L:=aP / 4294967296) (by omega) (by omega)
 have j:=tC (a:=N / 4294967296) (L:=aP / 4294967296) (by omega) (by omega)
 have R:=JM (N:=N) (aP:=aP) (aS:=N % 4294967296) (aM:=N / 4294967296) (iV:=aP % 4294967296) (eH:=aP / 4294967296) (by omega) (by omega) rfl rfl rfl rfl
 refine nC rfl b ?_
 refine mI rfl 32 4294967296 (by omega) (by decide) (by omega) ?_
 refine nC rfl d ?_
 refine mI rfl 32 4294967296 (by omega) (by decide) (by omega) ?_
 refine dB (N % 4294967296*(aP % 4294967296)) (by norm_cast) (by omega) ?_
 refine dB (N / 4294967296*(aP % 4294967296)) (by norm_cast) (by omega) ?_
 have aZ:((N % 4294967296:Nat):Int)*((aP / 4294967296:Nat):Int)=((N % 4294967296*(aP / 4294967296):Nat):Int):=by norm_cast
 have e:((N / 4294967296:Nat):Int)*((aP / 4294967296:Nat):Int)=((N / 4294967296*(aP / 4294967296):Nat):Int):=by norm_cast
 have f:(N:Int)*(aP:Int)=((N*aP:Nat):Int):=by norm_cast
 rw [aZ,e,f]
 generalize N % 4294967296*(aP % 4294967296)=a at *
 generalize N / 4294967296*(aP % 4294967296)=L at *
 generalize N % 4294967296*(aP / 4294967296)=c at *
 generalize N / 4294967296*(aP / 4294967296)=aV at *
 generalize N*aP=p at *
 refine mI rfl 32 4294967296 (by omega) (by decide) (by omega) ?_
 refine dB (L+a / 4294967296) (by omega) (by omega) ?_
 refine nC rfl (by omega) ?_
 refine mI rfl 32 4294967296 (by omega) (by decide) (by omega) ?_
 refine dB c rfl (by omega) ?_
 refine dB ((L+a / 4294967296) % 4294967296+c) (by omega) (by omega) ?_
 refine dB aV rfl (by omega) ?_
 refine dB (aV+(L+a / 4294967296) / 4294967296) (by omega) (by omega) ?_
 refine mI rfl 32 4294967296 (by omega) (by decide) (by omega) ?_
 refine dB (p / 18446744073709551616) (by omega) (by omega) ?_
 refine j5 (aP:=((p % 18446744073709551616:Nat):Int)) (by rw [wrap_u64];omega) ?_
 exact⟨rfl,rfl⟩
def mulL(aB:Nat):List Nat→Nat→List Nat
 | [],c=>[c]
 | N :: aA,c=>(N*aB+c) % 18446744073709551616 :: mulL aB aA ((N*aB+c) / 18446744073709551616)
theorem E5(aB:Nat):∀ (aA:List Nat) (c:Nat),val (mulL aB aA c)=val aA*aB+c
 | [],c=>by simp [mulL,val]
 | N :: aA,c=>by
  simp only [mulL,val,E5 aB aA,Nat.add_mul,Nat.mul_assoc]
  generalize N*aB=aP;generalize val aA*aB=bI;omega
theorem JN{Y:aD}{a:M}{c l aB bI aP:Nat}{aA:List Nat}{aX:U}{aE:Nat}(r:cG aX a c aA)(o:l=aA.length)(e:aX.size≤aE)(z:aA.length≤8192)(q:aB < 18446744073709551616)(A:bI=aA.length+1)(B:aP=aA.length+1)
  (eL:List Nat) (g:∀ v K,bA aX K→e2 aX K v (fL (val eL))→Y v K) :
  ∀ (aC n b:Nat) (a6:List Nat) (Z:U),n+aC=aA.length→a6.length=aA.length+1→b < 18446744073709551616→Own Z aE a6→bA aX Z→a6.take n ++ mulL aB (aA.drop n) b=eL→
   jT.bL.t Y (aC+1) a l c (aB:Int) (some ⟨aE,0,none⟩) bI aP (b:Int) (l:Int) (n:Int) Z:=by
 subst o
 intro aC
 induction aC with
 | zero=>
  intro n b a6 Z s j k f cM R
  unfold jT.bL.t jT.b7.t
  refine b9 (fun d=>absurd d (by omega)) fun _=>?_
  have u:n=aA.length:=by omega
  subst u
  rw [List.drop_length] at R
  unfold jT.a0.t
  refine mJ f (aC:=aA.length) rfl (by omega) (by omega) rfl k fun aN=>?_
  have m:a6.set aA.length b=eL:=by
   rw [← R];show _=_ ++ [b]
   rw [← pS (by omega),List.take_of_length_le (by rw [List.length_set];omega)]
  rw [m] at aN
  have C:eL.length=aA.length+1:=by rw [← m,List.length_set];exact j
  have w:=cM.set (v:=h0 b) (O:=aA.length) e
  refine cA (tA (aN.mE (c:=aP) e (by omega)) (by omega)) fun v K ⟨h,i⟩=>?_
  subst h
  refine i.h9 fun a c r O=>?_
  exact g _ _ w (e2.back r O)
 | succ aC bU=>
  intro n b a6 Z s j k f cM R
  have x:aA.getD n 0 < 18446744073709551616:=r.word n
  rw [iK (aA:=aA) (aC:=n) (by omega)] at R
  simp only [mulL] at R
  have D:aA.getD n 0*aB≤340282366920938463426481119284349108225:=Nat.mul_le_mul (show aA.getD n 0≤18446744073709551615 by omega) (show aB≤18446744073709551615 by omega)
  unfold jT.bL.t jT.b7.t
  refine b9 (fun d=>?_) fun d=>absurd (by omega) d
  refine fX (r.aR cM) (aC:=n) rfl rfl (by omega) ?_
  refine cA (BU x q _) fun v K ⟨h,i⟩=>?_
  subst h
  refine i.elim ?_
  generalize aA.getD n 0*aB=p at *
  refine pR (c:=0) rfl rfl rfl (by omega) ?_
  have y:(p % 18446744073709551616+b+0) % 18446744073709551616=(p+b) % 18446744073709551616:=by omega
  rw [y]
  refine mJ f (aC:=n) rfl (by omega) (by omega) rfl (by omega) fun aN=>?_
  refine dB ((p+b) / 18446744073709551616) (by omega) (by omega) ?_
  refine cO ((n+1:Nat):Int) (by omega) (by omega) (by omega) ?_
  refine bU (n+1) _ _ _ (by omega) (by simp;omega) (by omega) aN (cM.set e) ?_
  rw [← R,pS (by omega)];simp
def z5(aA:List Nat)(aB:Nat):List Nat × Int:=if iT aA then fL (val aA*aB) else([],2)
theorem JO{a:M}{c l aB:Nat}{aA:List Nat}{Z:U}(r:cG Z a c aA)(d:l=aA.length)(e:aB < 18446744073709551616):
  aY jT.id #[.slice a l c,.int .u64 (aB:Int)] Z fun v K=>bA Z K∧e2 Z K v (z5 aA aB):=by
 refine jT.ok ?_
 unfold jT.t jT.aL.t
 refine cA (nA r d) fun v K ⟨g,h⟩=>?_
 subst g;subst h;subst d
 refine c5 rfl ?_
 unfold z5
 refine jL (fun b=>⟨bA.refl _,?_⟩) fun b=>?_
 ·rw [if_neg (of_decide_eq_false b)];exact e2.none
 have f:=of_decide_eq_true b
 rw [if_pos f]
 have i:=f.1
 refine cO ((aA.length+1:Nat):Int) (by omega) (by omega) (by omega) ?_
 refine nZ (aA.length+1) rfl rfl rfl rfl (by omega) fun aZ aN S=>?_
 unfold jT.bF.t
 refine⟨aA.length+1,?_⟩
 refine JN r rfl (Nat.le_refl _) i e rfl rfl (mulL aB aA 0) ?_ aA.length 0 0 _ aZ (by omega) (by simp) (by omega) aN S (by simp)
 rw [E5,Nat.add_zero];exact fun v K S j=>⟨S,j⟩
theorem E6{aB:Nat}(a:aB < 18446744073709551616)(Z:U):aY j8.id #[.int .u64 (aB:Int)] Z fun v K=>bA Z K∧vD Z K v (aK aB):=by
 refine j8.ok ?_
 unfold j8.t j8.aL.t
 refine eY (fun aX=>⟨bA.refl _,?_⟩) fun aX=>?_
 ·have:aB=0:=by omega
  subst this;rw [eP];exact⟨none,0,rfl,cV.nil _ _⟩
 ·refine xG [aB] (by rfl) (by simp) (by simpa using a) fun aZ aN S=>⟨S,?_⟩
  have R:aK aB=[aB]:=by
   rw [kE (by omega),show aB / 18446744073709551616=0 by omega,eP,Nat.mod_eq_of_lt a]
  rw [R];exact⟨_,_,rfl,aN.mE (Nat.le_refl _) (by simp)⟩
theorem E7{N:Nat}(a:N < 18446744073709551616)(Z:U):aY rT.id #[.int .u64 (N:Int)] Z fun v K=>K=Z∧v=.int .i64 ((64 - eB N:Nat):Int):=by
 refine rT.ok ?_
 unfold rT.t rT.aL.t
 refine cA (Ey rfl a _) fun v K ⟨b,c⟩=>?_
 subst b;subst c
 refine bQ rfl ?_
 have:eB N≤64:=h8.mpr a
 exact cO ((64 - eB N:Nat):Int) (by omega) (by omega) (by omega) ⟨rfl,rfl⟩
structure oT(u32 eE eU fD aE r:Nat):Prop where
 rest:aE*eU+r=u32
 up:u32*4294967296+eE < (aE+1)*(eU*4294967296+fD)
theorem oT.z6{u32 eE eU fD aE r:Nat}(g:oT u32 eE eU fD aE r)(d:u32 < eU*4294967296+fD)(hu:eE < 4294967296)(b:4294967296≤aE∨aE*fD > 4294967296*r+eE):1≤aE∧oT u32 eE eU fD (aE - 1) (r+eU):=by
 have c:1≤aE:=by
  rcases b with Z | Z
  ·omega
  ·exact Nat.pos_of_ne_zero fun R=>by subst R;simp at Z
 obtain⟨p,rfl⟩:∃ p,aE=p+1:=⟨aE - 1,by omega⟩
 refine⟨c,?_,?_⟩
 ·have:=g.rest
  rw [Nat.add_mul,Nat.one_mul] at this
  rw [Nat.add_sub_cancel];omega
 ·rw [Nat.add_sub_cancel]
  rcases b with Z | Z
  ·have aZ:4294967296*(eU*4294967296+fD)≤(p+1)*(eU*4294967296+fD):=Nat.mul_le_mul_right _ Z
   generalize (p+1)*(eU*4294967296+fD)=bI at *;omega
  ·have aZ:=g.rest
   rw [Nat.mul_add,← Nat.mul_assoc]
   generalize (p+1)*eU=a at *
   generalize (p+1)*fD=L at *
   omega
theorem oT.fits{u32 eE eU fD aE r:Nat}(g:oT u32 eE eU fD aE r)(d:aE*fD≤4294967296*r+eE):aE=(u32*4294967296+eE) / (eU*4294967296+fD):=by
 have aZ:=g.rest
 have c:aE*(eU*4294967296+fD)≤u32*4294967296+eE:=by
  rw [Nat.mul_add,← Nat.mul_assoc]
  generalize aE*eU=a at *;generalize aE*fD=L at *;omega
 have b:=g.up
 have e:0 < eU*4294967296+fD:=Nat.pos_of_ne_zero fun R=>by rw [R] at b;simp at b
 refine(Nat.div_eq_of_lt_le ?_ ?_).symm
 ·exact c
 ·exact b
theorem JP{Y:aD}{bK aH eU fD eE Q u32:Nat}{Z:U}(e:u32 < eU*4294967296+fD)(hu:eE < 4294967296)(k:eU < 4294967296)(l:fD < 4294967296)
  (b:g2.b7.t Y (bK:Int) (aH:Int) (eE:Int) (Q:Int) (u32:Int) (((u32*4294967296+eE) / (eU*4294967296+fD):Nat):Int) Z) :
  ∀ (S aE r:Nat),oT u32 eE eU fD aE r→aE≤4294967297→r < 4294967296→4294967296≤r+(S+1)*eU→
   g2.gX.t Y (S+1) (bK:Int) (aH:Int) (eU:Int) (fD:Int) (eE:Int) (Q:Int) (r:Int) (u32:Int) (aE:Int) Z:=by
 intro S
 induction S with
 | zero=>
  intro aE r g i j f
  have step:(4294967296≤aE∨aE*fD > 4294967296*r+eE)→g2.eW.t Y (g2.gX.t Y 0) (bK:Int) (aH:Int) (eU:Int) (fD:Int) (eE:Int) (Q:Int) (r:Int) (u32:Int) (aE:Int) Z:=by
   intro a
   obtain⟨aZ,c⟩:=g.z6 e hu a
   unfold g2.eW.t
   refine dB (aE - 1) (by omega) (by omega) ?_
   refine dB (r+eU) (by omega) (by omega) ?_
   refine b9 (fun _=>?_) fun h=>absurd (by omega) h
   have d:(aE - 1)*fD≤4294967296*4294967295:=Nat.mul_le_mul (by omega) (by omega)
   rw [← c.fits (by omega)] at b;exact b
  unfold g2.gX.t g2.e0.t
  refine b9 (fun a=>step (Or.inl (by omega))) fun a=>?_
  have d:aE*fD≤4294967295*4294967295:=Nat.mul_le_mul (by omega) (by omega)
  refine dB (aE*fD) (by norm_cast) (by omega) ?_
  refine dB (4294967296*r) (by omega) (by omega) ?_
  refine dB (4294967296*r+eE) (by omega) (by omega) ?_
  refine b9 (fun a=>step (Or.inr (by omega))) fun a=>?_
  rw [← g.fits (by omega)] at b;exact b
 | succ S bU=>
  intro aE r g i j f
  have step:(4294967296≤aE∨aE*fD > 4294967296*r+eE)→g2.eW.t Y (g2.gX.t Y (S+1)) (bK:Int) (aH:Int) (eU:Int) (fD:Int) (eE:Int) (Q:Int) (r:Int) (u32:Int) (aE:Int) Z:=by
   intro a
   obtain⟨aZ,c⟩:=g.z6 e hu a
   unfold g2.eW.t
   refine dB (aE - 1) (by omega) (by omega) ?_
   refine dB (r+eU) (by omega) (by omega) ?_
   refine b9 (fun _=>?_) fun h=>?_
   ·have d:(aE - 1)*fD≤4294967296*4294967295:=Nat.mul_le_mul (by omega) (by omega)
    rw [← c.fits (by omega)] at b;exact b
   ·refine bU _ _ c (by omega) (by omega) ?_
    rw [Nat.add_mul,Nat.one_mul] at f
    omega
  unfold g2.gX.t g2.e0.t
  refine b9 (fun a=>step (Or.inl (by omega))) fun a=>?_
  have d:aE*fD≤4294967295*4294967295:=Nat.mul_le_mul (by omega) (by omega)
  refine dB (aE*fD) (by norm_cast) (by omega) ?_
  refine dB (4294967296*r) (by omega) (by omega) ?_
  refine dB (4294967296*r+eE) (by omega) (by omega) ?_
  refine b9 (fun a=>step (Or.inr (by omega))) fun a=>?_
  rw [← g.fits (by omega)] at b;exact b
theorem JQ{Y:aD}{bK aH eU fD eE c u32:Nat}{Z:U}(f:u32 < eU*4294967296+fD)(hu:eE < 4294967296)(l:eU < 4294967296)(m:fD < 4294967296)
  (b:g2.cE.t Y (bK:Int) (aH:Int) (eU:Int) (fD:Int) (u32:Int) (eE:Int) (c:Int) (((u32*4294967296+eE) / (eU*4294967296+fD):Nat):Int) Z) :
  ∀ (S aE r:Nat),oT u32 eE eU fD aE r→aE≤4294967297→r < 4294967296→4294967296≤r+(S+1)*eU→
   g2.jU.t Y (S+1) (bK:Int) (aH:Int) (eU:Int) (fD:Int) (u32:Int) (eE:Int) (c:Int) (aE:Int) (r:Int) Z:=by
 intro S
 induction S with
 | zero=>
  intro aE r g j k h
  have step:(4294967296≤aE∨aE*fD > 4294967296*r+eE)→g2.oU.t Y (g2.jU.t Y 0) (bK:Int) (aH:Int) (eU:Int) (fD:Int) (u32:Int) (eE:Int) (c:Int) (aE:Int) (r:Int) Z:=by
   intro a
   obtain⟨aZ,d⟩:=g.z6 f hu a
   unfold g2.oU.t
   refine dB (aE - 1) (by omega) (by omega) ?_
   refine dB (r+eU) (by omega) (by omega) ?_
   refine b9 (fun _=>?_) fun i=>absurd (by omega) i
   have e:(aE - 1)*fD≤4294967296*4294967295:=Nat.mul_le_mul (by omega) (by omega)
   rw [← d.fits (by omega)] at b;exact b
  unfold g2.jU.t g2.rU.t
  refine b9 (fun a=>step (Or.inl (by omega))) fun a=>?_
  have e:aE*fD≤4294967295*4294967295:=Nat.mul_le_mul (by omega) (by omega)
  refine dB (aE*fD) (by norm_cast) (by omega) ?_
  refine dB (4294967296*r) (by omega) (by omega) ?_
  refine dB (4294967296*r+eE) (by omega) (by omega) ?_
  refine b9 (fun a=>step (Or.inr (by omega))) fun a=>?_
  rw [← g.fits (by omega)] at b;exact b
 | succ S bU=>
  intro aE r g j k h
  have step:(4294967296≤aE∨aE*fD > 4294967296*r+eE)→g2.oU.t Y (g2.jU.t Y (S+1)) (bK:Int) (aH:Int) (eU:Int) (fD:Int) (u32:Int) (eE:Int) (c:Int) (aE:Int) (r:Int) Z:=by
   intro a
   obtain⟨aZ,d⟩:=g.z6 f hu a
   unfold g2.oU.t
   refine dB (aE - 1) (by omega) (by omega) ?_
   refine dB (r+eU) (by omega) (by omega) ?_
   refine b9 (fun _=>?_) fun i=>?_
   ·have e:(aE - 1)*fD≤4294967296*4294967295:=Nat.mul_le_mul (by omega) (by omega)
    rw [← d.fits (by omega)] at b;exact b
   ·refine bU _ _ d (by omega) (by omega) ?_
    rw [Nat.add_mul,Nat.one_mul] at h
    omega
  unfold g2.jU.t g2.rU.t
  refine b9 (fun a=>step (Or.inl (by omega))) fun a=>?_
  have e:aE*fD≤4294967295*4294967295:=Nat.mul_le_mul (by omega) (by omega)
  refine dB (aE*fD) (by norm_cast) (by omega) ?_
  refine dB (4294967296*r) (by omega) (by omega) ?_
  refine dB (4294967296*r+eE) (by omega) (by omega) ?_
  refine b9 (fun a=>step (Or.inr (by omega))) fun a=>?_
  rw [← g.fits (by omega)] at b;exact b
theorem oT.first{u32 eE eU fD:Nat}(aZ:0 < eU)(hu:eE < 4294967296):oT u32 eE eU fD (u32 / eU) (u32 % eU):=by
 refine⟨by rw [Nat.mul_comm];exact Nat.div_add_mod _ _,?_⟩
 have b:u32 < (u32 / eU+1)*eU:=by
  rw [Nat.add_mul,Nat.one_mul,Nat.mul_comm]
  have:=Nat.div_add_mod u32 eU
  have:=Nat.mod_lt u32 aZ
  omega
 rw [Nat.mul_add,← Nat.mul_assoc]
 generalize (u32 / eU+1)*eU=a at *
 omega
theorem E8{u32 eU fD:Nat}(aZ:2147483648≤eU)(a:u32 < eU*4294967296+fD)(b:fD < 4294967296):u32 / eU≤4294967297:=by
 have:u32 / eU < 4294967298:=by
  rw [Nat.div_lt_iff_lt_mul (by omega)];omega
 omega
theorem BV{n aP aE r:Nat}(R:aE*aP+r=n)(l:r < aP):n / aP=aE∧n % aP=r:=by
 have a:0 < aP:=Nat.lt_of_le_of_lt (Nat.zero_le _) l
 subst R
 rw [Nat.add_comm,Nat.mul_comm]
 exact⟨by rw [Nat.add_mul_div_left _ _ a,Nat.div_eq_of_lt l,Nat.zero_add],by rw [Nat.add_mul_mod_self_left,Nat.mod_eq_of_lt l]⟩
theorem JR{u32 eE c bK b8 d b e:Nat}(f:b8*bK+d=u32*4294967296+eE)(g:b*bK+e=d*4294967296+c):(b8*4294967296+b)*bK+e=u32*18446744073709551616+eE*4294967296+c:=by
 rw [Nat.add_mul,Nat.mul_right_comm]
 generalize b8*bK=a at *;generalize b*bK=L at *;omega
theorem JS{Y:aD}{bK aH eU fD eE c u32 b8 a b d:Nat}{Z:U}(h:bK=eU*4294967296+fD)(e:c < 4294967296)(i:eU < 4294967296)(j:2147483648≤eU)(f:fD < 4294967296)(bM:aH < 64)
  (o:b8*bK+a=u32*4294967296+eE) (p:a < bK) (q:b8 < 4294967296) (k:b*bK+d=a*4294967296+c) (l:d < bK) (r:b < 4294967296)
  (g:Y (.tuple #[.int .u64 ((b8*4294967296+b:Nat):Int),.int .u64 ((d / 2 ^ aH:Nat):Int)]) Z) :
  g2.cE.t Y (bK:Int) (aH:Int) (eU:Int) (fD:Int) (u32:Int) (eE:Int) (c:Int) (b8:Int) Z:=by
 have s:bK < 18446744073709551616:=by omega
 have m:=(BV k l).1
 unfold g2.cE.t
 refine j5 (aP:=((u32*4294967296 % 18446744073709551616:Nat):Int)) (by rw [wrap_u64];omega) ?_
 refine j5 (aP:=(((u32*4294967296+eE) % 18446744073709551616:Nat):Int)) (by rw [wrap_u64];omega) ?_
 refine j5 (aP:=((b8*bK % 18446744073709551616:Nat):Int)) (by rw [wrap_u64,← Int.natCast_mul];omega) ?_
 refine j5 (aP:=(a:Int)) (by rw [wrap_u64];generalize b8*bK=bI at *;omega) ?_
 have n:a / eU≤4294967297:=E8 j (by omega) f
 refine⟨by omega,dB (a / eU) (n0 _ _) (by omega) ?_⟩
 have u:a / eU*eU≤a:=Nat.div_mul_le_self _ _
 have v:a % eU=a - a / eU*eU:=by
  have:=Nat.div_add_mod a eU
  rw [Nat.mul_comm] at this;omega
 have w:=Nat.mod_lt a (show 0 < eU by omega)
 refine dB (a / eU*eU) (by rw [Int.natCast_mul]) (by omega) ?_
 refine dB (a % eU) (by omega) (by omega) ?_
 refine⟨1+1,?_⟩
 refine JP (by omega) e i f ?_ 1 _ _ (oT.first (by omega) e) n (by omega) (by omega)
 rw [← h,m]
 unfold g2.b7.t
 refine dB (b8*4294967296) (by omega) (by omega) ?_
 refine dB (b8*4294967296+b) (by omega) (by omega) ?_
 refine j5 (aP:=((a*4294967296 % 18446744073709551616:Nat):Int)) (by rw [wrap_u64];omega) ?_
 refine j5 (aP:=(((a*4294967296+c) % 18446744073709551616:Nat):Int)) (by rw [wrap_u64];omega) ?_
 refine j5 (aP:=((b*bK % 18446744073709551616:Nat):Int)) (by rw [wrap_u64,← Int.natCast_mul];omega) ?_
 refine j5 (aP:=(d:Int)) (by rw [wrap_u64];generalize b*bK=bI at *;omega) ?_
 exact mI rfl aH _ (by omega) rfl rfl g
theorem JT(dH a:Nat):dH*18446744073709551616+a / 4294967296*4294967296+a % 4294967296=dH*18446744073709551616+a:=by omega
theorem E9{a4 bY aP:Nat}(y:a4 < aP)(h:bY < 18446744073709551616)(i:aP < 18446744073709551616)(Z:U):
  aY g2.id #[.int .u64 (a4:Int),.int .u64 (bY:Int),.int .u64 (aP:Int)] Z fun v K=>K=Z∧z4 v ((a4*18446744073709551616+bY) / aP) ((a4*18446744073709551616+bY) % aP):=by
 refine g2.ok ?_
 unfold g2.t g2.aL.t
 refine eY (fun d=>absurd d (by omega)) fun d=>?_
 unfold g2.a0.t
 refine b9 (fun d=>absurd d (by omega)) fun d=>?_
 unfold g2.bF.t
 refine eY (fun aX=>?_) fun aX=>?_
 ·have R:a4=0:=by omega
  subst R
  have P:=Nat.div_le_self bY aP
  refine⟨by omega,dB (bY / aP) (n0 _ _) (by omega) ?_⟩
  refine⟨by omega,j5 (tB _ _) ?_⟩
  rw [Nat.zero_mul,Nat.zero_add];exact⟨rfl,rfl⟩
 ·refine cA (E7 i _) fun v K ⟨z,A⟩=>?_
  subst z;subst A
  refine bQ rfl ?_
  have Q:eB aP≤64:=h8.mpr i
  have T:=qG (show aP ≠ 0 by omega)
  obtain⟨aH,bM⟩:∃ aH,aH=64 - eB aP:=⟨_,rfl⟩
  rw [← bM]
  have V:aH≤63:=by omega
  refine dB aH rfl (by omega) ?_
  have f:0 < 2 ^ aH:=Nat.pow_pos (by decide)
  have j:aP*2 ^ aH < 18446744073709551616:=by
   have:=h8 (n:=aP*2 ^ aH) (S:=64)
   rw [z2 aH (by omega)] at this
   exact this.mp (by omega)
  have Pt:9223372036854775808≤aP*2 ^ aH:=Nat.le_of_not_lt fun k=>by
   have:=(h8 (n:=aP*2 ^ aH) (S:=63)).mpr k
   rw [z2 aH (by omega)] at this;omega
  have l:2 ^ aH*2 ^ (64 - aH)=18446744073709551616:=mD (by omega)
  have JU:a4*2 ^ aH+2 ^ aH≤aP*2 ^ aH:=by
   have:=Nat.mul_le_mul_right (2 ^ aH) y
   rw [Nat.succ_mul] at this;exact this
  have B:bY / 2 ^ (64 - aH) < 2 ^ aH:=by
   rw [Nat.div_lt_iff_lt_mul (Nat.pow_pos (by decide)),l];exact h
  have Pu:bY*2 ^ aH=bY / 2 ^ (64 - aH)*18446744073709551616+bY*2 ^ aH % 18446744073709551616:=by
   have R:bY*2 ^ aH / 18446744073709551616=bY / 2 ^ (64 - aH):=by
    rw [← l,Nat.mul_comm bY,Nat.mul_div_mul_left _ _ f]
   have:=Nat.div_add_mod (bY*2 ^ aH) 18446744073709551616
   rw [R] at this;omega
  have m:(a4*18446744073709551616+bY)*2 ^ aH=(a4*2 ^ aH+bY / 2 ^ (64 - aH))*18446744073709551616+bY*2 ^ aH % 18446744073709551616:=by
   rw [Nat.add_mul,Nat.mul_right_comm]
   generalize a4*2 ^ aH=a at *
   generalize bY*2 ^ aH=L at *
   omega
  have C:a4*2 ^ aH ||| bY / 2 ^ (64 - aH)=a4*2 ^ aH+bY / 2 ^ (64 - aH):=by
   rw [Nat.mul_comm,← Nat.two_pow_add_eq_or_of_lt B]
  refine qK rfl aH _ (by omega) rfl rfl ?_
  rw [Nat.mod_eq_of_lt j]
  refine mI rfl 32 4294967296 (by omega) (by decide) (by omega) ?_
  refine nC rfl j ?_
  refine qK rfl aH _ (by omega) rfl rfl ?_
  rw [Nat.mod_eq_of_lt (show a4*2 ^ aH < 18446744073709551616 by omega)]
  refine dB (64 - aH) (by omega) (by omega) ?_
  refine mI rfl (64 - aH) _ (by omega) rfl rfl ?_
  have D:bY / 2 ^ (64 - aH) < 18446744073709551616:=Nat.lt_of_le_of_lt (Nat.div_le_self _ _) h
  refine zV rfl rfl (by omega) D ?_
  rw [C]
  refine qK rfl aH _ (by omega) rfl rfl ?_
  have E:bY*2 ^ aH % 18446744073709551616 < 18446744073709551616:=Nat.mod_lt _ (by decide)
  refine mI rfl 32 4294967296 (by omega) (by decide) (by omega) ?_
  refine nC rfl E ?_
  have F:(a4*18446744073709551616+bY) / aP=((a4*2 ^ aH+bY / 2 ^ (64 - aH))*18446744073709551616+bY*2 ^ aH % 18446744073709551616) / (aP*2 ^ aH):=by
   rw [← m,Nat.mul_div_mul_right _ _ f]
  have G:(a4*18446744073709551616+bY) % aP=((a4*2 ^ aH+bY / 2 ^ (64 - aH))*18446744073709551616+bY*2 ^ aH % 18446744073709551616) % (aP*2 ^ aH) / 2 ^ aH:=by
   rw [← m,Nat.mul_mod_mul_right,Nat.mul_div_cancel _ f]
  have H:a4*2 ^ aH+bY / 2 ^ (64 - aH) < aP*2 ^ aH:=by omega
  rw [F,G]
  generalize a4*2 ^ aH+bY / 2 ^ (64 - aH)=dH at *
  generalize bY*2 ^ aH % 18446744073709551616=b at *
  generalize aP*2 ^ aH=bK at *
  have o:2147483648≤bK / 4294967296:=by omega
  have I:dH / (bK / 4294967296)≤4294967297:=E8 (fD:=bK % 4294967296) o (by omega) (by omega)
  refine⟨by omega,dB (dH / (bK / 4294967296)) (n0 _ _) (by omega) ?_⟩
  have Pv:dH / (bK / 4294967296)*(bK / 4294967296)≤dH:=Nat.div_mul_le_self _ _
  have Pw:dH % (bK / 4294967296)=dH - dH / (bK / 4294967296)*(bK / 4294967296):=by
   have:=Nat.div_add_mod dH (bK / 4294967296)
   rw [Nat.mul_comm] at this;omega
  have k:=Nat.mod_lt dH (show 0 < bK / 4294967296 by omega)
  refine dB (dH / (bK / 4294967296)*(bK / 4294967296)) (by rw [Int.natCast_mul]) (by omega) ?_
  refine dB (dH % (bK / 4294967296)) (by omega) (by omega) ?_
  refine⟨1+1,?_⟩
  refine JQ (by omega) (by omega) (by omega) (by omega) ?_ 1 _ _ (oT.first (by omega) (by omega)) I (by omega) (by omega)
  have p:bK / 4294967296*4294967296+bK % 4294967296=bK:=by omega
  rw [p]
  have e:0 < bK:=Nat.lt_of_le_of_lt (Nat.zero_le _) H
  have g:(dH*4294967296+b / 4294967296) / bK*bK+(dH*4294967296+b / 4294967296) % bK=dH*4294967296+b / 4294967296:=by rw [Nat.mul_comm];exact Nat.div_add_mod _ _
  have q:=Nat.mod_lt (dH*4294967296+b / 4294967296) e
  have r:(dH*4294967296+b / 4294967296) / bK < 4294967296:=by
   rw [Nat.div_lt_iff_lt_mul e];omega
  obtain⟨b8,s⟩:∃ b8,b8=(dH*4294967296+b / 4294967296) / bK:=⟨_,rfl⟩
  obtain⟨c,u⟩:∃ c,c=(dH*4294967296+b / 4294967296) % bK:=⟨_,rfl⟩
  rw [← s,← u] at g
  rw [← u] at q
  rw [← s] at r ⊢
  have w:(c*4294967296+b % 4294967296) / bK*bK+(c*4294967296+b % 4294967296) % bK=c*4294967296+b % 4294967296:=by rw [Nat.mul_comm];exact Nat.div_add_mod _ _
  have x:=Nat.mod_lt (c*4294967296+b % 4294967296) e
  have J:(c*4294967296+b % 4294967296) / bK < 4294967296:=by
   rw [Nat.div_lt_iff_lt_mul e];omega
  refine JS p.symm (by omega) (by omega) o (by omega) (by omega) g q r w x J ?_
  have el:=BV (JR g w) x
  rw [JT] at el
  rw [el.1,el.2];exact⟨rfl,rfl⟩
def tF(aA:List Nat)(aB:Nat):List Nat × Int × Int:=if iT aA then(if aB=0 then([],0,4) else(aK (val aA / aB),((val aA % aB:Nat):Int),0)) else([],0,2)
abbrev xH:iS (List Nat × Int × Int):=hN s8 (m6 .u64) (m6 .i64)
theorem xH.elim{aX Z:U}{v:Value}{p:List Nat × Int × Int}{aF:M→Nat→Nat→Int→Int→Prop}(a:xH aX Z v p)(g:∀ a c,cV dP aX Z a c p.1→aF a p.1.length c p.2.1 p.2.2):
  cT v fun aP=>cQ aP fun b eH=>aQ b fun a l c=>cQ eH fun d e=>aW .u64 d fun N=>cQ e fun f h=>aW .i64 f fun bI=>b5 h (aF a l c N bI):=by
 obtain⟨N,aP,bI,R,⟨a,c,i,r⟩,⟨j,_⟩,k,_⟩:=a
 subst R;subst i;subst j;subst k;exact g a c r
theorem JV{Y:aD}{a:M}{c l aB bI aP:Nat}{aA:List Nat}{aX:U}{aE:Nat}(r:cG aX a c aA)(m:l=aA.length)(i:aX.size≤aE)(z:aA.length≤8192)(o:aB < 18446744073709551616)(A:bI=aA.length)(B:aP=aA.length)
  (g:∀ v K,bA aX K→xH aX K v (aK (val aA / aB),((val aA % aB:Nat):Int),0)→Y v K) :
  ∀ (n le:Nat) (a6:List Nat) (Z:U),n≤aA.length→a6.length=aA.length→le < aB→Own Z aE a6→bA aX Z→val (a6.drop n)*aB+le=val (aA.drop n)→
   j9.bL.t Y (n+1) a l c (aB:Int) (some ⟨aE,0,none⟩) bI aP (le:Int) ((n:Int) - 1) Z:=by
 subst m
 intro n
 induction n with
 | zero=>
  intro le a6 Z p q b d cM R
  unfold j9.bL.t j9.b7.t
  refine b9 (fun e=>absurd e (by omega)) fun _=>?_
  rw [List.drop_zero,List.drop_zero] at R
  have j:=BV R b
  unfold j9.a0.t
  refine cA (tA (d.mE (c:=aP) i (by omega)) (by omega)) fun v K ⟨h,f⟩=>?_
  subst h
  have s:(aK (val a6)).length≤8192:=by
   rw [lR d.words]
   have:=vK a6;omega
  have el:fL (val a6)=(aK (val a6),0):=by unfold fL;rw [if_pos s]
  rw [el] at f
  refine f.h9 fun a c r _=>?_
  refine g _ _ cM ?_
  rw [j.1,j.2];exact⟨_,_,_,rfl,⟨_,_,rfl,r⟩,⟨rfl,by rw [xB];show 0≤(le:Int)∧(le:Int) < 18446744073709551616;omega⟩,rfl,(by decide:In .i64 0)⟩
 | succ n bU=>
  intro le a6 Z p q b d cM R
  have u:aA.getD n 0 < 18446744073709551616:=r.word n
  unfold j9.bL.t j9.b7.t
  refine b9 (fun e=>?_) fun e=>absurd (by omega) e
  refine fX (r.aR cM) (aC:=n) (by omega) rfl (by omega) ?_
  refine cA (E9 b u o _) fun v K ⟨h,f⟩=>?_
  subst h
  refine f.elim ?_
  have k:0 < aB:=Nat.lt_of_le_of_lt (Nat.zero_le _) b
  have w:(le*18446744073709551616+aA.getD n 0) / aB < 18446744073709551616:=by
   rw [Nat.div_lt_iff_lt_mul k];omega
  have C:=Nat.div_add_mod (le*18446744073709551616+aA.getD n 0) aB
  have x:=Nat.mod_lt (le*18446744073709551616+aA.getD n 0) k
  refine mJ d (aC:=n) (by omega) (by omega) (by omega) rfl w fun aN=>?_
  refine cO ((n:Int) - 1) (by omega) (by omega) (by omega) ?_
  refine bU _ _ _ (by omega) (by simp;omega) x aN (cM.set i) ?_
  have y:(a6.set n ((le*18446744073709551616+aA.getD n 0) / aB)).drop n=(le*18446744073709551616+aA.getD n 0) / aB :: a6.drop (n+1):=by
   rw [iK (by simp;omega),List.drop_set_of_lt (by omega)]
   simp [List.getD,show n < a6.length by omega]
  rw [y,iK (aA:=aA) (by omega)]
  simp only [val]
  rw [Nat.add_mul,Nat.mul_assoc,Nat.mul_comm _ aB]
  generalize aB*((le*18446744073709551616+aA.getD n 0) / aB)=D at *
  generalize (le*18446744073709551616+aA.getD n 0) % aB=bC at *
  generalize val (a6.drop (n+1))*aB=aO at *
  omega
theorem Fa{a:M}{c l aB:Nat}{aA:List Nat}{Z:U}(r:cG Z a c aA)(d:l=aA.length)(f:aB < 18446744073709551616):
  aY j9.id #[.slice a l c,.int .u64 (aB:Int)] Z fun v K=>bA Z K∧xH Z K v (tF aA aB):=by
 refine j9.ok ?_
 unfold j9.t j9.aL.t
 refine cA (nA r d) fun v K ⟨g,h⟩=>?_
 subst g;subst h;subst d
 refine c5 rfl ?_
 have nil:∀ N:Int,In .i64 N→xH K K (.tuple #[.slice none 0 0,.int .u64 0,.int .i64 N]) ([],0,N):=fun N O=>⟨_,_,_,rfl,⟨none,0,rfl,cV.nil _ _⟩,⟨rfl,(by decide:In .u64 0)⟩,rfl,O⟩
 refine jL (fun b=>⟨bA.refl _,?_⟩) fun b=>?_
 ·unfold tF;rw [if_neg (of_decide_eq_false b)];exact nil 2 (by decide)
 have e:=of_decide_eq_true b
 have i:=e.1
 unfold tF;rw [if_pos e]
 refine eY (fun aX=>⟨bA.refl _,?_⟩) fun aX=>?_
 ·rw [if_pos (by omega)];exact nil 4 (by decide)
 have j:¬ aB=0:=by omega
 simp only [if_neg j]
 refine nZ aA.length rfl rfl rfl rfl (by omega) fun aZ aN S=>?_
 unfold j9.bF.t
 refine cO ((aA.length:Int) - 1) rfl (by omega) (by omega) ?_
 refine⟨aA.length+1,?_⟩
 refine JV r rfl (Nat.le_refl _) i f rfl rfl (fun v K S k=>⟨S,k⟩) aA.length 0 _ aZ (Nat.le_refl _) (by simp) (by omega) aN S ?_
 rw [List.drop_length,List.drop_of_length_le (by simp)];simp [val]
section
variable {a L:M} {c aV l m:Nat} {aA aU:List Nat} {Z:U}
end
theorem Fb{f:FuncId}{args:Array Value}{Z:U}{c6:Value→Prop}(a:aY f args Z fun v K=>K=Z∧c6 v){T:Value→U→Prop}(g:∀ v,c6 v→T v Z):aY f args Z fun v K=>bA Z K∧T v K:=
 cA a fun v K ⟨R,aH⟩=>by subst R;exact⟨bA.refl _,g v aH⟩
theorem Fc{N:Int}(O:In .u64 N):N=((N.toNat:Nat):Int)∧N.toNat < 18446744073709551616:=by
 rw [xB] at O;omega
section
variable {a L:M} {c aV l m:Nat} {aA aU:List Nat} {Z:U} {N:Int}
theorem JW(a2 bK:Nat):In .i64 (fA a2 bK):=by unfold fA;split <;> (try split) <;> decide
end
theorem z7{Z:U}{aE off l:Nat}{a bH bC:List Nat}(aN:dZ dP Z aE (a ++ (bH ++ bC)))(b:a.length=off)(d:l=bH.length)(e:bH.length≤35184372088828){O:Int}{aC:Nat}(a4:O=(aC:Int))(f:aC < bH.length){aF:Int→Prop}
  (g:aF (bH.getD aC 0:Nat)):c7 (some ⟨aE,off,none⟩) l O 1 fun aE=>fG Z aE fun v=>aW .u64 v aF:=by
 have r:=aN.Bt (off:=off) (n:=bH.length) (c:=bH.length) e (by simp;omega) (Nat.le_refl _)
 have R:((a ++ (bH ++ bC)).drop off).take bH.length=bH:=by rw [← b,List.drop_left,List.take_left]
 rw [R] at r
 exact Ef r a4 d f g
def rV(bW:U)(aE:Nat)(aZ Z:U):Prop:=cD aE bW Z∧cD aE aZ Z
theorem Fe{aE p:Nat}{bW Z K:U}(S:cD aE bW Z)(a:cD p Z K)(g:bW.size≤p)(d:p ≠ aE):cD aE bW K:=
 ⟨Nat.le_trans S.le a.le,fun L b e=>(a.pre L (Nat.lt_of_lt_of_le b S.le) (by omega)).trans (S.pre L b e),fun m R=>by
  have c:=S.len m R
  have f:=a.pre aE (D7 c) (fun R=>d R.symm)
  unfold s3 at *;rw [f];exact c⟩
theorem z8{Z bW aZ:U}{aE off l:Nat}{a bH bC:List Nat}(aN:dZ dP Z aE (a ++ (bH ++ bC)))(d:a.length=off)(i:l=bH.length)(cM:rV bW aE aZ Z){O:Int}{aC:Nat}(a4:O=(aC:Int))(e:aC < bH.length){N:Int}{v:Nat}(f:N=(v:Int))(h:v < 18446744073709551616){aF:U→Prop}
  (g:∀ K,dZ dP K aE (a ++ (bH.set aC v ++ bC))→rV bW aE aZ K→aF K):c7 (some ⟨aE,off,none⟩) l O 1 fun aE=>cC Z aE (.int .u64 N) aF:=by
 refine Bu aN a4 (by omega) (by simp;omega) (by rw [f];rfl) h fun b c=>?_
 refine g _ ?_ ⟨cM.1.trans c,cM.2.trans c⟩
 have R:(a ++ (bH ++ bC)).set (off+aC) v=a ++ (bH.set aC v ++ bC):=by
  rw [← d,List.set_append_right _ _ (by omega),Nat.add_sub_cancel_left,List.set_append_left _ _ e]
 rw [R] at b;exact b
theorem BW{aA:List Nat}{O:Nat}:val (aA.take (O+1))=val (aA.take O)+2 ^ (64*O)*aA.getD O 0:=by
 by_cases a4:O < aA.length
 ·rw [lS a4,hX,List.length_take,Nat.min_eq_left (by omega)];simp [val]
 ·rw [List.take_of_length_le (by omega),List.take_of_length_le (by omega)]
  simp [List.getD,show aA.length≤O by omega]
theorem JX{a L:Nat}(b:a < 18446744073709551616)(b:L < 18446744073709551616):a*L≤340282366920938463426481119284349108225:=Nat.mul_le_mul (show a≤18446744073709551615 by omega) (show L≤18446744073709551615 by omega)
theorem Ff{bH aU:List Nat}{aC aB dH c aN dF fO t:Nat}(a:aC < bH.length)(aZ:c+aB*aU.getD aC 0+aN+t=bH.getD aC 0+18446744073709551616*(dF+fO))(R:val bH+aB*val (aU.take aC)=dH+(c+aN)*2 ^ (64*aC)):
  val (bH.set aC t)+aB*val (aU.take (aC+1))=dH+(dF+fO)*2 ^ (64*(aC+1)):=by
 have bM:=lQ (a6:=bH) (aC:=aC) (v:=t) a
 rw [BW,j2]
 generalize 2 ^ (64*aC)=P at *
 generalize bH.getD aC 0=bI at *
 have b:(c+aB*aU.getD aC 0+aN+t)*P=(bI+18446744073709551616*(dF+fO))*P:=by rw [aZ]
 have d:(c+aB*aU.getD aC 0+aN+t)*P=(c+aN)*P+aB*(P*aU.getD aC 0)+t*P:=by
  have:aB*(P*aU.getD aC 0)=aB*aU.getD aC 0*P:=by rw [Nat.mul_comm P,Nat.mul_assoc]
  rw [this,← Nat.add_mul,← Nat.add_mul];congr 1;omega
 have e:(bI+18446744073709551616*(dF+fO))*P=bI*P+(dF+fO)*(18446744073709551616*P):=by
  rw [Nat.add_mul,Nat.mul_comm 18446744073709551616,Nat.mul_assoc]
 rw [Nat.mul_add]
 omega
theorem Fg{aA:List Nat}{n:Nat}(Z:aA.length=n):aA.getD n 0=0:=by simp [List.getD,show aA.length≤n by omega]
theorem JY{Y:aD}{L:M}{c aV n aE off aB dH:Nat}{aU h bC:List Nat}{bW aZ:U}(aH:cG bW L aV aU)(q:aU.length=n)(f:h.length=off)(y:fU aE L)(r:aB < 18446744073709551616)(F:n < 35184372088820)
  (g:∀ Z aN bH,aN≤1→bH.length=n+1→dZ dP Z aE (h ++ (bH ++ bC))→rV bW aE aZ Z→val bH+aB*val aU=dH+aN*2 ^ (64*(n+1))→Y (.int .u64 (aN:Int)) Z) :
  ∀ (S aC b aN:Nat) (bH:List Nat) (Z:U),aC+S=n→bH.length=n+1→b < 18446744073709551616→aN≤1→dZ dP Z aE (h ++ (bH ++ bC))→rV bW aE aZ Z→val bH+aB*val (aU.take aC)=dH+(b+aN)*2 ^ (64*aC)→
   mK.bL.t Y (S+1) (some ⟨aE,off,none⟩) (n+1) c L n aV (aB:Int) (b:Int) (aN:Int) (n:Int) (aC:Int) Z:=by
 intro S
 induction S with
 | zero=>
  intro aC b aN bH Z z d s i e cM R
  have A:aC=n:=by omega
  subst A
  have B:bH.getD aC 0 < 18446744073709551616:=m7 (by decide) (fun N j=>e.ok N (List.mem_append_right _ (List.mem_append_left _ j))) aC
  unfold mK.bL.t mK.b7.t
  refine b9 (fun k=>absurd k (by omega)) fun _=>?_
  unfold mK.a0.t
  refine z7 e f d.symm (by omega) rfl (by omega) ?_
  refine vM rfl rfl rfl i s ?_
  refine z8 e f d.symm cM rfl (by omega) rfl (Nat.mod_lt _ (by decide)) fun l m o=>?_
  refine g l _ _ (by split <;> omega) (by simp [d]) m o ?_
  have u:=Ff (aU:=aU) (aB:=aB) (dH:=dH) (c:=b) (aN:=aN) (dF:=0) (fO:=if bH.getD aC 0 < b+aN then 1 else 0) (t:=(bH.getD aC 0+18446744073709551616 - b - aN) % 18446744073709551616) (show aC < bH.length by omega) (by rw [Fg q,Nat.mul_zero];split <;> omega) R
  rw [List.take_of_length_le (by omega),Nat.zero_add] at u
  exact u
 | succ S bU=>
  intro aC b aN bH Z z d s i e cM R
  have B:bH.getD aC 0 < 18446744073709551616:=m7 (by decide) (fun N j=>e.ok N (List.mem_append_right _ (List.mem_append_left _ j))) aC
  have w:=aH.word aC
  have C:=JX r w
  unfold mK.bL.t mK.b7.t
  refine b9 (fun _=>?_) fun k=>absurd (by omega) k
  refine fX (aH.cL y cM.1) (aC:=aC) rfl q.symm (by omega) ?_
  refine cA (BU w r Z) fun v K ⟨D,E⟩=>?_
  subst D
  refine E.elim ?_
  rw [Nat.mul_comm (aU.getD aC 0) aB]
  obtain⟨p,x⟩:∃ p,p=aB*aU.getD aC 0:=⟨_,rfl⟩
  rw [← x] at C ⊢
  refine pR (a:=p % 18446744073709551616) (L:=b) (c:=0) rfl rfl rfl (by decide) ?_
  refine dB (p / 18446744073709551616+(p % 18446744073709551616+b+0) / 18446744073709551616) (by omega) (by omega) ?_
  refine z7 e f d.symm (by omega) rfl (by omega) ?_
  refine vM rfl rfl rfl i (Nat.mod_lt _ (by decide)) ?_
  refine z8 e f d.symm cM rfl (by omega) rfl (Nat.mod_lt _ (by decide)) fun l m o=>?_
  refine cO ((aC+1:Nat):Int) (by omega) (by omega) (by omega) ?_
  refine bU (aC+1) _ _ _ l (by omega) (by simp [d]) (by omega) (by split <;> omega) m o (Ff (by omega) ?_ R)
  rw [← x]
  split <;> omega
theorem JZ{L:M}{c aV l m n aE off aB:Nat}{aU a bH bC:List Nat}{bW Z:U}(aH:cG bW L aV aU)(d:aU.length=n)(e:l=n+1)(f:m=n)(g:a.length=off)(h:fU aE L)(i:aB < 18446744073709551616)(j:n < 35184372088820)(k:bH.length=n+1)(o:dZ dP Z aE (a ++ (bH ++ bC)))(cM:cD aE bW Z):
  aY mK.id #[.slice (some ⟨aE,off,none⟩) l c,.slice L m aV,.int .u64 (aB:Int)] Z fun v K=>∃ (aN:Nat) (b:List Nat),aN≤1∧v=.int .u64 (aN:Int)∧b.length=n+1∧dZ dP K aE (a ++ (b ++ bC))∧rV bW aE Z K∧val b+aB*val aU=val bH+aN*2 ^ (64*(n+1)):=by
 subst e;subst f
 refine mK.ok ?_
 unfold mK.t mK.aL.t mK.bF.t
 refine⟨m+1,JY (aZ:=Z) (dH:=val bH) aH d g h i j (fun w aN p q r s u R=>⟨aN,p,q,rfl,r,s,u,R⟩) m 0 0 0 bH Z (by omega) k (by decide) (by decide) o ⟨cM,cD.refl _ _⟩ (by simp [val])⟩
theorem Fh{bH aU:List Nat}{aC T c dF t:Nat}(a:aC < bH.length)(aZ:c+bH.getD aC 0+aU.getD aC 0=t+18446744073709551616*dF)(R:val bH+c*2 ^ (64*aC)=T+val (aU.take aC)):
  val (bH.set aC t)+dF*2 ^ (64*(aC+1))=T+val (aU.take (aC+1)):=by
 have bM:=lQ (a6:=bH) (aC:=aC) (v:=t) a
 rw [BW,j2]
 generalize 2 ^ (64*aC)=P at *
 generalize bH.getD aC 0=bI at *
 have b:(c+bI+aU.getD aC 0)*P=(t+18446744073709551616*dF)*P:=by rw [aZ]
 have d:(c+bI+aU.getD aC 0)*P=c*P+bI*P+P*aU.getD aC 0:=by rw [Nat.add_mul,Nat.add_mul,Nat.mul_comm P]
 have e:(t+18446744073709551616*dF)*P=t*P+dF*(18446744073709551616*P):=by rw [Nat.add_mul,Nat.mul_comm 18446744073709551616,Nat.mul_assoc]
 omega
theorem J0{Y:aD}{L:M}{c aV n aE off T:Nat}{aU f bC:List Nat}{bW aZ:U}(aH:cG bW L aV aU)(o:aU.length=n)(e:f.length=off)(q:fU aE L)(v:n < 35184372088820)
  (g:∀ Z a bH,a≤1→bH.length=n+1→dZ dP Z aE (f ++ (bH ++ bC))→rV bW aE aZ Z→val bH+a*2 ^ (64*(n+1))=T+val aU→Y (.int .u64 (a:Int)) Z) :
  ∀ (S aC a:Nat) (bH:List Nat) (Z:U),aC+S=n→bH.length=n+1→a≤1→dZ dP Z aE (f ++ (bH ++ bC))→rV bW aE aZ Z→val bH+a*2 ^ (64*aC)=T+val (aU.take aC)→
   mL.bL.t Y (S+1) (some ⟨aE,off,none⟩) (n+1) c L n aV (a:Int) (n:Int) (aC:Int) Z:=by
 intro S
 induction S with
 | zero=>
  intro aC a bH Z r b h d cM R
  have s:aC=n:=by omega
  subst s
  have u:bH.getD aC 0 < 18446744073709551616:=m7 (by decide) (fun N i=>d.ok N (List.mem_append_right _ (List.mem_append_left _ i))) aC
  unfold mL.bL.t mL.b7.t
  refine b9 (fun j=>absurd j (by omega)) fun _=>?_
  unfold mL.a0.t
  refine z7 d e b.symm (by omega) rfl (by omega) ?_
  refine pR (L:=0) rfl rfl rfl h ?_
  refine z8 d e b.symm cM rfl (by omega) rfl (Nat.mod_lt _ (by decide)) fun k l m=>?_
  refine g k _ _ (by omega) (by simp [b]) l m ?_
  have p:=Fh (aU:=aU) (T:=T) (c:=a) (dF:=(bH.getD aC 0+0+a) / 18446744073709551616) (t:=(bH.getD aC 0+0+a) % 18446744073709551616) (show aC < bH.length by omega) (by rw [Fg o];omega) R
  rw [List.take_of_length_le (by omega)] at p
  exact p
 | succ S bU=>
  intro aC a bH Z r b h d cM R
  have u:bH.getD aC 0 < 18446744073709551616:=m7 (by decide) (fun N i=>d.ok N (List.mem_append_right _ (List.mem_append_left _ i))) aC
  have w:=aH.word aC
  unfold mL.bL.t mL.b7.t
  refine b9 (fun _=>?_) fun j=>absurd (by omega) j
  refine z7 d e b.symm (by omega) rfl (by omega) ?_
  refine fX (aH.cL q cM.1) (aC:=aC) rfl o.symm (by omega) ?_
  refine pR rfl rfl rfl h ?_
  refine z8 d e b.symm cM rfl (by omega) rfl (Nat.mod_lt _ (by decide)) fun k l m=>?_
  refine cO ((aC+1:Nat):Int) (by omega) (by omega) (by omega) ?_
  exact bU (aC+1) _ _ k (by omega) (by simp [b]) (by omega) l m (Fh (by omega) (by omega) R)
theorem Fi{L:M}{c aV l m n aE off:Nat}{aU a bH bC:List Nat}{bW Z:U}(aH:cG bW L aV aU)(e:aU.length=n)(f:l=n+1)(g:m=n)(h:a.length=off)(i:fU aE L)(j:n < 35184372088820)(k:bH.length=n+1)(o:dZ dP Z aE (a ++ (bH ++ bC)))(cM:cD aE bW Z):
  aY mL.id #[.slice (some ⟨aE,off,none⟩) l c,.slice L m aV] Z fun v K=>∃ (b:Nat) (d:List Nat),b≤1∧v=.int .u64 (b:Int)∧d.length=n+1∧dZ dP K aE (a ++ (d ++ bC))∧rV bW aE Z K∧val d+b*2 ^ (64*(n+1))=val bH+val aU:=by
 subst f;subst g
 refine mL.ok ?_
 unfold mL.t mL.aL.t mL.bF.t
 refine⟨m+1,J0 (aZ:=Z) (T:=val bH) aH e h i j (fun w aN p q r s u R=>⟨aN,p,q,rfl,r,s,u,R⟩) m 0 0 bH Z (by omega) k (by decide) o ⟨cM,cD.refl _ _⟩ (by simp [val])⟩
def rW(a4 bY aV:Nat):Nat:=if aV≤a4 then 18446744073709551615 else(a4*18446744073709551616+bY) / aV
theorem J1{a4 bY aV:Nat}(a:bY < 18446744073709551616):rW a4 bY aV < 18446744073709551616:=by
 unfold rW
 split
 ·decide
 ·rw [Nat.div_lt_iff_lt_mul (by omega)]
  have:(a4+1)*18446744073709551616≤aV*18446744073709551616:=Nat.mul_le_mul_right _ (by omega)
  omega
theorem J2{a4 bY aV:Nat}(a:bY < 18446744073709551616)(b:aV < 18446744073709551616)(Z:U):
  aY tG.id #[.int .u64 (a4:Int),.int .u64 (bY:Int),.int .u64 (aV:Int)] Z fun v K=>K=Z∧v=.int .u64 ((rW a4 bY aV:Nat):Int):=by
 refine tG.ok ?_
 unfold tG.t tG.aL.t
 refine b9 (fun c=>?_) fun c=>?_
 ·unfold rW;rw [if_pos (by omega)];exact⟨rfl,rfl⟩
 ·refine cA (E9 (by omega) a b Z) fun v K ⟨R,d⟩=>?_
  subst R
  refine d.elim ?_
  unfold rW;rw [if_neg (by omega)];exact⟨rfl,rfl⟩
theorem J3{Y:aD}{u:M→Nat→Nat→M→Nat→Nat→Int→M→Nat→Nat→Int→U→Prop}{L:M}{c hJ aV w n a d l x aC dH Q z9:Nat}{aU m bC eO:List Nat}{bW aZ:U}(aH:cG bW L aV aU)(y:aU.length=n)(z:m.length=aC)(A:fU a L)(E:bW.size≤d)(h:d ≠ a)(B:n < 35184372088820)(Px:0 < val aU)
  (Py:val aU*Q+z9=dH) (Pz:z9 < val aU) (PA:dH < 2 ^ (64*(n+1))) (PB:aC < eO.length) (PC:l=eO.length) (F:Q < 18446744073709551616)
  (g:∀ b bH,bH.length=n+1→dZ dP b a (m ++ (bH ++ bC))→cD a bW b→val bH=z9→dZ dP b d (eO.set aC Q)→iW.e0.t Y u (some ⟨a,0,none⟩) w hJ L n aV (n:Int) (some ⟨d,0,none⟩) l x (aC:Int) b) :
  ∀ (S aB:Nat) (bH:List Nat) (Z:U),Q+(S+1)=aB→aB < 18446744073709551616→bH.length=n+1→dZ dP Z a (m ++ (bH ++ bC))→dZ dP Z d eO→cD a bW Z→val bH+aB*val aU=dH+2 ^ (64*(n+1))→
   iW.g8.t Y u (S+1) (some ⟨a,0,none⟩) w hJ L n aV (n:Int) (some ⟨d,0,none⟩) l x (aC:Int) (aB:Int) (some ⟨a,aC,none⟩) (n+1) c Z:=by
 intro S
 induction S with
 | zero=>
  intro aB bH Z C G o p q cM R
  unfold iW.g8.t iW.iL.t
  refine dB (aB - 1) (by omega) (by omega) ?_
  refine cA (Fi aH y rfl rfl z A B o p cM) fun v b ⟨e,i,H,cW,j,k,f,I⟩=>?_
  subst cW
  refine bQ rfl ?_
  have J:Words i:=fun N P=>k.ok N (List.mem_append_right _ (List.mem_append_left _ P))
  have T:=h7 J
  rw [j] at T
  have V:aB*val aU=val aU*Q+val aU:=by rw [← C,Nat.add_mul,Nat.mul_comm Q];omega
  have r:e=1:=by
   rcases Nat.lt_or_ge e 1 with aX | aX
   ·have:e=0:=by omega
    subst this
    omega
   ·omega
  subst r
  refine eY (fun _=>?_) fun s=>absurd rfl s
  have Pt:dZ dP b d eO:=q.cL h f.2
  have Pu:aB - 1=Q:=by omega
  rw [Pu]
  refine zN Pt (aC:=aC) (v:=Q) rfl (by omega) (by omega) rfl F fun Pv D=>?_
  exact g _ i j (k.cL (fun R=>h R.symm) D) (Fe f.1 D E h) (by omega) Pv
 | succ S bU=>
  intro aB bH Z C G o p q cM R
  unfold iW.g8.t iW.iL.t
  refine dB (aB - 1) (by omega) (by omega) ?_
  refine cA (Fi aH y rfl rfl z A B o p cM) fun v b ⟨e,i,H,cW,j,k,f,I⟩=>?_
  subst cW
  refine bQ rfl ?_
  have V:aB*val aU=(aB - 1)*val aU+val aU:=by
   have:aB=aB - 1+1:=by omega
   conv=>lhs;rw [this,Nat.add_mul,Nat.one_mul]
  have PD:dH < (aB - 1)*val aU:=by
   have Pw:(Q+1)*val aU≤(aB - 1)*val aU:=Nat.mul_le_mul_right _ (by omega)
   rw [Nat.add_mul,Nat.one_mul,Nat.mul_comm] at Pw
   omega
  have r:e=0:=by
   rcases Nat.lt_or_ge e 1 with aX | aX
   ·omega
   ·have:e=1:=by omega
    subst this
    omega
  subst r
  refine eY (fun s=>absurd s (by decide)) fun _=>?_
  exact bU (aB - 1) i b (by omega) (by omega) j k (q.cL h f.2) f.1 (by omega)
theorem Fj{a:List Nat}{S V:Nat}(d:V≤2 ^ (64*S))(Z:val a < V)(b:Words a):val (a.drop S)=0∧val (a.take S)=val a:=by
 have R:val a=val (a.take S)+2 ^ (64*S)*val (a.drop S):=by
  by_cases c:S≤a.length
  ·conv=>lhs;rw [← List.take_append_drop S a]
   rw [hX,List.length_take,Nat.min_eq_left c]
  ·rw [List.take_of_length_le (by omega),List.drop_of_length_le (by omega)];simp [val]
 have aX:val (a.drop S)=0:=by
  rw [k2 b];exact Nat.div_eq_of_lt (by omega)
 rw [aX] at R
 exact⟨aX,by omega⟩
theorem Aa{aA:List Nat}(a:Words aA){m:Nat}(b:aA.length=m+1):val aA / 2 ^ (64*m)=aA.getD m 0:=by
 rw [← k2 a,iK (by omega),List.drop_of_length_le (by omega)];simp [val]
theorem J4{aA:List Nat}(a:Words aA){m:Nat}(b:aA.length=m+2):val aA / 2 ^ (64*m)=aA.getD m 0+18446744073709551616*aA.getD (m+1) 0:=by
 rw [← k2 a,iK (by omega),iK (by omega),List.drop_of_length_le (by omega)];simp [val]
theorem J5{bH aU:List Nat}{n dH:Nat}(c:Words bH)(d:Words aU)(h:bH.length=n+1)(i:aU.length=n)(j:0 < n)(k:aU.getD (n - 1) 0 ≠ 0)(e:val bH=dH)(a:dH < 18446744073709551616*val aU):
  dH / val aU≤rW (bH.getD n 0) (bH.getD (n - 1) 0) (aU.getD (n - 1) 0):=by
 have f:0 < val aU:=by
  rcases Nat.eq_zero_or_pos (val aU) with R | R
  ·rw [R] at a;omega
  ·exact R
 unfold rW
 split
 ·have:dH / val aU < 18446744073709551616:=by rw [Nat.div_lt_iff_lt_mul f];exact a
  omega
 ·have b:=Aa d (m:=n - 1) (by omega)
  have g:=J4 c (m:=n - 1) (by omega)
  rw [show n - 1+1=n by omega,e] at g
  rw [show bH.getD n 0*18446744073709551616+bH.getD (n - 1) 0=dH / 2 ^ (64*(n - 1)) by omega,← b,Nat.div_div_eq_div_mul]
  refine Nat.div_le_div_left (Nat.mul_div_le _ _) ?_
  rw [b];exact Nat.mul_pos (Nat.pow_pos (by decide)) (by omega)
theorem J6{Y:aD}{L:M}{aV n d f b hJ h1:Nat}{aU g7:List Nat}{bW:U}(aH:cG bW L aV aU)(l:aU.length=n)(A:fU d L)(Pv:bW.size≤f)(u:f ≠ d)(Pw:n < 35184372088820)(PX:0 < n)(Px:aU.getD (n - 1) 0 ≠ 0)(Qg:b < 35184372088820)(Qh:b≤hJ)(Qi:n < b)
  (PY:val g7=h1) (Qj:g7.length=b) (Py:Words g7)
  (post:∀ Z a eO,a.length=b→eO.length=b - n→dZ dP Z d a→dZ dP Z f eO→cD d bW Z→val a=h1 % val aU→val eO=h1 / val aU→Y (.slice (some ⟨f,0,none⟩) (b - n) (b - n)) Z) :
  ∀ (aC:Nat) (a eO:List Nat) (Z:U),aC≤b - n→a.length=b→eO.length=b - n→dZ dP Z d a→dZ dP Z f eO→cD d bW Z→a.take aC=g7.take aC→val (a.drop aC) < val aU→val (eO.drop aC)*val aU+val (a.drop aC)=h1 / 2 ^ (64*aC)→
   iW.dW.t Y (aC+1) (some ⟨d,0,none⟩) b hJ L n aV (n:Int) (some ⟨f,0,none⟩) (b - n) (b - n) ((aC:Int) - 1) Z:=by
 have Pz:=h7 aH.words
 rw [l] at Pz
 have o:0 < val aU:=by
  rcases Nat.eq_zero_or_pos (val aU) with R | R
  ·exfalso
   have:=Aa aH.words (m:=n - 1) (by omega)
   rw [R,Nat.zero_div] at this;exact Px this.symm
  ·exact R
 intro aC
 induction aC with
 | zero=>
  intro a eO Z PZ w x p B cM _ y R
  unfold iW.dW.t iW.c8.t
  refine b9 (fun C=>absurd C (by omega)) fun _=>?_
  rw [List.drop_zero] at y R
  rw [List.drop_zero,Nat.mul_zero,Nat.pow_zero,Nat.div_one] at R
  unfold iW.bF.t
  refine post Z a eO w x p B cM ?_ ?_
  ·rw [← R,Nat.mul_comm,Nat.mul_add_mod,Nat.mod_eq_of_lt y]
  ·rw [← R,Nat.mul_comm,Nat.mul_add_div o,Nat.div_eq_of_lt y,Nat.add_zero]
 | succ aC bU=>
  intro a eO Z PZ w x p B cM PA y R
  have PB:Words a:=p.ok
  unfold iW.dW.t iW.c8.t
  refine b9 (fun _=>?_) fun C=>absurd (by omega) C
  unfold iW.eW.t
  have P0:(((aC+1:Nat):Int) - 1)=(aC:Int):=by omega
  rw [P0]
  obtain⟨e,D⟩:∃ e,e=a.take aC:=⟨_,rfl⟩
  obtain⟨bH,z⟩:∃ bH,bH=(a.drop aC).take (n+1):=⟨_,rfl⟩
  obtain⟨bC,E⟩:∃ bC,bC=a.drop (aC+(n+1)):=⟨_,rfl⟩
  have PC:a=e ++ (bH ++ bC):=by
   rw [D,z,E,← List.drop_drop,List.take_append_drop,List.take_append_drop]
  have q:e.length=aC:=by rw [D,List.length_take];omega
  have PD:bH.length=n+1:=by rw [z,List.length_take,List.length_drop];omega
  have Qk:bC.length=b - (aC+(n+1)):=by rw [E,List.length_drop];omega
  have Ql:val (a.drop aC)=a.getD aC 0+18446744073709551616*val (a.drop (aC+1)):=lE a aC
  have Qm:a.getD aC 0 < 18446744073709551616:=m7 (by decide) PB aC
  have F:val (a.drop aC) < 18446744073709551616*val aU:=by omega
  have PE:val (a.drop aC) < 2 ^ (64*(n+1)):=by
   rw [j2]
   calc val (a.drop aC) < 18446744073709551616*val aU:=F
    _≤18446744073709551616*2 ^ (64*n):=Nat.mul_le_mul_left _ (Nat.le_of_lt Pz)
  have PF:Words (a.drop aC):=fun N i=>PB N (List.mem_of_mem_drop i)
  have PG:=Fj (Nat.le_refl _) PE PF
  have PH:val bH=val (a.drop aC):=by rw [z];exact PG.2
  have PI:Words bH:=fun N i=>PF N (by rw [z] at i;exact List.mem_of_mem_take i)
  have P1:val bC=0:=by
   have:=PG.1
   rw [List.drop_drop] at this
   rw [E];exact this
  have PJ:cG Z (some ⟨d,0,none⟩) b a:=(p.qH (c:=b) (by show _≤35184372088828;omega) (by omega)).w7
  have PK:∀ O,O < n+1→a.getD (aC+O) 0=bH.getD O 0:=by
   intro O a4
   rw [PC]
   simp only [List.getD]
   rw [List.getElem?_append_right (by omega),q,Nat.add_sub_cancel_left,List.getElem?_append_left (by omega)]
  refine cO ((aC+n:Nat):Int) (by omega) (by omega) (by omega) ?_
  refine fX PJ (aC:=aC+n) rfl w.symm (by omega) ?_
  refine cO ((aC+n:Nat):Int) (by omega) (by omega) (by omega) ?_
  refine cO ((aC+(n - 1):Nat):Int) (by omega) (by omega) (by omega) ?_
  refine fX PJ (aC:=aC+(n - 1)) rfl w.symm (by omega) ?_
  refine cO ((n - 1:Nat):Int) (by omega) (by omega) (by omega) ?_
  refine fX (aH.cL A cM) (aC:=n - 1) rfl l.symm (by omega) ?_
  rw [PK n (by omega),PK (n - 1) (by omega)]
  have PL:=zH PI (n - 1)
  refine cA (J2 PL (aH.word _) Z) fun v P2 ⟨r,s⟩=>?_
  subst r;subst s
  refine bQ rfl ?_
  have PM:=J5 PI aH.words PD l PX Px PH F
  have G:=J1 (a4:=bH.getD n 0) (aV:=aU.getD (n - 1) 0) PL
  generalize rW (bH.getD n 0) (bH.getD (n - 1) 0) (aU.getD (n - 1) 0)=aB at PM G ⊢
  refine cO ((aC+n:Nat):Int) (by omega) (by omega) (by omega) ?_
  refine cO ((aC+n+1:Nat):Int) (by omega) (by omega) (by omega) ?_
  have P3:∀ {aF:M→Nat→Nat→Prop},aF (some ⟨d,aC,none⟩) (n+1) (hJ - aC)→iD 1 (some ⟨d,0,none⟩) b hJ (some (.int .i64 (aC:Int))) (some (.int .i64 ((aC+n+1:Nat):Int))) none aF:=by
   intro aF g
   refine⟨⟨by omega,by omega⟩,⟨by omega,by omega⟩,?_⟩
   show aF (iY (some ⟨d,0,none⟩) hJ ((aC:Int)).toNat 1) ((((aC+n+1:Nat):Int)).toNat - ((aC:Int)).toNat) (hJ - ((aC:Int)).toNat)
   have r:(((aC+n+1:Nat):Int)).toNat - ((aC:Int)).toNat=n+1:=by omega
   have s:hJ - ((aC:Int)).toNat=hJ - aC:=by omega
   have j:iY (some ⟨d,0,none⟩) hJ ((aC:Int)).toNat 1=some ⟨d,aC,none⟩:=by
    unfold iY
    rw [if_neg (by omega),Int.toNat_natCast,Nat.mul_one]
    show some ((⟨d,0,none⟩:Addr).add aC)=_
    rw [cB]
   rw [r,s,j];exact g
  refine P3 ?_
  have P4:dZ dP P2 d (e ++ (bH ++ bC)):=by rw [← PC];exact p
  have PN:val (a.drop aC) / val aU < 18446744073709551616:=by rw [Nat.div_lt_iff_lt_mul o];exact F
  have PO:=Nat.mod_lt (val (a.drop aC)) o
  have P5:=Nat.div_add_mod (val (a.drop aC)) (val aU)
  have P6:a.take aC=g7.take aC:=by
   have:=congrArg (List.take aC) PA
   rwa [List.take_take,List.take_take,Nat.min_eq_left (by omega)] at this
  have P7:a.getD aC 0=g7.getD aC 0:=by
   have r:(a.take (aC+1)).getD aC 0=a.getD aC 0:=by simp [List.getD]
   have s:(g7.take (aC+1)).getD aC 0=g7.getD aC 0:=by simp [List.getD]
   rw [← r,← s,PA]
  have next:∀ k h,h.length=n+1→dZ dP k d (e ++ (h ++ bC))→cD d bW k→val h=val (a.drop aC) % val aU→dZ dP k f (eO.set aC (val (a.drop aC) / val aU))→
    iW.e0.t Y (iW.dW.t Y (aC+1)) (some ⟨d,0,none⟩) b hJ L n aV (n:Int) (some ⟨f,0,none⟩) (b - n) (b - n) (aC:Int) k:=by
   intro k h Qn P8 P9 Qa H
   unfold iW.e0.t
   refine cO ((aC:Int) - 1) (by omega) (by omega) (by omega) ?_
   have PQ:(e ++ (h ++ bC)).drop aC=h ++ bC:=by rw [← q,List.drop_left]
   have PR:val (h ++ bC)=val (a.drop aC) % val aU:=by rw [hX,P1,Qa];simp
   refine bU (e ++ (h ++ bC)) (eO.set aC (val (a.drop aC) / val aU)) k (by omega) (by simp;omega) (by simp [x]) P8 H P9 ?_ ?_ ?_
   ·have PS:(e ++ (h ++ bC)).take e.length=e:=List.take_left
    rw [q] at PS;rw [PS,D];exact P6
   ·rw [PQ,PR];exact PO
   ·rw [PQ,PR]
    have Qb:(eO.set aC (val (a.drop aC) / val aU)).drop aC=val (a.drop aC) / val aU :: eO.drop (aC+1):=by
     rw [iK (by simp;omega),List.drop_set_of_lt (by omega)]
     simp [List.getD,show aC < eO.length by omega]
    have Qc:h1 / 2 ^ (64*aC)=g7.getD aC 0+18446744073709551616*(h1 / 2 ^ (64*(aC+1))):=by
     rw [← PY,← k2 Py,← k2 Py,lE]
    rw [Qb,Qc,← R,← P7]
    simp only [val]
    rw [Nat.add_mul,Nat.mul_comm (val (a.drop aC) / val aU),Nat.mul_assoc]
    generalize val (eO.drop (aC+1))*val aU=P at *
    omega
  refine cA (JZ (c:=hJ - aC) aH l rfl rfl q A G Pw PD P4 cM) fun v I ⟨aN,J,Qo,cW,T,V,Pt,j⟩=>?_
  subst cW
  refine bQ rfl ?_
  rw [PH] at j
  have PT:dZ dP I f eO:=B.cL u Pt.2
  have Qd:Words J:=fun N i=>V.ok N (List.mem_append_right _ (List.mem_append_left _ i))
  have Qe:=h7 Qd
  rw [T] at Qe
  refine eY (fun PU=>?_) fun PV=>?_
  ·have PU:aN=0:=by omega
   subst PU
   have Pu:aB=val (a.drop aC) / val aU:=by
    refine Nat.le_antisymm ?_ PM
    rw [Nat.le_div_iff_mul_le o];omega
   refine zN PT (aC:=aC) (v:=val (a.drop aC) / val aU) rfl (by omega) (by omega) (by rw [Pu];rfl) PN fun H PW=>?_
   refine next _ J T (V.cL (fun R=>u R.symm) PW) (Fe Pt.1 PW Pv u) ?_ H
   rw [Pu,Nat.mul_comm] at j
   omega
  ·have PV:aN=1:=by omega
   subst PV
   rw [Nat.one_mul] at j
   have Pu:val (a.drop aC) / val aU < aB:=by
    refine Nat.lt_of_not_le fun Qf=>?_
    have:aB*val aU≤val (a.drop aC) / val aU*val aU:=Nat.mul_le_mul_right _ Qf
    rw [Nat.mul_comm (val (a.drop aC) / val aU)] at this
    omega
   refine⟨aB - val (a.drop aC) / val aU - 1+1,?_⟩
   exact J3 (aZ:=I) (dH:=val (a.drop aC)) (Q:=val (a.drop aC) / val aU) (z9:=val (a.drop aC) % val aU) aH l q A Pv u Pw o P5 PO PE (by omega) x.symm PN next _ aB J I (by omega) G T V PT Pt.1 j
theorem J7{L:M}{aV l n c a hJ:Nat}{aU b:List Nat}{Z:U}(aH:cG Z L aV aU)(i:aU.length=n)(j:l=n)(k:fU c L)(m:0 < n)(o:aU.getD (n - 1) 0 ≠ 0)(p:a < 35184372088820)(q:a≤hJ)(r:n < a)(g:b.length=a)(d:dZ dP Z c b)(s:val (b.drop (a - n)) < val aU):
  aY iW.id #[.slice (some ⟨c,0,none⟩) a hJ,.slice L l aV] Z fun v K=>∃ e f eO,v=.slice (some ⟨e,0,none⟩) (a - n) (a - n)∧f.length=a∧eO.length=a - n∧dZ dP K c f∧dZ dP K e eO∧cD c Z K∧Z.size≤e∧val f=val b % val aU∧val eO=val b / val aU:=by
 subst j
 have E:=d.lt
 refine iW.ok ?_
 unfold iW.t iW.aL.t iW.a0.t
 refine cO ((a - l:Nat):Int) (by omega) (by omega) (by omega) ?_
 refine nZ (a - l) rfl rfl rfl rfl (by omega) fun aZ u b3=>?_
 unfold iW.cE.t
 refine cO ((a - l:Nat):Int) (by omega) (by omega) (by omega) ?_
 refine cO (((a - l:Nat):Int) - 1) rfl (by omega) (by omega) ?_
 refine⟨a - l+1,?_⟩
 rw [Int.toNat_natCast]
 have h:Words b:=d.ok
 refine J6 (h1:=val b) (g7:=b) aH i k (Nat.le_refl _) (by omega) (by omega) m o p q r rfl g h (fun F w eO x y z A B C D=>⟨Z.size,w,eO,rfl,x,y,z,A,B,Nat.le_refl _,C,D⟩) (a - l) b (List.replicate (a - l) 0) aZ (Nat.le_refl _) g (by simp) (d.aR b3) u.BA b3.Bo rfl s ?_
 rw [List.drop_of_length_le (by simp)]
 simp only [val,Nat.zero_mul,Nat.zero_add]
 exact k2 h _
end Go.Proofs.YtjijdlkpmngolaaGreat.G
