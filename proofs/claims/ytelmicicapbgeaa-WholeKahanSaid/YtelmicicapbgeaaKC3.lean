import Derived.Test.YtelmicicapbgeaaKB
import Derived.Test.YtelmicicapbgeaaKC0
import Derived.Test.YtelmicicapbgeaaKC1
import Derived.Test.YtelmicicapbgeaaKC2
namespace Go.Proofs.Ytelmicicapbgeaa.G
open Go.Gv
set_option linter.unusedVariables false
noncomputable def lN{cS:Type}(n:Nat)(a3:Nat→cS):cS:=Nat.rec (a3 0) (fun U _=>a3 (U+1)) n
theorem xJ{cS:Type}(n:Nat)(a3:Nat→cS):lN n a3=a3 n:=by cases n <;> rfl
def kK(a N:Nat):Nat:=bif Nat.ble a N then a else N
theorem k2(a N:Nat):kK a N=min a N:=by
 unfold kK
 cases Z:Nat.ble a N with
 | true=>have:=Nat.le_of_ble_eq_true Z;simp only [cond_true];omega
 | false=>
  have:¬ a≤N:=fun b=>by rw [Nat.ble_eq_true_of_le b] at Z;cases Z
  simp only [cond_false];omega
def fO(a N n:Nat):Nat:=kK (a / N) n
def jN(a t N n:Nat):Nat:=kK (a+t*N) (n+1)
noncomputable def oG(n:Nat)(bD:Nat→Nat→Nat→Nat→Nat→Nat→Option (Nat × Nat))(Q T aB bM C b8:Nat):Option (Nat × Nat):=
 lN (kK (fO Q aB n) ((n - 1 - T) / bM)) fun t=>lN (Q - aB*t) fun Q=>lN (T+t*bM) fun T=>
 bif Nat.blt (n - 1) (T+bM) || (Nat.beq Q 0 || Nat.ble aB Q) then some (T,Q) else
 lN (fO C aB n) fun t=>lN (C - aB*t) fun C=>lN (bif Nat.beq t 0 then b8 else jN b8 t bM n) fun b8=>
 bif Nat.beq C 0 || Nat.blt n b8 then some (T,Q) else
 lN (fO (aB - Q) C n) fun t=>lN (bif Nat.blt (C*t) (aB - Q) then t+1 else t) fun t=>lN (kK t (fO aB C n)) fun t=>
 bif Nat.beq t 0 then some (T,Q) else
 lN (aB - C*t) fun aB=>lN (jN bM t b8 n) fun bM=>
 bif Nat.beq aB 0 || Nat.blt n bM then some (T,Q) else bD Q T aB bM C b8
noncomputable def u2(n:Nat)(a3:Nat):Nat→Nat→Nat→Nat→Nat→Nat→Option (Nat × Nat):=
 Nat.rec (fun _ _ _ _ _ _=>none) (fun _ bD=>oG n bD) a3
structure hT(bW a bM b8 aB C:Nat):Prop where
 fB:0 < bM
 gQ:0 < b8
 BH:aB≤bW
 BI:C < bW
 rd:(b8*a) % bW=C
 k3:(bM*a+aB) % bW=0
 iM:∀ M,0 < M→M < bM+b8→C≤(M*a) % bW
 gC:∀ M,0 < M→M < bM+b8→aB+(M*a) % bW≤bW
theorem sO{bW k aB L Q:Nat}(a:0 < bW)(d:k % bW=Q)(b:(L+aB) % bW=0)(Z:aB≤Q):(k+L) % bW=Q - aB:=by
 have aI:=Nat.div_add_mod k bW
 have c:=Nat.div_add_mod (L+aB) bW
 have e:=Nat.mod_lt k a
 rw [b] at c
 have O:k+L=Q - aB+bW*(k / bW+(L+aB) / bW):=by rw [Nat.mul_add];omega
 rw [O,Nat.add_mul_mod_self_left,Nat.mod_eq_of_lt (by omega)]
theorem u3{bW k L Q C:Nat}(a:k % bW=Q)(b:L % bW=C)(Z:Q+C < bW):(k+L) % bW=Q+C:=by
 rw [Nat.add_mod,a,b,Nat.mod_eq_of_lt Z]
theorem hT.up{bW a bM b8 aB C:Nat}(t:hT bW a bM b8 aB C)(b:0 < bW)(Z:aB≤C):hT bW a bM (b8+bM) aB (C - aB):=by
 have d:=t.BI
 refine⟨t.fB,by have:=t.gQ;omega,t.BH,by omega,?_,t.k3,fun M o aI=>?_,fun M o aI=>?_⟩
 ·rw [Nat.add_mul];exact sO b t.rd t.k3 Z
 ·by_cases c:M < bM+b8
  ·have:=t.iM M o c;omega
  ·obtain⟨U,rfl⟩:∃ U,M=U+bM:=⟨M - bM,by omega⟩
   have:=t.iM U (by have:=t.gQ;omega) (by omega)
   rw [Nat.add_mul,sO b rfl t.k3 (by omega)];omega
 ·by_cases c:M < bM+b8
  ·exact t.gC M o c
  ·obtain⟨U,rfl⟩:∃ U,M=U+bM:=⟨M - bM,by omega⟩
   have:=t.iM U (by have:=t.gQ;omega) (by omega)
   have:=Nat.mod_lt (U*a) b
   rw [Nat.add_mul,sO b rfl t.k3 (by omega)];omega
theorem hT.BJ{bW a bM aB:Nat}(b:0 < bW):∀ (U:Nat) {b8 C:Nat},hT bW a bM b8 aB C→aB*U≤C→hT bW a bM (b8+U*bM) aB (C - aB*U)
 | 0,b8,C,t,_=>by simpa using t
 | U+1,b8,C,t,Z=>by
  rw [Nat.mul_add,Nat.mul_one] at Z
  have:=hT.BJ b U (t.up b (by omega)) (by omega)
  rw [show b8+(U+1)*bM=b8+bM+U*bM by rw [Nat.add_mul];omega,show C - aB*(U+1)=C - aB - aB*U by rw [Nat.mul_add];omega]
  exact this
theorem hT.Gp{bW a bM b8 aB C:Nat}(t:hT bW a bM b8 aB C)(e:0 < bW)(Z:C < aB):hT bW a (bM+b8) b8 (aB - C) C:=by
 have f:=t.BH
 have c:((bM+b8)*a+(aB - C)) % bW=0:=by
  have aI:=Nat.div_add_mod (bM*a+aB) bW
  have d:=Nat.div_add_mod (b8*a) bW
  rw [t.k3] at aI;rw [t.rd] at d
  have O:(bM+b8)*a+(aB - C)=bW*((bM*a+aB) / bW+b8*a / bW):=by rw [Nat.mul_add,Nat.add_mul];omega
  rw [O,Nat.mul_mod_right]
 refine⟨by have:=t.fB;omega,t.gQ,by omega,t.BI,t.rd,c,fun M o aI=>?_,fun M o aI=>?_⟩
 ·by_cases b:M < bM+b8
  ·exact t.iM M o b
  ·obtain⟨U,rfl⟩:∃ U,M=U+b8:=⟨M - b8,by omega⟩
   have:=t.gC U (by have:=t.fB;omega) (by omega)
   rw [Nat.add_mul,u3 rfl t.rd (by omega)];omega
 ·by_cases b:M < bM+b8
  ·have:=t.gC M o b;omega
  ·obtain⟨U,rfl⟩:∃ U,M=U+b8:=⟨M - b8,by omega⟩
   have:=t.gC U (by have:=t.fB;omega) (by omega)
   rw [Nat.add_mul,u3 rfl t.rd (by omega)];omega
theorem hT.xK{bW a b8 C:Nat}(b:0 < bW):∀ (U:Nat) {bM aB:Nat},hT bW a bM b8 aB C→C*U < aB→hT bW a (bM+U*b8) b8 (aB - C*U) C
 | 0,bM,aB,t,_=>by simpa using t
 | U+1,bM,aB,t,Z=>by
  rw [Nat.mul_add,Nat.mul_one] at Z
  have:=hT.xK b U (t.Gp b (by omega)) (by omega)
  rw [show bM+(U+1)*b8=bM+b8+U*b8 by rw [Nat.add_mul];omega,show aB - C*(U+1)=aB - C - C*U by rw [Nat.mul_add];omega]
  exact this
structure k4(bW a aO n T Q bM:Nat):Prop where
 pU:(aO+T*a) % bW=Q
 aK:T < n
 pre:∀ M,M≤T→Q≤(aO+M*a) % bW
 c:∀ M,0 < M→M < bM→Q+(M*a) % bW < bW
def sP(bW a aO n T Q:Nat):Prop:=T < n∧(aO+T*a) % bW=Q∧∀ M,M < n→Q≤(aO+M*a) % bW
theorem k4.fin{bW a aO n T Q bM:Nat}(F:k4 bW a aO n T Q bM)(Z:∀ M,0 < M→T+M < n→Q+(M*a) % bW < bW):sP bW a aO n T Q:=by
 refine⟨F.aK,F.pU,fun M b=>?_⟩
 by_cases c:M≤T
 ·exact F.pre M c
 ·obtain⟨U,rfl⟩:∃ U,M=T+U:=⟨M - T,by omega⟩
  rw [Nat.add_mul,← Nat.add_assoc,u3 F.pU rfl (Z U (by omega) b)];omega
theorem k4.Gq{bW a aO n T Q bM aB:Nat}(F:k4 bW a aO n T Q bM)(b:0 < bW)(fB:0 < bM)(k3:(bM*a+aB) % bW=0)(Z:aB≤Q)(aK:T+bM < n):k4 bW a aO n (T+bM) (Q - aB) bM:=by
 refine⟨?_,aK,fun M f=>?_,fun M o aI=>by have:=F.c M o aI;omega⟩
 ·rw [Nat.add_mul,← Nat.add_assoc];exact sO b F.pU k3 Z
 ·by_cases d:M≤T
  ·have:=F.pre M d;omega
  ·obtain⟨U,rfl⟩:∃ U,M=T+U:=⟨M - T,by omega⟩
   by_cases e:U=bM
   ·subst e;rw [Nat.add_mul,← Nat.add_assoc,sO b F.pU k3 Z];omega
   ·rw [Nat.add_mul,← Nat.add_assoc,u3 F.pU rfl (F.c U (by omega) (by omega))];omega
theorem k4.BK{bW a aO n bM aB:Nat}(b:0 < bW)(fB:0 < bM)(k3:(bM*a+aB) % bW=0):∀ (U:Nat) {T Q:Nat},k4 bW a aO n T Q bM→aB*U≤Q→T+U*bM < n→k4 bW a aO n (T+U*bM) (Q - aB*U) bM
 | 0,T,Q,F,_,_=>by simpa using F
 | U+1,T,Q,F,Z,aK=>by
  rw [Nat.mul_add,Nat.mul_one] at Z
  rw [Nat.add_mul,Nat.one_mul] at aK
  have:=k4.BK b fB k3 U (F.Gq b fB k3 (by omega) (by omega)) (by omega) (by omega)
  rw [show T+(U+1)*bM=T+bM+U*bM by rw [Nat.add_mul];omega,show Q - aB*(U+1)=Q - aB - aB*U by rw [Nat.mul_add];omega]
  exact this
theorem period{bW a y Q:Nat}(e:Q < bW)(o:(y*a) % bW=0)(b:0 < y)(Z:∀ M,0 < M→M < y→Q+(M*a) % bW < bW):∀ M,Q+(M*a) % bW < bW:=by
 intro M
 have O:=Nat.div_add_mod M y
 have c:(M*a) % bW=(M % y*a) % bW:=by
  have:M*a=M % y*a+bW*(y*a / bW*(M / y)):=by
   have aI:=Nat.div_add_mod (y*a) bW
   rw [o,Nat.add_zero] at aI
   rw [← Nat.mul_assoc,aI]
   calc M*a=(y*(M / y)+M % y)*a:=by rw [O]
    _=M % y*a+y*a*(M / y):=by rw [Nat.add_mul,Nat.mul_right_comm];omega
  rw [this,Nat.add_mul_mod_self_left]
 rw [c]
 by_cases d:M % y=0
 ·rw [d,Nat.zero_mul,Nat.zero_mod];omega
 ·exact Z _ (by omega) (Nat.mod_lt _ b)
theorem Gr{bW a aO n:Nat}(i:0 < bW){bD:Nat→Nat→Nat→Nat→Nat→Nat→Option (Nat × Nat)}
  (IA:∀ Q T aB bM C b8,k4 bW a aO n T Q bM→hT bW a bM b8 aB C→0 < aB→∀ y,bD Q T aB bM C b8=some y→sP bW a aO n y.1 y.2)
  {Q T aB bM C b8:Nat} (F:k4 bW a aO n T Q bM) (l:hT bW a bM b8 aB C) (Iv:0 < aB) {y:Nat × Nat} (Z:oG n bD Q T aB bM C b8=some y):sP bW a aO n y.1 y.2:=by
 unfold oG at Z
 simp only [xJ,k2,fO,jN] at Z
 have aK:=F.aK
 have fB:=l.fB
 have gQ:=l.gQ
 generalize IP:min (min (Q / aB) n) ((n - 1 - T) / bM)=t at Z
 have IB:aB*t≤Q:=Nat.le_trans (Nat.mul_le_mul_left aB (show t≤Q / aB by omega)) (Nat.mul_div_le Q aB)
 have IQ:t*bM≤n - 1 - T:=(Nat.le_div_iff_mul_le fB).mp (by omega)
 have f:=k4.BK i fB l.k3 t F IB (by omega)
 have IS:Q - aB*t < aB∨n - 1 < T+t*bM+bM:=by
  by_cases c:t=Q / aB
  ·left
   have:=Nat.div_add_mod Q aB
   have:=Nat.mod_lt Q Iv
   rw [c];omega
  ·right
   have bA:t=(n - 1 - T) / bM:=by
    have:(n - 1 - T) / bM≤n - 1 - T:=Nat.div_le_self _ _
    omega
   have:=Nat.lt_mul_div_succ (n - 1 - T) fB
   rw [← bA,Nat.mul_add,Nat.mul_comm bM t] at this;omega
 have Iw:Q - aB*t < bW:=by have:=Nat.mod_lt (aO+T*a) i;rw [F.pU] at this;omega
 generalize Q - aB*t=k at *
 generalize T+t*bM=U at *
 cases g:(Nat.blt (n - 1) (U+bM) || (Nat.beq k 0 || Nat.ble aB k)) with
 | true=>
  rw [g,cond_true] at Z
  obtain rfl:=Option.some.inj Z
  simp only [Bool.or_eq_true,Nat.blt_eq,Nat.beq_eq,Nat.ble_eq] at g
  refine f.fin fun M d m=>?_
  by_cases IT:k=0
  ·have:=Nat.mod_lt (M*a) i;omega
  ·exact f.c M d (by omega)
 | false=>
  rw [g,cond_false] at Z
  replace g:=ne_true_of_eq_false g
  simp only [Bool.or_eq_true,Nat.blt_eq,Nat.beq_eq,Nat.ble_eq,not_or] at g
  obtain⟨IU,IV,IW⟩:=g
  generalize IX:min (C / aB) n=b7 at Z
  have dE:aB*b7≤C:=Nat.le_trans (Nat.mul_le_mul_left aB (show b7≤C / aB by omega)) (Nat.mul_div_le C aB)
  have h:=hT.BJ i b7 l dE
  have E:(bif Nat.beq b7 0 then b8 else min (b8+b7*bM) (n+1))=min (b8+b7*bM) (n+1)∨b7=0∧(bif Nat.beq b7 0 then b8 else min (b8+b7*bM) (n+1))=b8:=by
   cases O:Nat.beq b7 0 with
   | true=>exact Or.inr ⟨by simpa using O,rfl⟩
   | false=>exact Or.inl rfl
  generalize (bif Nat.beq b7 0 then b8 else min (b8+b7*bM) (n+1))=b at *
  have IC:b7 < n→C - aB*b7 < aB:=by
   intro ID
   have:=Nat.div_add_mod C aB
   have:=Nat.mod_lt C Iv
   rw [show b7=C / aB by omega];omega
  have IE:¬ b7 < n→n < b:=by
   intro ID
   have:b7*1≤b7*bM:=Nat.mul_le_mul_left b7 fB
   rcases E with O | ⟨G,Ix⟩
   ·omega
   ·omega
  have IF:n < b→n < b8+b7*bM:=by
   intro Iy
   rcases E with O | ⟨G,Ix⟩
   ·omega
   ·have:=Nat.zero_le (b7*bM);omega
  have IG:¬ n < b→b=b8+b7*bM:=by
   intro Iy
   rcases E with O | ⟨G,Ix⟩
   ·omega
   ·subst G;rw [Nat.zero_mul];omega
  generalize C - aB*b7=x at *
  cases bA:(Nat.beq x 0 || Nat.blt n b) with
  | true=>
   rw [bA,cond_true] at Z
   obtain rfl:=Option.some.inj Z
   simp only [Bool.or_eq_true,Nat.blt_eq,Nat.beq_eq] at bA
   refine f.fin fun M d m=>?_
   rcases bA with O | O
   ·subst O
    refine period Iw h.rd h.gQ (fun M d m=>?_) M
    have:=h.gC M d (by omega);omega
   ·have:=h.gC M d (by have:=IF O;omega);omega
  | false=>
   rw [bA,cond_false] at Z
   replace bA:=ne_true_of_eq_false bA
   simp only [Bool.or_eq_true,Nat.blt_eq,Nat.beq_eq,not_or] at bA
   obtain⟨IY,Iz⟩:=bA
   obtain rfl:=IG Iz
   have IZ:=IC (by refine Nat.lt_of_not_le fun Iy=>?_;exact Iz (IE (by omega)))
   generalize b8+b7*bM=b at *
   generalize a1:min ((aB - k) / x) n=v at Z
   have I0:x*v≤aB - k:=Nat.le_trans (Nat.mul_le_mul_left x (show v≤(aB - k) / x by omega)) (Nat.mul_div_le (aB - k) x)
   generalize j:(bif Nat.blt (x*v) (aB - k) then v+1 else v)=L at Z
   have IH:L ≠ 0→x*(L - 1) < aB - k:=by
    intro j6
    cases O:Nat.blt (x*v) (aB - k) with
    | true=>rw [O,cond_true] at j;rw [Nat.blt_eq] at O;rw [← j,Nat.add_sub_cancel];exact O
    | false=>
     rw [O,cond_false] at j
     subst j
     have:x*v=x*(v - 1)+x:=by
      conv=>lhs;rw [show v=v - 1+1 by omega]
      rw [Nat.mul_add,Nat.mul_one]
     omega
   generalize I1:min L (min (aB / x) n)=a5 at Z
   have I2:x*a5≤aB:=Nat.le_trans (Nat.mul_le_mul_left x (show a5≤aB / x by omega)) (Nat.mul_div_le aB x)
   cases D:Nat.beq a5 0 with
   | true=>
    exfalso
    rw [Nat.beq_eq] at D
    have:0 < aB / x:=Nat.div_pos (by omega) (by omega)
    have j6:L=0:=by omega
    cases O:Nat.blt (x*v) (aB - k) with
    | true=>rw [O,cond_true] at j;omega
    | false=>
     rw [O,cond_false] at j
     have II:¬ x*v < aB - k:=by rw [← Nat.blt_eq,O];decide
     rw [show v=0 by omega,Nat.mul_zero] at II;omega
   | false=>
    rw [D,cond_false] at Z
    have I3:a5 ≠ 0:=by intro O;rw [O] at D;cases D
    have j6:L ≠ 0:=by omega
    have I4:x*(a5 - 1) < aB - k:=Nat.lt_of_le_of_lt (Nat.mul_le_mul_left x (by omega)) (IH j6)
    have I5:x*a5=x*(a5 - 1)+x:=by
     conv=>lhs;rw [show a5=a5 - 1+1 by omega]
     rw [Nat.mul_add,Nat.mul_one]
    have IJ:a5*b=(a5 - 1)*b+b:=by
     conv=>lhs;rw [show a5=a5 - 1+1 by omega]
     rw [Nat.add_mul,Nat.one_mul]
    have H:=hT.xK i (a5 - 1) h (by omega)
    have P:∀ M,0 < M→M < bM+a5*b→k+(M*a) % bW < bW:=by
     intro M d m
     have:=H.gC M d (by omega);omega
    have I6:=h.gQ
    cases e:(Nat.beq (aB - x*a5) 0 || Nat.blt n (min (bM+a5*b) (n+1))) with
    | true=>
     rw [e,cond_true] at Z
     obtain rfl:=Option.some.inj Z
     simp only [Bool.or_eq_true,Nat.blt_eq,Nat.beq_eq] at e
     refine f.fin fun M d m=>?_
     rcases e with O | O
     ·have bV:aB - x*(a5 - 1)=x:=by omega
      have IK:((bM+a5*b)*a) % bW=0:=by
       have aI:=Nat.div_add_mod ((bM+(a5 - 1)*b)*a+(aB - x*(a5 - 1))) bW
       rw [H.k3] at aI
       have IL:=Nat.div_add_mod (b*a) bW
       rw [H.rd] at IL
       have IM:(bM+a5*b)*a=bW*(((bM+(a5 - 1)*b)*a+(aB - x*(a5 - 1))) / bW+b*a / bW):=by
        rw [IJ,← Nat.add_assoc,Nat.add_mul,Nat.mul_add];omega
       rw [IM,Nat.mul_mod_right]
      exact period Iw IK (by omega) P M
     ·exact P M d (by omega)
    | false=>
     rw [e,cond_false] at Z
     replace e:=ne_true_of_eq_false e
     simp only [Bool.or_eq_true,Nat.blt_eq,Nat.beq_eq,not_or] at e
     obtain⟨I7,I8⟩:=e
     have O:min (bM+a5*b) (n+1)=bM+a5*b:=by omega
     rw [O] at Z
     have IN:=hT.xK i a5 h (by omega)
     exact IA _ _ _ _ _ _ ⟨f.pU,f.aK,f.pre,P⟩ IN (by omega) y Z
theorem BL{bW a aO n:Nat}(b:0 < bW):∀ (a3:Nat) (Q T aB bM C b8:Nat),k4 bW a aO n T Q bM→hT bW a bM b8 aB C→0 < aB→∀ y,u2 n a3 Q T aB bM C b8=some y→sP bW a aO n y.1 y.2
 | 0,_,_,_,_,_,_,_,_,_,_,Z=>by cases Z
 | a3+1,Q,T,aB,bM,C,b8,F,c,d,y,Z=>Gr b (BL b a3) F c d Z
noncomputable def gA{cS:Type}(n:Nat)(a3:Nat→cS):cS:=Nat.rec (a3 0) (fun U _=>a3 (Nat.succ U)) n
theorem iW{cS:Type}(n:Nat)(a3:Nat→cS):gA n a3=a3 n:=by cases n <;> rfl
noncomputable def BM(n:Nat)(bD:Nat→Nat→Nat→Nat→Nat→Nat→Option (Nat × Nat))(Q T aB bM C b8:Nat):Option (Nat × Nat):=
 gA (Nat.div (Nat.sub (Nat.add aB C) (Nat.succ Q)) C) fun t=>gA (Nat.div aB C) fun a=>gA (Nat.sub t (Nat.sub t a)) fun t=>gA (Nat.sub aB (Nat.mul C t)) fun aB=>gA (Nat.add bM (Nat.mul t b8)) fun bM=>
 cond (Nat.ble aB 0) (some (T,Q)) <| cond (Nat.ble bM n) (bD Q T aB bM C b8) (some (T,Q))
noncomputable def BN(n:Nat)(bD:Nat→Nat→Nat→Nat→Nat→Nat→Option (Nat × Nat))(Q T aB bM C b8:Nat):Option (Nat × Nat):=
 gA (Nat.add b8 (Nat.mul (Nat.div C aB) bM)) fun b8=>cond (Nat.ble b8 n) (gA (Nat.mod C aB) fun C=>cond (Nat.ble C 0) (some (T,Q)) (BM n bD Q T aB bM C b8)) (some (T,Q))
noncomputable def xL(n:Nat)(bD:Nat→Nat→Nat→Nat→Nat→Nat→Option (Nat × Nat))(Q T aB bM C b8:Nat):Option (Nat × Nat):=
 gA (Nat.div Q aB) fun t=>gA (Nat.sub t (Nat.sub t (Nat.div (Nat.sub (Nat.sub n 1) T) bM))) fun t=>gA (Nat.sub Q (Nat.mul aB t)) fun Q=>gA (Nat.add T (Nat.mul t bM)) fun T=>
 cond (Nat.ble n (Nat.add T bM)) (some (T,Q)) <| cond (Nat.ble Q 0) (some (T,Q)) <| BN n bD Q T aB bM C b8
noncomputable def BO(n:Nat)(a3:Nat):Nat→Nat→Nat→Nat→Nat→Nat→Option (Nat × Nat):=
 Nat.rec (fun _ _ _ _ _ _=>none) (fun _ bD=>xL n bD) a3
theorem Gs(a N:Nat):a - (a - N)=min a N:=by omega
theorem l9{cS:Type}(a N:Nat)(Q k:cS):cond (Nat.ble a N) Q k=if a≤N then Q else k:=by
 cases Z:Nat.ble a N with
 | true=>rw [if_pos (Nat.le_of_ble_eq_true Z)];rfl
 | false=>rw [if_neg (fun b=>by rw [Nat.ble_eq_true_of_le b] at Z;cases Z)];rfl
theorem Gt{g C:Nat}(a:0 < C)(b:0 < g):(bif Nat.blt (C*(g / C)) g then g / C+1 else g / C)=(g+C - 1) / C:=by
 have aI:=Nat.div_add_mod g C
 have c:=Nat.mod_lt g a
 cases Z:Nat.blt (C*(g / C)) g with
 | true=>
  rw [Nat.blt_eq] at Z
  show g / C+1=_
  have O:g+C - 1=(g % C - 1)+C*(g / C+1):=by rw [Nat.mul_add,Nat.mul_one];omega
  rw [O,Nat.add_mul_div_left _ _ a,Nat.div_eq_of_lt (show g % C - 1 < C by omega)];omega
 | false=>
  replace Z:=ne_true_of_eq_false Z
  rw [Nat.blt_eq] at Z
  show g / C=_
  have O:g+C - 1=(C - 1)+C*(g / C):=by omega
  rw [O,Nat.add_mul_div_left _ _ a,Nat.div_eq_of_lt (show C - 1 < C by omega)];omega
theorem u4(a N:Nat):Nat.div a N=a / N:=rfl
theorem sQ(a N:Nat):Nat.mod a N=a % N:=rfl
theorem Gu{n:Nat}{bD l:Nat→Nat→Nat→Nat→Nat→Nat→Option (Nat × Nat)}(G:∀ Q T aB bM C b8 y,0 < aB→0 < bM→0 < b8→T < n→bD Q T aB bM C b8=some y→l Q T aB bM C b8=some y)
  {Q T aB bM C b8:Nat} (m:0 < aB) (fB:0 < bM) (gQ:0 < b8) (aK:T < n) {y:Nat × Nat} (Z:xL n bD Q T aB bM C b8=some y):oG n l Q T aB bM C b8=some y:=by
 unfold oG
 simp only [xJ,k2,fO,jN]
 unfold xL BN BM at Z
 simp only [iW,l9,Nat.sub_eq,Nat.add_eq,Nat.mul_eq,u4,sQ,Gs,Nat.succ_eq_add_one] at Z
 have IC:(n - 1 - T) / bM≤n - 1 - T:=Nat.div_le_self _ _
 have H:min (min (Q / aB) n) ((n - 1 - T) / bM)=min (Q / aB) ((n - 1 - T) / bM):=by omega
 rw [H]
 have ID:Q - aB*min (Q / aB) ((n - 1 - T) / bM) < aB∨n - 1 < T+min (Q / aB) ((n - 1 - T) / bM)*bM+bM:=by
  by_cases c:min (Q / aB) ((n - 1 - T) / bM)=Q / aB
  ·left
   have:=Nat.div_add_mod Q aB
   have:=Nat.mod_lt Q m
   rw [c];omega
  ·right
   have bA:min (Q / aB) ((n - 1 - T) / bM)=(n - 1 - T) / bM:=by omega
   have:=Nat.lt_mul_div_succ (n - 1 - T) fB
   rw [bA]
   rw [Nat.mul_add,Nat.mul_comm bM ((n - 1 - T) / bM)] at this;omega
 have IE:min (Q / aB) ((n - 1 - T) / bM)*bM≤n - 1 - T:=(Nat.le_div_iff_mul_le fB).mp (by omega)
 generalize min (Q / aB) ((n - 1 - T) / bM)=t at *
 have P:T+t*bM < n:=by omega
 generalize Q - aB*t=k at *
 generalize T+t*bM=U at *
 have a:∀ {N:Bool} {f a7:Option (Nat × Nat)},N=true→(bif N then f else a7)=f:=fun O=>by rw [O];rfl
 have h:∀ {N:Bool} {f a7:Option (Nat × Nat)},¬ N=true→(bif N then f else a7)=a7:=fun O=>by
  rw [Bool.not_eq_true] at O;rw [O];rfl
 by_cases v:n≤U+bM
 ·rw [if_pos v] at Z
  rw [a (by simp only [Bool.or_eq_true,Nat.blt_eq,Nat.beq_eq,Nat.ble_eq];left;omega)];exact Z
 rw [if_neg v] at Z
 by_cases bA:k≤0
 ·rw [if_pos bA] at Z
  rw [a (by simp only [Bool.or_eq_true,Nat.blt_eq,Nat.beq_eq,Nat.ble_eq];right;left;omega)];exact Z
 rw [if_neg bA] at Z
 rw [h (by simp only [Bool.or_eq_true,Nat.blt_eq,Nat.beq_eq,Nat.ble_eq];omega)]
 have IF:C / aB*1≤C / aB*bM:=Nat.mul_le_mul_left _ fB
 have IG:n*1≤n*bM:=Nat.mul_le_mul_left _ fB
 have Iv:∀ b7,(bif Nat.beq b7 0 then b8 else min (b8+b7*bM) (n+1))=if b7=0 then b8 else min (b8+b7*bM) (n+1):=by
  intro b7
  by_cases b:b7=0
  ·subst b;rfl
  ·rw [if_neg b];cases b7 with
   | zero=>exact absurd rfl b
   | succ b7=>rfl
 rw [Iv]
 by_cases d:¬ b8+C / aB*bM≤n
 ·rw [if_neg d] at Z
  rw [a]
  ·exact Z
  ·simp only [Bool.or_eq_true,Nat.blt_eq,Nat.beq_eq]
   right
   by_cases b:C / aB≤n
   ·rw [Nat.min_eq_left b]
    split
    ·rename_i O;rw [O,Nat.zero_mul] at d;omega
    ·omega
   ·rw [Nat.min_eq_right (by omega)]
    split <;> omega
 replace d:=Decidable.not_not.mp d
 rw [if_pos d] at Z
 have b:min (C / aB) n=C / aB:=by omega
 rw [b]
 have Iw:(if C / aB=0 then b8 else min (b8+C / aB*bM) (n+1))=b8+C / aB*bM:=by
  split
  ·rename_i O;rw [O,Nat.zero_mul];rfl
  ·omega
 rw [Iw]
 have Ix:C - aB*(C / aB)=C % aB:=by have:=Nat.div_add_mod C aB;omega
 rw [Ix]
 have IH:=Nat.mod_lt C m
 have i:0 < b8+C / aB*bM:=by omega
 generalize b8+C / aB*bM=j at *
 generalize C % aB=x at *
 by_cases D:x≤0
 ·rw [if_pos D] at Z
  rw [a (by simp only [Bool.or_eq_true,Nat.blt_eq,Nat.beq_eq];left;omega)];exact Z
 rw [if_neg D] at Z
 rw [h (by simp only [Bool.or_eq_true,Nat.blt_eq,Nat.beq_eq];omega)]
 have Iy:min (bif Nat.blt (x*min ((aB - k) / x) n) (aB - k) then min ((aB - k) / x) n+1 else min ((aB - k) / x) n) (min (aB / x) n)=min (min ((aB+x - (k+1)) / x) (aB / x)) n:=by
  have Iz:aB+x - (k+1)=aB - k+x - 1:=by omega
  have IA:=Gt (g:=aB - k) (C:=x) (by omega) (by omega)
  have II:(aB - k) / x≤aB / x:=Nat.div_le_div_right (by omega)
  rw [Iz,← IA]
  by_cases a1:(aB - k) / x≤n
  ·rw [Nat.min_eq_left a1];omega
  ·rw [Nat.min_eq_right (show n≤(aB - k) / x by omega)]
   cases IJ:Nat.blt (x*n) (aB - k) <;> cases IK:Nat.blt (x*((aB - k) / x)) (aB - k) <;> simp only [cond_true,cond_false] <;> omega
 rw [Iy]
 have IL:0 < min ((aB+x - (k+1)) / x) (aB / x):=by
  have IM:0 < (aB+x - (k+1)) / x:=Nat.div_pos (by omega) (by omega)
  have IN:0 < aB / x:=Nat.div_pos (by omega) (by omega)
  omega
 generalize min ((aB+x - (k+1)) / x) (aB / x)=a5 at *
 rw [h (by simp only [Nat.beq_eq];omega)]
 by_cases IB:a5≤n
 ·rw [Nat.min_eq_left IB]
  by_cases e:aB - x*a5≤0
  ·rw [if_pos e] at Z
   rw [a (by simp only [Bool.or_eq_true,Nat.blt_eq,Nat.beq_eq];left;omega)];exact Z
  rw [if_neg e] at Z
  by_cases E:bM+a5*j≤n
  ·rw [if_pos E] at Z
   rw [h (by simp only [Bool.or_eq_true,Nat.blt_eq,Nat.beq_eq];omega),Nat.min_eq_left (by omega)]
   exact G _ _ _ _ _ _ _ (by omega) (by omega) i P Z
  ·rw [if_neg E] at Z
   rw [a (by simp only [Bool.or_eq_true,Nat.blt_eq,Nat.beq_eq];right;omega)];exact Z
 ·rw [Nat.min_eq_right (by omega)]
  have IP:n*1≤n*j:=Nat.mul_le_mul_left _ i
  have IQ:a5*1≤a5*j:=Nat.mul_le_mul_left _ i
  rw [a (by simp only [Bool.or_eq_true,Nat.blt_eq,Nat.beq_eq];right;omega)]
  by_cases e:aB - x*a5≤0
  ·rw [if_pos e] at Z;exact Z
  ·rw [if_neg e,if_neg (by omega)] at Z;exact Z
theorem BP(n:Nat):∀ (a3 Q T aB bM C b8:Nat) (y:Nat × Nat),0 < aB→0 < bM→0 < b8→T < n→BO n a3 Q T aB bM C b8=some y→u2 n a3 Q T aB bM C b8=some y
 | 0,_,_,_,_,_,_,_,_,_,_,_,Z=>by cases Z
 | a3+1,Q,T,aB,bM,C,b8,y,a,fB,gQ,aK,Z=>Gu (BP n a3) a fB gQ aK Z
noncomputable def sR(bW a aO n a3:Nat):Option (Nat × Nat):=BO n a3 aO 0 (bW - a) 1 a 1
theorem BQ{bW a aO n a3:Nat}(c:a < bW)(b:0 < n){y:Nat × Nat}(Z:sR bW a aO n a3=some y):u2 n a3 aO 0 (bW - a) 1 a 1=some y:=
 BP n a3 _ _ _ _ _ _ y (by omega) (by decide) (by decide) b Z
theorem sS{bW a aO n a3:Nat}(b:a < bW)(c:aO < bW)(d:0 < n){y:Nat × Nat}(Z:sR bW a aO n a3=some y):sP bW a aO n y.1 y.2:=by
 refine BL (by omega) a3 _ _ _ _ _ _ ⟨?_,d,fun M e=>?_,fun M o aI=>by omega⟩ ⟨by decide,by decide,by omega,b,?_,?_,fun M o aI=>?_,fun M o aI=>?_⟩ (by omega) y (BQ b d Z)
 ·rw [Nat.zero_mul,Nat.add_zero,Nat.mod_eq_of_lt c]
 ·obtain rfl:M=0:=by omega
  rw [Nat.zero_mul,Nat.add_zero,Nat.mod_eq_of_lt c];exact Nat.le_refl _
 ·rw [Nat.one_mul,Nat.mod_eq_of_lt b]
 ·rw [Nat.one_mul,show a+(bW - a)=bW by omega,Nat.mod_self]
 ·obtain rfl:M=1:=by omega
  rw [Nat.one_mul,Nat.mod_eq_of_lt b];exact Nat.le_refl _
 ·obtain rfl:M=1:=by omega
  rw [Nat.one_mul,Nat.mod_eq_of_lt b];omega
def bL:Nat:=2135987035920910082395021706169552114602704522356652769947041607822219725780640550022962086936576
def hK(Q:Nat):Nat:=cond (Nat.beq Q 0) 0 (Nat.sub bL Q)
noncomputable def lO(a3 a a6 aK:Nat)(up:Bool):Option (Nat × Nat):=
 gA (Nat.mod a bL) fun b=>gA (Nat.mod (Nat.mul b a6) bL) fun at_=>gA (cond up (hK b) b) fun b=>gA (cond up (hK at_) at_) fun at_=>gA (Nat.succ (Nat.sub aK a6)) fun n=>
 match sR bL b at_ n a3 with
 | some (T,v)=>some (Nat.add a6 T,v)
 | none=>none
def lP(a a6 aK:Nat):Nat:=cond (Nat.ble bL (Nat.mul a6 a)) a6 (cond (Nat.ble bL (Nat.mul aK a)) (Nat.div (Nat.sub (Nat.add bL a) 1) a) (Nat.succ aK))
def gR(a m:Nat)(up:Bool):Nat:=Nat.add (Nat.div (Nat.mul m a) bL) (cond up 1 0)
noncomputable def pV(a3 a a6 aK:Nat):Option (Nat × Bool):=
 match lO a3 a a6 aK true with
 | none=>none
 | some (m,Q)=>gA (lP a a6 aK) fun s=>cond (Nat.ble s aK) (match lO a3 a s aK false with
  | none=>none
  | some (n,k)=>cond (Nat.ble Q k) (some (m,true)) (some (n,false))) (some (m,true))
def fU(O:Nat):Nat:=Nat.div sK (Nat.pow 2 (Nat.sub 4144 O))
noncomputable def u5(b7 v a N:Nat):Bool:=
 gA a fun a=>gA N fun N=>cond (Nat.ble (Nat.succ (Nat.xor a N)) (Nat.land a N)) (cond (Nat.ble (Nat.pow 2 b7) a) (Nat.ble a (Nat.pow 2 v)) false) false
noncomputable def xM(n Q U:Nat):Bool:=
 gA (Nat.mul U (Nat.div iD (Nat.pow 2 n))) fun l=>gA (Nat.add l U) fun Z=>
 cond (Nat.ble (Nat.succ Z) Q) (u5 1201 1470 (Nat.sub Q l) (Nat.sub Q Z)) (cond (Nat.ble (Nat.succ Q) l) (u5 1201 1470 (Nat.sub l Q) (Nat.sub Z Q)) false)
noncomputable def u6(a O N:Nat):Bool:=
 match pV 80 a (Nat.pow 2 N) (Nat.sub (Nat.pow 2 (Nat.succ N)) 1) with
 | none=>false
 | some (m,up)=>gA (gR a m up) fun U=>gA (Nat.mul m (Nat.pow 2 (Nat.add O 1337))) fun Q=>xM 3000 Q U
noncomputable def q8(a:Nat):Bool:=
 match sR bL a a 18014398509481983 80 with
 | none=>false
 | some (T,v)=>Nat.ble (Nat.pow 2 150) v
noncomputable def q9(O:Nat):Bool:=
 gA (fU O) fun a=>cond (pS (fun N=>u6 a O N) 53) (gA (Nat.mod a bL) fun F=>cond (q8 F) (q8 (hK F)) false) false
noncomputable def nM(a6 n:Nat):Bool:=pS (fun U=>q9 (Nat.add a6 U)) n
theorem BR{Q k M U:Nat}(a:Q < 2 ^ M)(b:k < 2 ^ U)(Z:M+U≤524288):e3 (Q*k):=
 iC (U:=M+U) (by rw [Nat.pow_add];exact Nat.mul_lt_mul'' a b) Z
theorem rA{t:Nat}(Z:t < 18446744073709551616):t < 2 ^ 64:=Z
def eV(Q:Nat):Prop:=Q < 2 ^ 400
theorem eV.hS{Q:Nat}(Z:eV Q):e3 Q:=iC Z (by omega)
theorem eV.le{Q k:Nat}(Z:eV k)(O:Q≤k):eV Q:=Nat.lt_of_le_of_lt O Z
theorem eV.sT{Q t:Nat}(Z:eV Q)(a:t < 18446744073709551616):e3 (Q*t):=BR Z (rA a) (by omega)
section
variable {a N:R} {c aB l m Q k t n:Nat} {Z:V}
theorem sU{A:R→Nat→Nat→V→Prop}(C:bU Z a c (z Q))(e:l=(z Q).length)(F:bU Z N aB (z k))(f:m=(z k).length)(b:t < 18446744073709551616)(e9:eV Q)(d:eV k)
  (g:∀ a c K,a2 Z K→cH dB Z K a c (z (Q - k*t))→A a (z (Q - k*t)).length c K) :
  aG mA.id #[.slice a l c,.slice N m aB,.int .u64 (t:Int)] Z fun v K=>aE v fun a l c=>A a l c K:=by
 refine bE (dC:=fun v K=>a2 Z K∧∃ a c,v=.slice a (z (Q - k*t)).length c∧cH dB Z K a c (z (Q - k*t))) ?_ fun v K ⟨U,a,c,O,C⟩=>by subst O;exact g a c K U C
 refine mA.ok ?_
 unfold mA.t mA.u.t
 refine q7 F f b d.hS (d.sT b) fun n D aI cQ h=>?_
 refine pR (C.I cQ) e h.dL rfl e9.hS (d.sT b) fun E bA G i j=>?_
 exact⟨cQ.trans i,_,_,rfl,j.from cQ.le⟩
theorem Gw{x:Nat}(o:x ≠ 0)(aI:x < 18446744073709551616):z x=[x]:=by
 rw [jP o,show x / 18446744073709551616=0 by omega,cP,Nat.mod_eq_of_lt aI]
theorem u7{A:Int→V→Prop}(C:bU Z a c (z Q))(h:l=(z Q).length)(F:bU Z N aB (z k))(i:m=(z k).length)(o:k ≠ 0)(Ix:n < 18446744073709551616)(e9:eV Q)(j:eV k)
  (g:∀ K,a2 Z K→A ((fO Q k n:Nat):Int) K) :
  aG mB.id #[.slice a l c,.slice N m aB,.int .u64 (n:Int)] Z fun v K=>aC .u64 v fun Q=>A Q K:=by
 refine bE (dC:=fun v K=>a2 Z K∧v=.int .u64 ((fO Q k n:Nat):Int)) ?_ fun v K ⟨U,O⟩=>by subst O;exact g K U
 refine mB.ok ?_
 unfold mB.t mB.u.t
 refine xG C h F i o e9.hS j.hS fun Iy Iz iM d1 aI cQ D _=>?_
 have b:=D.dL
 have E:fO Q k n=min (Q / k) n:=by unfold fO;rw [k2]
 rw [E]
 generalize Q / k=x at *
 have f:(z x).length≤1↔x < 18446744073709551616:=e2 (U:=1)
 refine fP (fun O=>⟨cQ,?_⟩) fun O=>?_
 ·have:x=0:=l7.mp (by omega)
  rw [show min x n=0 by omega];rfl
 refine b1 (fun G=>⟨cQ,?_⟩) fun G=>?_
 ·have:¬ x < 18446744073709551616:=fun d=>by have:=f.mpr d;omega
  rw [show min x n=n by omega]
 have H:x < 18446744073709551616:=f.mp (by omega)
 have P:x ≠ 0:=fun d=>by subst d;rw [cP] at O;exact O rfl
 have Iv:=Gw P H
 rw [Iv] at b ⊢
 refine eW b (M:=0) rfl rfl (by simp) ?_
 refine b1 (fun e=>⟨cQ,?_⟩) fun e=>?_
 ·have Iw:x > n:=by have:((x:Nat):Int) > (n:Int):=e;omega
  rw [show min x n=n by omega]
 ·unfold mB.aD.t
  refine eW b (M:=0) rfl rfl (by simp) ⟨cQ,?_⟩
  have Iw:¬ x > n:=by have:¬ ((x:Nat):Int) > (n:Int):=e;omega
  rw [show min x n=x by omega];rfl
theorem BS{A:Int→V→Prop}{a:Nat}(o:0 < a)(c:0 < t)(j:Q≤n+1)(l:n < 18014398509481984)(m:a≤n+1)(D:t < 18446744073709551616)
  (g:A ((jN Q t a n:Nat):Int) Z) :
  aG nN.id #[.int .u64 (Q:Int),.int .u64 (t:Int),.int .u64 (a:Int),.int .u64 (n:Int)] Z fun v K=>aC .u64 v fun Q=>A Q K:=by
 refine bE (dC:=fun v K=>K=Z∧v=.int .u64 ((jN Q t a n:Nat):Int)) ?_ fun v K ⟨d,O⟩=>by subst d;subst O;exact g
 refine nN.ok ?_
 unfold nN.t nN.u.t
 have e:jN Q t a n=min (Q+t*a) (n+1):=by unfold jN;rw [k2]
 rw [e]
 have E:1*a≤t*a:=Nat.mul_le_mul_right _ c
 refine b1 (fun O=>?_) fun O=>?_
 ·refine cK (n+1) (by omega) (by omega) ⟨rfl,?_⟩
  rw [show min (Q+t*a) (n+1)=n+1 by omega]
 have f:(if (1:Int) > (a:Int) then(1:Int) else(a:Int))=(a:Int):=by split <;> omega
 rw [f]
 refine⟨by omega,?_⟩
 have G:n / a≤n:=Nat.div_le_self _ _
 refine cK (n / a) (by rw [Int.tdiv_eq_ediv_of_nonneg (by omega),← Int.natCast_ediv]) (by omega) ?_
 refine cK (n / a+1) (by omega) (by omega) ?_
 have h:=Nat.lt_mul_div_succ n o
 have H:=Nat.mul_div_le n a
 rw [Nat.mul_add,Nat.mul_one] at h
 refine b1 (fun i=>?_) fun i=>?_
 ·refine cK (n+1) (by omega) (by omega) ⟨rfl,?_⟩
  have b:(n / a+1)*a≤t*a:=Nat.mul_le_mul_right _ (by omega)
  rw [Nat.add_mul,Nat.one_mul,Nat.mul_comm] at b
  rw [show min (Q+t*a) (n+1)=n+1 by omega]
 ·unfold nN.aD.t
  have b:t*a≤(n / a+1)*a:=Nat.mul_le_mul_right _ (by omega)
  rw [Nat.add_mul,Nat.one_mul,Nat.mul_comm (n / a)] at b
  refine cK (t*a) (by rw [Int.natCast_mul]) (by omega) ?_
  refine cK (Q+t*a) (by omega) (by omega) ?_
  refine cK (n+1) (by omega) (by omega) ⟨rfl,?_⟩
  congr 1
  split <;> omega
end
theorem BT{m n:Nat}:e4 m n≤0↔m≤n:=by unfold e4;split <;> (try split) <;> omega
theorem rB{m n:Nat}:e4 m n < 0↔m < n:=by unfold e4;split <;> (try split) <;> omega
theorem oH{cS:Type}{N:Bool}{a a7 q:cS}(Z:(bif N then a else a7)=q)(O:N=true):a=q:=by rw [O] at Z;exact Z
theorem u9{cS:Type}{N:Bool}{a a7 q:cS}(Z:(bif N then a else a7)=q)(O:¬ N=true):a7=q:=by
 rw [Bool.not_eq_true] at O;rw [O] at Z;exact Z
abbrev rC:Type:=Nat→Nat→Nat→Nat→Nat→Nat→Option (Nat × Nat)
abbrev BU:Type:=Int→R→Nat→Nat→Int→R→Nat→Nat→Int→R→Nat→Nat→Int→V→Prop
def oI(n:Nat)(bD:rC)(Q T aB bM C b8 a5:Nat):Option (Nat × Nat):=
 bif Nat.beq a5 0 then some (T,Q) else bif Nat.beq (aB - C*a5) 0 || Nat.blt n (jN bM a5 b8 n) then some (T,Q) else bD Q T (aB - C*a5) (jN bM a5 b8 n) C b8
def oJ(n:Nat)(bD:rC)(Q T aB bM C b8:Nat):Option (Nat × Nat):=
 bif Nat.beq C 0 || Nat.blt n b8 then some (T,Q) else oI n bD Q T aB bM C b8 (kK (bif Nat.blt (C*fO (aB - Q) C n) (aB - Q) then fO (aB - Q) C n+1 else fO (aB - Q) C n) (fO aB C n))
def lQ(n:Nat)(bD:rC)(Q T aB bM C b8:Nat):Option (Nat × Nat):=
 bif Nat.blt (n - 1) (T+bM) || (Nat.beq Q 0 || Nat.ble aB Q) then some (T,Q) else oJ n bD Q T aB bM (C - aB*fO C aB n) (bif Nat.beq (fO C aB n) 0 then b8 else jN b8 (fO C aB n) bM n)
theorem Gx(n:Nat)(bD:rC)(Q T aB bM C b8:Nat):oG n bD Q T aB bM C b8=lQ n bD (Q - aB*kK (fO Q aB n) ((n - 1 - T) / bM)) (T+kK (fO Q aB n) ((n - 1 - T) / bM)*bM) aB bM C b8:=by
 unfold oG
 simp only [xJ]
 rfl
def oK(Y:J)(o:V)(y:Nat × Nat):Prop:=∀ a c K,a2 o K→bU K a c (z y.2)→Y (.tuple #[.int .u64 (y.1:Int),.slice a (z y.2).length c]) K
theorem oK.now{Y:J}{o Z:V}{y:Nat × Nat}(b:oK Y o y){U k:Nat}(O:some (U,k)=some y){a:R}{c:Nat}(d:a2 o Z)(C:bU Z a c (z k)):Y (.tuple #[.int .u64 (U:Int),.slice a (z k).length c]) Z:=by
 have O:=Option.some.inj O
 subst O;exact b a c Z d C
def rD(bX:BU)(n:Nat)(o:V)(y:Nat × Nat)(bD:rC):Prop:=
 ∀ (Q T aB bM C b8:Nat) (j0 jO j1:R) (j2 kL j3:Nat) (Z:V),bD Q T aB bM C b8=some y→a2 o Z→bU Z j0 j2 (z Q)→bU Z jO kL (z aB)→bU Z j1 j3 (z C)→eV Q→eV aB→eV C→0 < aB→0 < bM→0 < b8→bM≤n→b8≤n→T < n→
   bX (n:Int) j0 (z Q).length j2 (T:Int) jO (z aB).length kL (bM:Int) j1 (z C).length j3 (b8:Int) Z
section
variable {Y:J} {bX:BU} {n:Nat} {o Z:V} {y:Nat × Nat} {bD:rC} {Q T aB bM C b8:Nat} {j0 jO j1:R} {j2 kL j3:Nat}
theorem BV(m:n < 18014398509481984)(d:oK Y o y)(v:rD bX n o y bD){a5:Nat}(a:oI n bD Q T aB bM C b8 a5=some y)(ID:a5≤n)(f:a2 o Z)(c:bU Z j0 j2 (z Q))(rd:bU Z jO kL (z aB))(g:bU Z j1 j3 (z C))(D:eV Q)(h:eV aB)(i:eV C)
  (fB:0 < bM) (gQ:0 < b8) (IE:bM≤n) (E:b8≤n) (aK:T < n) :
  h1.fJ.t Y bX (n:Int) j0 (z Q).length j2 (T:Int) jO (z aB).length kL (bM:Int) j1 (z C).length j3 (b8:Int) (a5:Int) Z:=by
 unfold oI at a
 unfold h1.fJ.t
 refine fP (fun G=>d.now (oH a (by rw [Nat.beq_eq];omega)) f c) fun G=>?_
 replace a:=u9 a (by rw [Nat.beq_eq];omega)
 refine sU rd rfl g rfl (by omega) h i fun H P Iv b Iw=>?_
 refine BS gQ (by omega) (by omega) m (by omega) (by omega) ?_
 have Ix:=h.le (Nat.sub_le aB (C*a5))
 have Iy:0 < jN bM a5 b8 n:=by unfold jN;rw [k2];omega
 have e:=f.trans b
 have Iz:=Iw.dL
 generalize aB - C*a5=j at *
 generalize jN bM a5 b8 n=IA at *
 unfold h1.gY.t
 refine fP (fun l=>d.now (oH a (by simp only [Bool.or_eq_true,Nat.blt_eq,Nat.beq_eq];left;exact l7.mp (by omega))) e (c.I b)) fun l=>?_
 have d1:j ≠ 0:=fun IB=>l (by rw [IB,cP];rfl)
 refine b1 (fun IC=>d.now (oH a (by simp only [Bool.or_eq_true,Nat.blt_eq,Nat.beq_eq];right;omega)) e (c.I b)) fun IC=>?_
 replace a:=u9 a (by simp only [Bool.or_eq_true,Nat.blt_eq,Nat.beq_eq];omega)
 exact v Q T j IA C b8 j0 H j1 j2 P j3 Iv a e (c.I b) Iz (g.I b) D Ix i (by omega) Iy gQ (by omega) E aK
theorem BW(f:n < 18014398509481984)(g:oK Y o y)(h:rD bX n o y bD){L:Nat}(b:oI n bD Q T aB bM C b8 (kK L (fO aB C n))=some y)(G:L≤n+1)(D:C ≠ 0)(i:a2 o Z)(j:bU Z j0 j2 (z Q))(rd:bU Z jO kL (z aB))(c:bU Z j1 j3 (z C))(l:eV Q)(d:eV aB)(e:eV C)
  (fB:0 < bM) (gQ:0 < b8) (m:bM≤n) (v:b8≤n) (aK:T < n) :
  h1.dX.t Y bX (n:Int) j0 (z Q).length j2 (T:Int) jO (z aB).length kL (bM:Int) j1 (z C).length j3 (b8:Int) (L:Int) Z:=by
 unfold h1.dX.t
 refine u7 rd rfl c rfl D (by omega) d e fun H a=>?_
 have P:fO aB C n≤n:=by unfold fO;rw [k2];omega
 rw [k2] at b
 generalize fO aB C n=t at *
 refine b1 (fun E=>?_) fun E=>?_
 ·refine BV f g h (a5:=t) (by rw [show min L t=t by omega] at b;exact b) (by omega) (i.trans a) (j.I a) (rd.I a) (c.I a) l d e fB gQ m v aK
 ·refine BV f g h (a5:=L) (by rw [show min L t=L by omega] at b;exact b) (by omega) (i.trans a) (j.I a) (rd.I a) (c.I a) l d e fB gQ m v aK
theorem BX(D:n < 18014398509481984)(d:oK Y o y)(E:rD bX n o y bD)(a:oJ n bD Q T aB bM C b8=some y)(e:a2 o Z)(b:bU Z j0 j2 (z Q))(rd:bU Z jO kL (z aB))(f:bU Z j1 j3 (z C))(h:eV Q)(g:eV aB)(c:eV C)
  (fB:0 < bM) (gQ:0 < b8) (G:bM≤n) (aK:T < n) :
  h1.cW.t Y bX (n:Int) j0 (z Q).length j2 (T:Int) jO (z aB).length kL (bM:Int) j1 (z C).length j3 (b8:Int) Z:=by
 unfold oJ at a
 unfold h1.cW.t
 refine fP (fun H=>d.now (oH a (by simp only [Bool.or_eq_true,Nat.blt_eq,Nat.beq_eq];left;exact l7.mp (by omega))) e b) fun H=>?_
 have i:C ≠ 0:=fun j=>H (by rw [j,cP];rfl)
 refine b1 (fun Iw=>d.now (oH a (by simp only [Bool.or_eq_true,Nat.blt_eq,Nat.beq_eq];right;omega)) e b) fun Iw=>?_
 replace a:=u9 a (by simp only [Bool.or_eq_true,Nat.blt_eq,Nat.beq_eq];omega)
 unfold h1.dP.t
 refine pR rd rfl b rfl g.hS h.hS fun Iz IA aI cQ P=>?_
 have Ix:=g.le (Nat.sub_le aB Q)
 refine u7 P.dL rfl (f.I cQ) rfl i (by omega) Ix c fun IB l=>?_
 have a1:fO (aB - Q) C n≤n:=by unfold fO;rw [k2];omega
 generalize fO (aB - Q) C n=v at *
 refine q7 ((f.I cQ).I l) rfl (by omega) c.hS (c.sT (by omega)) fun IC ID IE Iv Iy=>?_
 refine oD Iy.dL rfl ((P.dL.I l).I Iv) rfl ?_
 have eT:=(cQ.trans l).trans Iv
 refine b1 (fun m=>?_) fun m=>?_
 ·refine cK (v+1) (by omega) (by omega) ?_
  have O:Nat.blt (C*v) (aB - Q)=true:=by rw [Nat.blt_eq];exact rB.mp m
  rw [O] at a
  exact BW D d E a (by omega) i (e.trans eT) (b.I eT) (rd.I eT) (f.I eT) h g c fB gQ G (by omega) aK
 ·have O:Nat.blt (C*v) (aB - Q)=false:=by
   rw [← Bool.not_eq_true,Nat.blt_eq];exact fun j=>m (rB.mpr j)
  rw [O] at a
  exact BW D d E a (by omega) i (e.trans eT) (b.I eT) (rd.I eT) (f.I eT) h g c fB gQ G (by omega) aK
theorem BY(g:n < 18014398509481984)(c:oK Y o y)(l:rD bX n o y bD)(a:lQ n bD Q T aB bM C b8=some y)(d:a2 o Z)(b:bU Z j0 j2 (z Q))(rd:bU Z jO kL (z aB))(h:bU Z j1 j3 (z C))(m:eV Q)(e:eV aB)(f:eV C)
  (P:0 < aB) (fB:0 < bM) (gQ:0 < b8) (v:bM≤n) (Iv:b8≤n) (aK:T < n) :
  h1.bP.t Y bX (n:Int) j0 (z Q).length j2 (T:Int) jO (z aB).length kL (bM:Int) j1 (z C).length j3 (b8:Int) Z:=by
 unfold lQ at a
 unfold h1.bP.t
 refine cK (T+bM) (by omega) (by omega) ?_
 refine cK (n - 1) (by omega) (by omega) ?_
 refine b1 (fun O=>c.now (oH a (by simp only [Bool.or_eq_true,Nat.blt_eq,Nat.beq_eq,Nat.ble_eq];left;omega)) d b) fun O=>?_
 refine fP (fun D=>c.now (oH a (by simp only [Bool.or_eq_true,Nat.blt_eq,Nat.beq_eq,Nat.ble_eq];right;left;exact l7.mp (by omega))) d b) fun D=>?_
 refine oD rd rfl b rfl ?_
 refine b1 (fun i=>c.now (oH a (by simp only [Bool.or_eq_true,Nat.blt_eq,Nat.beq_eq,Nat.ble_eq];right;right;exact BT.mp i)) d b) fun i=>?_
 have h5:Q ≠ 0:=fun j=>D (by rw [j,cP];rfl)
 have Iw:Q < aB:=Nat.lt_of_not_le fun j=>i (BT.mpr j)
 replace a:=u9 a (by simp only [Bool.or_eq_true,Nat.blt_eq,Nat.beq_eq,Nat.ble_eq];omega)
 unfold h1.bS.t
 refine u7 h rfl rd rfl (by omega) (by omega) f e fun aI cQ=>?_
 have Ix:fO C aB n≤n:=by unfold fO;rw [k2];omega
 generalize fO C aB n=b7 at *
 refine b1 (fun E=>?_) fun E=>?_
 ·refine sU (h.I cQ) rfl (rd.I cQ) rfl (by omega) f e fun Iy bA Iz G H=>?_
  refine BS fB (by omega) (by omega) g (by omega) (by omega) ?_
  have eT:=cQ.trans G
  have:Nat.beq b7 0=false:=by rw [← Bool.not_eq_true,Nat.beq_eq];omega
  rw [this] at a
  exact BX g c l a (d.trans eT) (b.I eT) (rd.I eT) H.dL m e (f.le (Nat.sub_le _ _)) fB (by show 0 < jN b8 b7 bM n;unfold jN;rw [k2];omega) v aK
 ·obtain rfl:b7=0:=by omega
  rw [Nat.mul_zero,Nat.sub_zero] at a
  exact BX g c l a (d.trans cQ) (b.I cQ) (rd.I cQ) (h.I cQ) m e f fB gQ v aK
theorem Gy(e:n < 18014398509481984)(f:oK Y o y)(g:rD bX n o y bD)(a:oG n bD Q T aB bM C b8=some y)(h:a2 o Z)(d:bU Z j0 j2 (z Q))(rd:bU Z jO kL (z aB))(i:bU Z j1 j3 (z C))(b:eV Q)(c:eV aB)(j:eV C)
  (l:0 < aB) (fB:0 < bM) (gQ:0 < b8) (m:bM≤n) (v:b8≤n) (aK:T < n) :
  h1.a4.t Y bX (n:Int) j0 (z Q).length j2 (T:Int) jO (z aB).length kL (bM:Int) j1 (z C).length j3 (b8:Int) Z:=by
 rw [Gx] at a
 unfold h1.a4.t
 refine u7 d rfl rd rfl (by omega) (by omega) b c fun aI cQ=>?_
 refine cK (n - 1) (by omega) (by omega) ?_
 refine cK (n - 1 - T) (by omega) (by omega) ?_
 refine⟨by omega,?_⟩
 have P:(n - 1 - T) / bM≤n - 1 - T:=Nat.div_le_self _ _
 refine cK ((n - 1 - T) / bM) (by rw [Int.tdiv_eq_ediv_of_nonneg (by omega),← Int.natCast_ediv]) (by omega) ?_
 have D:(if (((n - 1 - T) / bM:Nat):Int) < ((fO Q aB n:Nat):Int) then(((n - 1 - T) / bM:Nat):Int) else((fO Q aB n:Nat):Int))=((kK (fO Q aB n) ((n - 1 - T) / bM):Nat):Int):=by
  rw [k2];split <;> omega
 rw [D]
 have Iv:kK (fO Q aB n) ((n - 1 - T) / bM)*bM≤n - 1 - T:=(Nat.le_div_iff_mul_le fB).mp (by rw [k2];omega)
 have Iw:kK (fO Q aB n) ((n - 1 - T) / bM)≤n:=by rw [k2];omega
 generalize kK (fO Q aB n) ((n - 1 - T) / bM)=t at *
 refine b1 (fun E=>?_) fun E=>?_
 ·refine sU (d.I cQ) rfl (rd.I cQ) rfl (by omega) b c fun Ix bA Iy G H=>?_
  have eT:=cQ.trans G
  refine cK (t*bM) (by rw [Int.natCast_mul]) (by omega) ?_
  refine cK (T+t*bM) (by omega) (by omega) ?_
  exact BY e f g a (h.trans eT) H.dL (rd.I eT) (i.I eT) (b.le (Nat.sub_le _ _)) c j l fB gQ m v (by omega)
 ·obtain rfl:t=0:=by omega
  rw [Nat.mul_zero,Nat.sub_zero,Nat.zero_mul,Nat.add_zero] at a
  exact BY e f g a (h.trans cQ) (d.I cQ) (rd.I cQ) (i.I cQ) b c j l fB gQ m v aK
end
theorem BZ{Y:J}{n:Nat}(b:n < 18014398509481984){o:V}{y:Nat × Nat}(c:oK Y o y):∀ a3,rD (h1.dG.t Y a3) n o y (u2 n a3)
 | 0=>fun _ _ _ _ _ _ _ _ _ _ _ _ _ a=>by cases a
 | a3+1=>fun Q T aB bM C b8 j0 jO j1 j2 kL j3 Z a d e rd f g h i j fB gQ l m aK=>Gy b c (BZ b c a3) a d e rd f g h i j fB gQ l m aK
theorem pW:2 ^ 320=bL:=by kernel_rfl
theorem m0{M U:Nat}(Z:M < U):2 ^ M < 2 ^ U:=Nat.pow_lt_pow_right (by decide) Z
theorem Gz{m M U:Nat}(O:2 ^ M=m)(Z:M < U):m < 2 ^ U:=by rw [← O];exact m0 Z
theorem GA{U:Nat}(Z:320 < U):bL < 2 ^ U:=Gz (M:=320) pW Z
theorem GB(n:Nat):1*2 ^ n=2 ^ n:=Nat.one_mul _
theorem rE{Q t M U:Nat}(a:Q < 2 ^ M)(b:t < 2 ^ U):Q*t < 2 ^ (M+U):=by rw [Nat.pow_add];exact Nat.mul_lt_mul'' a b
theorem xN{k U:Nat}(Z:k < 2 ^ U):k+1 < 2 ^ (U+1):=by rw [Nat.pow_succ];omega
theorem mC{Q:Nat}(Z:Q≤bL):eV Q:=Nat.lt_of_le_of_lt Z (GA (U:=400) (by decide))
theorem g0:0 < bL:=Nat.lt_of_lt_of_le (show 0 < 1 by decide) (Nat.le_of_ble_eq_true (by kernel_rfl))
theorem xO(Q:Nat):hK Q=if Q=0 then 0 else bL - Q:=by
 unfold hK
 by_cases Z:Q=0
 ·subst Z;rfl
 ·rw [if_neg Z]
  have:Nat.beq Q 0=false:=by rw [← Bool.not_eq_true,Nat.beq_eq];exact Z
  rw [this];rfl
theorem pX{Q:Nat}(Z:Q < bL):hK Q < bL:=by
 rw [xO];split <;> omega
section
variable {a N:R} {c aB l m Q k t n:Nat} {Z:V}
theorem B0{A:R→Nat→Nat→V→Prop}(g:∀ a c K,a2 Z K→cH dB Z K a c (z bL)→A a (z bL).length c K):
  aG oL.id #[] Z fun v K=>aE v fun a l c=>A a l c K:=by
 refine bE (dC:=fun v K=>a2 Z K∧∃ a c,v=.slice a (z bL).length c∧cH dB Z K a c (z bL)) ?_ fun v K ⟨U,a,c,O,C⟩=>by subst O;exact g a c K U C
 refine oL.ok ?_
 unfold oL.t oL.u.t
 refine pQ (Q:=1) (by decide) fun f h aI cQ d=>?_
 have O:1*2 ^ 320=bL:=(GB 320).trans pW
 refine uZ (n:=320) rfl d.dL rfl (by decide) (sG (by decide)) (by rw [O];exact(mC (Nat.le_refl _)).hS) fun i bA j e b=>?_
 rw [O] at b ⊢
 exact⟨cQ.trans e,_,_,rfl,b.from cQ.le⟩
theorem B1{A:R→Nat→Nat→V→Prop}(C:bU Z a c (z Q))(b:l=(z Q).length)(j:Q < bL)(g:∀ a c K,a2 Z K→bU K a c (z (hK Q))→A a (z (hK Q)).length c K):
  aG oM.id #[.slice a l c] Z fun v K=>aE v fun a l c=>A a l c K:=by
 refine bE (dC:=fun v K=>a2 Z K∧∃ a c,v=.slice a (z (hK Q)).length c∧bU K a c (z (hK Q))) ?_ fun v K ⟨U,a,c,O,C⟩=>by subst O;exact g a c K U C
 refine oM.ok ?_
 unfold oM.t oM.u.t
 refine fP (fun O=>?_) fun O=>?_
 ·have:Q=0:=l7.mp (by omega)
  subst this
  exact⟨a2.refl _,none,0,by show _=Value.slice none (z 0).length 0;rw [cP];rfl,by show bU _ _ _ (z 0);rw [cP];exact bU.nil _ _ _⟩
 ·have aO:Q ≠ 0:=fun e=>O (by rw [b,e,cP];rfl)
  have f:bL - Q*1=hK Q:=by rw [xO,if_neg aO,Nat.mul_one]
  refine B0 fun m n aI cQ h=>?_
  refine sU (t:=1) h.dL rfl (C.I cQ) b (by decide) (mC (Nat.le_refl _)) (mC (by omega)) fun D bA E i d=>?_
  rw [f] at d ⊢
  exact⟨cQ.trans i,_,_,rfl,d.dL⟩
theorem GC{A:Int→R→Nat→Nat→V→Prop}{b at_ a3:Nat}{y:Nat × Nat}(i:sR bL b at_ n a3=some y)(C:bU Z a c (z at_))(j:l=(z at_).length)(F:bU Z N aB (z b))(D:m=(z b).length)
  (aZ:b < bL) (Iy:at_ < bL) (b0:0 < n) (E:n < 18014398509481984) (g:∀ a c K,a2 Z K→bU K a c (z y.2)→A (y.1:Int) a (z y.2).length c K) :
  aG h1.id #[.agg #[.slice a l c,.slice N m aB],.int .u64 (n:Int)] Z fun v K=>cO v fun k=>cL k fun G eD=>aC .u64 G fun Q=>cL eD fun H P=>aE H fun a l c=>bG P (A Q a l c K):=by
 refine bE (dC:=fun v K=>a2 Z K∧∃ a c,v=.tuple #[.int .u64 (y.1:Int),.slice a (z y.2).length c]∧bU K a c (z y.2)) ?_ fun v K ⟨U,a,c,O,C⟩=>by subst O;exact fR rfl (a9 (bJ rfl (a9 (aQ rfl (b3 (g a c K U C))))))
 have Iv:=BQ aZ b0 i
 subst j;subst D
 refine h1.ok ?_
 unfold h1.t h1.u.t
 refine dH fun aI e cQ=>?_
 refine r6 e (U:=0) rfl ?_
 refine B0 fun Iz bA IA d Iw=>?_
 refine⟨d.pre,e.DP 1,?_⟩
 refine r6 (e.I d) (U:=1) rfl ?_
 refine sU (t:=1) Iw.dL rfl ((F.I cQ).I d) rfl (by decide) (mC (Nat.le_refl _)) (mC (by omega)) fun IB IC Ix f h=>?_
 refine⟨f.cM d.le,?_⟩
 refine r6 ((e.I d).I f) (U:=1) rfl ?_
 have O:bL - b*1=bL - b:=by rw [Nat.mul_one]
 rw [O] at h ⊢
 have eT:=(cQ.trans d).trans f
 exact⟨a3,BZ E (o:=Z) (y:=y) (fun a c K U C=>⟨U,a,c,rfl,C⟩) a3 at_ 0 (bL - b) 1 b 1 _ _ _ _ _ _ Ix Iv eT (C.I eT) h.dL (F.I eT) (mC (by omega)) (mC (by omega)) (mC (by omega)) (by omega) (by decide) (by decide) (by omega) (by omega) b0⟩
theorem B2{A:Int→R→Nat→Nat→V→Prop}{a6 aK a3:Nat}{up:Bool}{y:Nat × Nat}(b:lO a3 Q a6 aK up=some y)(C:bU Z a c (z Q))(IF:l=(z Q).length)(IG:Q < 2 ^ 1400)
  (IU:a6≤aK) (IV:aK < 9007199254740992) (g:∀ a c K,a2 Z K→bU K a c (z y.2)→A (y.1:Int) a (z y.2).length c K) :
  aG m1.id #[.slice a l c,.int .u64 (a6:Int),.int .u64 (aK:Int),.bool up] Z fun v K=>cO v fun k=>cL k fun IH eD=>aC .u64 IH fun Q=>cL eD fun II IJ=>aE II fun a l c=>bG IJ (A Q a l c K):=by
 refine bE (dC:=fun v K=>a2 Z K∧∃ a c,v=.tuple #[.int .u64 (y.1:Int),.slice a (z y.2).length c]∧bU K a c (z y.2)) ?_ fun v K ⟨U,a,c,O,C⟩=>by subst O;exact fR rfl (a9 (bJ rfl (a9 (aQ rfl (b3 (g a c K U C))))))
 have e9:e3 Q:=iC IG (by omega)
 unfold lO at b
 simp only [iW,sQ,Nat.mul_eq,Nat.sub_eq,Nat.succ_eq_add_one,Nat.add_eq] at b
 refine m1.ok ?_
 unfold m1.t m1.u.t
 refine Bq (n:=320) rfl C IF (by decide) e9 fun IW IX aI cQ i=>?_
 rw [pW] at i ⊢
 have j:Q % bL < bL:=Nat.mod_lt _ g0
 refine q7 i.dL rfl (by omega) (mC (by omega)).hS ((mC (by omega)).sT (by omega)) fun IY bA IZ P IK=>?_
 refine Bq (n:=320) rfl IK.dL rfl (by decide) ((mC (by omega)).sT (by omega)) fun I0 I1 IL Iv Iw=>?_
 rw [pW] at Iw ⊢
 have nA:Q % bL*a6 % bL < bL:=Nat.mod_lt _ g0
 have Ix:=(i.dL.I P).I Iv
 have Iy:=Iw.dL
 have eT:=(cQ.trans P).trans Iv
 generalize Q % bL*a6 % bL=Iz at *
 generalize Q % bL=IA at *
 have two:∀ (e at_:Nat) (m D:R) (E G:Nat) (d:V),e=cond up (hK IA) IA→at_=cond up (hK Iz) Iz→a2 Z d→bU d D G (z at_)→bU d m E (z e)→e < bL→at_ < bL→
   m1.aD.t (fun v K=>a2 Z K∧∃ a c,v=.tuple #[.int .u64 (y.1:Int),.slice a (z y.2).length c]∧bU K a c (z y.2)) (a6:Int) (aK:Int) m (z e).length E D (z at_).length G d:=by
  intro e at_ m D E G d IM IN f IP IQ aZ IB
  rw [← IM,← IN] at b
  unfold m1.aD.t
  refine cK (aK - a6) (by omega) (by omega) ?_
  refine cK (aK - a6+1) (by omega) (by omega) ?_
  split at b
  ·rename_i T v a1
   have IS:=(sS aZ IB (by omega) a1).1
   refine GC a1 IP rfl IQ rfl aZ IB (by omega) (by omega) fun IC ID IE h H=>?_
   have b:=Option.some.inj b
   subst b
   have I2:T < aK - a6+1:=IS
   refine cK (a6+T) (by show((a6:Int)+((T:Nat):Int))=_;omega) (by omega) ?_
   exact⟨f.trans h,IC,ID,rfl,H⟩
  ·cases b
 cases up with
 | true=>
  simp only [cond_true]
  refine B1 Ix rfl j fun I3 I4 d f IT=>?_
  refine B1 (Iy.I f) rfl nA fun IC ID IE h H=>?_
  exact two _ _ _ _ _ _ IE rfl rfl ((eT.trans f).trans h) H (IT.I h) (pX j) (pX nA)
 | false=>exact two _ _ _ _ _ _ IL rfl rfl eT Iy Ix j nA
theorem B3{A:R→Nat→Nat→V→Prop}{up:Bool}(C:bU Z a c (z Q))(i:l=(z Q).length)(b:Q < 2 ^ 1400)(d:t < 18446744073709551616)
  (g:∀ a c K,a2 Z K→cH dB Z K a c (z (gR Q t up))→A a (z (gR Q t up)).length c K) :
  aG oN.id #[.slice a l c,.int .u64 (t:Int),.bool up] Z fun v K=>aE v fun a l c=>A a l c K:=by
 refine bE (dC:=fun v K=>a2 Z K∧∃ a c,v=.slice a (z (gR Q t up)).length c∧cH dB Z K a c (z (gR Q t up))) ?_ fun v K ⟨U,a,c,O,C⟩=>by subst O;exact g a c K U C
 refine oN.ok ?_
 unfold oN.t oN.u.t
 have hS:e3 (Q*t):=BR b (rA d) (by omega)
 refine q7 C i d (iC b (by omega)) hS fun P Iv aI cQ j=>?_
 refine xE (n:=320) rfl j.dL rfl (by decide) hS fun Iw bA Ix e f=>?_
 rw [pW] at f ⊢
 have O:gR Q t up=Q*t / bL+cond up 1 0:=by unfold gR;rw [show Nat.mul t Q=t*Q from rfl,Nat.mul_comm];rfl
 rw [O]
 have m:Q*t / bL≤Q*t:=Nat.div_le_self _ _
 have D:e3 (Q*t / bL+1):=iC (xN (Nat.lt_of_le_of_lt m (rE b (rA d)))) (by omega)
 cases up with
 | true=>
  simp only [cond_true]
  refine pQ (Q:=1) (by decide) fun Iy Iz IA h E=>?_
  refine sH (f.dL.I h) rfl E.dL rfl D fun IB IC ID G H=>?_
  exact⟨((cQ.trans e).trans h).trans G,_,_,rfl,H.from ((cQ.trans e).trans h).le⟩
 | false=>exact⟨cQ.trans e,_,_,rfl,f.from cQ.le⟩
structure rF(Q a6 aK s:Nat):Prop where
 lR:a6≤s
 mD:s≤aK+1
 under:∀ m,a6≤m→m < s→m*Q < bL
 sV:s≤aK→bL≤s*Q
theorem rF.B4{Q a6 aK s eG:Nat}(b7:rF Q a6 aK s)(v:rF Q a6 aK eG):s=eG:=by
 rcases Nat.lt_trichotomy s eG with Z | Z | Z
 ·have:=b7.sV (by have:=v.mD;omega)
  have:=v.under s b7.lR Z;omega
 ·exact Z
 ·have:=v.sV (by have:=b7.mD;omega)
  have:=b7.under eG v.lR Z;omega
theorem vA{Q a6 aK:Nat}(e:a6≤aK):rF Q a6 aK (lP Q a6 aK):=by
 unfold lP
 rw [l9,l9]
 simp only [u4,Nat.mul_eq,Nat.sub_eq,Nat.succ_eq_add_one,Nat.add_eq]
 by_cases aI:bL≤a6*Q
 ·rw [if_pos aI];exact⟨Nat.le_refl _,by omega,fun m a N=>by omega,fun _=>aI⟩
 rw [if_neg aI]
 by_cases b:bL≤aK*Q
 ·rw [if_pos b]
  have aO:0 < Q:=Nat.pos_of_ne_zero fun O=>by rw [O,Nat.mul_zero] at b;have:=g0;omega
  have f:(bL+Q - 1) / Q*Q≤bL+Q - 1:=Nat.div_mul_le_self _ _
  have d:=Nat.lt_mul_div_succ (bL+Q - 1) aO
  rw [Nat.mul_add,Nat.mul_one,Nat.mul_comm] at d
  have mono:∀ a N,a≤N→a*Q≤N*Q:=fun a N Z=>Nat.mul_le_mul_right Q Z
  refine⟨Nat.le_of_not_lt fun c=>?_,?_,fun m _ N=>?_,fun _=>by omega⟩
  ·have:=mono _ _ (show(bL+Q - 1) / Q+1≤a6 by omega)
   rw [Nat.add_mul,Nat.one_mul] at this;omega
  ·refine Nat.le_of_not_lt fun c=>?_
   have:=mono _ _ (show aK+1+1≤(bL+Q - 1) / Q by omega)
   rw [Nat.add_mul,Nat.add_mul,Nat.one_mul] at this;omega
  ·have:=mono _ _ (show m+1≤(bL+Q - 1) / Q by omega)
   rw [Nat.add_mul,Nat.one_mul] at this;omega
 ·rw [if_neg b]
  refine⟨by omega,Nat.le_refl _,fun m _ N=>?_,fun c=>by omega⟩
  have:=Nat.mul_le_mul_right Q (show m≤aK by omega);omega
theorem GD{Y:J}{a6 aK:Nat}{o:V}(D:Q < 2 ^ 1400)(E:l=(z Q).length)(Ix:1≤a6)(n:a6≤aK)(Iy:aK < 9007199254740992)(G:bU o a c (z Q))(g:∀ K,a2 o K→Y (.int .u64 ((lP Q a6 aK:Nat):Int)) K):
  ∀ (U b7 v:Nat) (Z:V),v+1≤b7+U→a6≤b7→b7≤v+1→v≤aK→(∀ m,a6≤m→m < b7→m*Q < bL)→(∀ m,v < m→m≤aK→bL≤m*Q)→a2 o Z→
   kM.bZ.t Y (U+1) a l c (b7:Int) (v:Int) Z:=by
 intro U
 induction U with
 | zero=>
  intro b7 v Z H f P a1 h i e
  obtain rfl:b7=v+1:=by omega
  unfold kM.bZ.t kM.bP.t
  refine b1 (fun O=>absurd O (by omega)) fun _=>?_
  unfold kM.aD.t
  have:v+1=lP Q a6 aK:=rF.B4 ⟨f,by omega,h,fun d=>i (v+1) (by omega) d⟩ (vA n)
  rw [this];exact g Z e
 | succ U bD=>
  intro b7 v Z H f P a1 h i e
  unfold kM.bZ.t kM.bP.t
  refine b1 (fun O=>?_) fun O=>?_
  ·refine cK (v - b7) (by omega) (by omega) ?_
   refine⟨by decide,?_⟩
   refine cK ((v - b7) / 2) (by rw [Int.tdiv_eq_ediv_of_nonneg (by omega)];omega) (by omega) ?_
   refine cK (b7+(v - b7) / 2) (by omega) (by omega) ?_
   have Iz:b7≤b7+(v - b7) / 2:=by omega
   have IA:b7+(v - b7) / 2≤v:=by omega
   have IB:(v - b7) / 2+(v - b7) / 2≤v - b7:=by omega
   generalize b7+(v - b7) / 2=b at *
   refine B3 (G.I e) E D (by omega) fun IC ID aI cQ IE=>?_
   have em:gR Q b false=b*Q / bL:=rfl
   rw [em]
   refine b1 (fun j=>?_) fun j=>?_
   ·have:b*Q / bL ≠ 0:=fun d=>by rw [d,cP] at j;exact absurd j (by decide)
    have IF:bL≤b*Q:=Nat.le_of_not_lt fun d=>this (Nat.div_eq_of_lt d)
    refine cK (b - 1) (by omega) (by omega) ?_
    refine bD b7 (b - 1) aI (by omega) f (by omega) (by omega) h (fun m Iv Iw=>?_) (e.trans cQ)
    have:=Nat.mul_le_mul_right Q (show b≤m by omega);omega
   ·have:b*Q / bL=0:=l7.mp (by omega)
    have IG:b*Q < bL:=by
     refine Nat.lt_of_not_le fun d=>?_
     have:=Nat.div_pos d g0;omega
    refine cK (b+1) (by omega) (by omega) ?_
    refine bD (b+1) v aI (by omega) (by omega) (by omega) a1 (fun m Iv Iw=>?_) i (e.trans cQ)
    have:=Nat.mul_le_mul_right Q (show m≤b by omega);omega
  ·unfold kM.aD.t
   obtain rfl:b7=v+1:=by omega
   have:v+1=lP Q a6 aK:=rF.B4 ⟨f,by omega,h,fun d=>i (v+1) (by omega) d⟩ (vA n)
   rw [this];exact g Z e
theorem GF{A:Int→V→Prop}{a6 aK:Nat}(C:bU Z a c (z Q))(b:l=(z Q).length)(d:Q < 2 ^ 1400)(e:1≤a6)(f:a6≤aK)(h:aK < 9007199254740992)(g:∀ K,a2 Z K→A ((lP Q a6 aK:Nat):Int) K):
  aG kM.id #[.slice a l c,.int .u64 (a6:Int),.int .u64 (aK:Int)] Z fun v K=>aC .u64 v fun Q=>A Q K:=by
 refine bE (dC:=fun v K=>a2 Z K∧v=.int .u64 ((lP Q a6 aK:Nat):Int)) ?_ fun v K ⟨U,O⟩=>by subst O;exact g K U
 refine kM.ok ?_
 unfold kM.t kM.u.t
 exact⟨aK+1 - a6+1,GD d b e f h C (fun K U=>⟨U,rfl⟩) (aK+1 - a6) a6 aK Z (by omega) (Nat.le_refl _) (by omega) (Nat.le_refl _) (fun m aI i=>by omega) (fun m aI i=>by omega) (a2.refl _)⟩
def eK(Q k:Nat):Nat:=if Q < k then k - Q else Q - k
theorem B5{A:R→Nat→Nat→V→Prop}(C:bU Z a c (z Q))(b:l=(z Q).length)(F:bU Z N aB (z k))(d:m=(z k).length)(e9:e3 Q)(j:e3 k)
  (g:∀ a c K,a2 Z K→bU K a c (z (eK Q k))→A a (z (eK Q k)).length c K) :
  aG m2.id #[.slice a l c,.slice N m aB] Z fun v K=>aE v fun a l c=>A a l c K:=by
 refine bE (dC:=fun v K=>a2 Z K∧∃ a c,v=.slice a (z (eK Q k)).length c∧bU K a c (z (eK Q k))) ?_ fun v K ⟨U,a,c,O,C⟩=>by subst O;exact g a c K U C
 refine m2.ok ?_
 unfold m2.t m2.u.t
 refine oD C b F d ?_
 refine b1 (fun O=>?_) fun O=>?_
 ·have e:eK Q k=k - Q:=if_pos (rB.mp O)
  unfold m2.aD.t
  refine pR F d C b j e9 fun f h aI cQ i=>?_
  rw [e]
  exact⟨cQ,f,h,rfl,i.dL⟩
 ·have e:eK Q k=Q - k:=if_neg fun n=>O (rB.mpr n)
  unfold m2.aD.t
  refine pR C b F d e9 j fun f h aI cQ i=>?_
  rw [e]
  exact⟨cQ,f,h,rfl,i.dL⟩
theorem GG{A:R→Nat→Nat→Int→V→Prop}(C:bU Z a c (z Q))(b:l=(z Q).length)(F:bU Z N aB (z k))(d:m=(z k).length)(e9:e3 Q)(e:e3 k)(hS:e3 (Q*k))
  (g:∀ a c K,a2 Z K→cH dB Z K a c (z (Q*k))→A a (z (Q*k)).length c 0 K) :
  aG nH.id #[.slice a l c,.slice N m aB] Z fun v K=>cO v fun k=>cL k fun f eD=>aE f fun a l c=>cL eD fun h i=>aC .i64 h fun Q=>bG i (A a l c Q K):=by
 refine bE (Fk C F b d) fun v K ⟨U,t⟩=>?_
 have O:qZ (z Q) (z k)=(z (Q*k),0):=by unfold qZ;rw [if_pos ⟨k1 e9,k1 e⟩,dZ,dZ,pP hS]
 rw [O] at t
 exact t.g9 fun a c C T=>g a c K U C
end
theorem oO(n:Nat):Nat.pow 2 n=2 ^ n:=rfl
theorem GH{Q k M:Nat}(a:Q < 2 ^ M)(b:k < 2 ^ M):Q+k < 2 ^ (M+1):=by rw [Nat.pow_succ];omega
theorem xP{L n:Nat}(Z:n=4400 - L):Nat.div iD (Nat.pow 2 n)=dO L:=by subst Z;rfl
theorem GI{n:Nat}(Z:n ≠ 0):dK n=Nat.log2 n+1:=if_neg Z
theorem GJ{a N:Nat}(Z:Nat.xor a N < Nat.land a N):a ≠ 0∧N ≠ 0∧dK a=dK N:=by
 have aI:Nat.land a N≤a:=Nat.and_le_left
 have c:Nat.land a N≤N:=Nat.and_le_right
 have b:a ≠ 0:=by omega
 have d:N ≠ 0:=by omega
 refine⟨b,d,?_⟩
 have e:∀ a N:Nat,a ≠ 0→Nat.land a N≤N→Nat.xor a N < Nat.land a N→¬ dK N < dK a:=by
  intro a N b c Z f
  have g:N < 2 ^ Nat.log2 a:=hH.mp (by rw [GI b] at f;omega)
  have h:a.testBit (Nat.log2 a)=true:=Nat.testBit_log2 b
  have i:N.testBit (Nat.log2 a)=false:=Nat.testBit_lt_two_pow g
  have j:(a ^^^ N).testBit (Nat.log2 a)=true:=by rw [Nat.testBit_xor,h,i];rfl
  have:=Nat.ge_two_pow_of_testBit j
  have O:Nat.xor a N=a ^^^ N:=rfl
  omega
 have cQ:=e a N b c Z
 have l:=e N a d (by have O:Nat.land N a=Nat.land a N:=Nat.and_comm N a;omega) (by
  have O:Nat.land N a=Nat.land a N:=Nat.and_comm N a
  have m:Nat.xor N a=Nat.xor a N:=Nat.xor_comm N a
  omega)
 omega
theorem B6{b7 v a N:Nat}(Z:u5 b7 v a N=true):a ≠ 0∧N ≠ 0∧dK a=dK N∧2 ^ b7≤a∧a≤2 ^ v:=by
 unfold u5 at Z
 rw [iW,iW,l9,l9,oO,oO] at Z
 split at Z
 ·rename_i aI
  split at Z
  ·rename_i b
   obtain⟨Q,k,a5⟩:=GJ aI
   exact⟨Q,k,a5,b,Nat.le_of_ble_eq_true Z⟩
  ·cases Z
 ·cases Z
structure Told(L Q U:Nat):Prop where
 side:U*dO L+U < Q∨Q < U*dO L
 bits:dK (eK Q (U*dO L))=dK (eK Q (U*dO L+U))
 low:2 ^ 1201≤eK Q (U*dO L)
 GK:eK Q (U*dO L)≤2 ^ 1470
 b0:eK Q (U*dO L) ≠ 0
 dF:eK Q (U*dO L+U) ≠ 0
theorem GL{n L Q U:Nat}(e:n=4400 - L)(Z:xM n Q U=true):Told L Q U:=by
 unfold xM at Z
 rw [iW,iW,xP e,l9,l9] at Z
 simp only [Nat.mul_eq,Nat.add_eq,Nat.sub_eq,Nat.succ_eq_add_one] at Z
 split at Z
 ·rename_i aI
  obtain⟨a,N,c,aB,O⟩:=B6 Z
  have b:eK Q (U*dO L)=Q - U*dO L:=if_neg (by omega)
  have d:eK Q (U*dO L+U)=Q - (U*dO L+U):=if_neg (by omega)
  rw [← b] at a c aB O
  rw [← d] at N c
  exact⟨Or.inl aI,c,aB,O,a,N⟩
 ·split at Z
  ·rename_i aI f
   obtain⟨a,N,c,aB,O⟩:=B6 Z
   have b:eK Q (U*dO L)=U*dO L - Q:=if_pos (by omega)
   have d:eK Q (U*dO L+U)=U*dO L+U - Q:=if_pos (by omega)
   rw [← b] at a c aB O
   rw [← d] at N c
   exact⟨Or.inr f,c,aB,O,a,N⟩
  ·cases Z
def j4(L Q U:Nat):Int:=((L+2:Nat):Int) - (dK (eK Q (U*dO L)):Int)
section
variable {a:R} {c l U m O:Nat} {Z:V}
theorem GM{A:Int→V→Prop}(C:bU Z a c (z U))(Iw:l=(z U).length)(n:m < 18446744073709551616)(IS:O < 2000)(D:U < 2 ^ 2000)(IC:Told 1400 (m*2 ^ (O+1337)) U)
  (g:∀ K,a2 Z K→A (j4 1400 (m*2 ^ (O+1337)) U) K) :
  aG nO.id #[.int .u64 (m:Int),.int .i64 ((O:Int) - 64),.slice a l c] Z fun v K=>aC .i64 v fun Q=>A Q K:=by
 refine bE (dC:=fun v K=>a2 Z K∧v=.int .i64 (j4 1400 (m*2 ^ (O+1337)) U)) ?_ fun v K ⟨U,O⟩=>by subst O;exact g K U
 have Ix:dO 1400 < 2 ^ 4403:=Nat.lt_of_le_of_lt (show dO 1400≤iD from Nat.div_le_self _ _) (Nat.le_of_ble_eq_true (by kernel_rfl))
 have ID:e3 U:=iC D (by omega)
 obtain⟨i,IT,E,IE⟩:∃ i,i≤7000∧U*dO 1400 < 2 ^ i∧2000 < i:=⟨2000+4403,by omega,rE D Ix,by omega⟩
 have Iy:e3 (U*dO 1400+U):=iC (GH E (Nat.lt_trans D (m0 (M:=2000) IE))) (by omega)
 have e9:m*2 ^ (O+1337) < 2 ^ (64+(O+1338)):=rE (rA n) (m0 (by omega))
 have G:e3 (m*2 ^ (O+1337)):=iC e9 (by omega)
 obtain⟨IF,IG,IU,IH,II,IJ⟩:=IC
 have IK:=BG Z (y:=1400) (by decide) (by decide)
 unfold j4
 clear g
 generalize dO 1400=P at *
 refine nO.ok ?_
 unfold nO.t nO.u.t
 refine⟨1,?_⟩
 unfold nO.dG.t nO.a4.t
 refine bE IK fun v aI ⟨cQ,IL⟩=>?_
 refine IL.elim fun IV IW IM=>?_
 refine GG (C.I cQ) Iw IM rfl ID (iC Ix (by omega)) (iC E (by omega)) fun IX bA IY Iz H=>?_
 refine sH H.dL rfl ((C.I cQ).I Iz) Iw Iy fun IZ I0 I1 Iv IA=>?_
 refine pQ n fun I2 I3 I4 f IN=>?_
 refine b9 ((O:Int)+1336) (by omega) (by omega) (by omega) ?_
 refine b9 ((O+1337:Nat):Int) (by omega) (by omega) (by omega) ?_
 refine uZ rfl IN.dL rfl (by omega) (sG n) G fun I5 I6 I7 h j=>?_
 refine B5 j.dL rfl (((H.dL.I Iv).I f).I h) rfl G (iC E (by omega)) fun I8 I9 Ja d IB=>?_
 refine B5 (j.dL.I d) rfl (((IA.dL.I f).I h).I d) rfl G Iy fun Jb Jc Jd e IP=>?_
 have b0:(z (eK (m*2 ^ (O+1337)) (U*P))).length ≠ 0:=fun b=>II (l7.mp b)
 have dF:(z (eK (m*2 ^ (O+1337)) (U*P+U))).length ≠ 0:=fun b=>IJ (l7.mp b)
 refine b1 (fun _=>?_) fun b=>absurd (by omega) b
 refine b1 (fun _=>?_) fun b=>absurd (by omega) b
 refine xF (IB.I e) rfl ?_
 refine xF IP rfl ?_
 rw [← IG]
 refine fP (fun _=>?_) fun b=>absurd rfl b
 refine oD ((j.dL.I d).I e) rfl ((((H.dL.I Iv).I f).I h).I d |>.I e) rfl ?_
 refine oD ((j.dL.I d).I e) rfl ((((IA.dL.I f).I h).I d).I e) rfl ?_
 have IQ:e4 (m*2 ^ (O+1337)) (U*P)=e4 (m*2 ^ (O+1337)) (U*P+U):=by
  unfold e4
  rcases IF with F | F
  ·rw [if_neg (by omega),if_neg (by omega),if_neg (by omega),if_neg (by omega)]
  ·rw [if_pos (by omega),if_pos (by omega)]
 rw [IQ]
 refine fP (fun _=>?_) fun b=>absurd rfl b
 refine b9 1402 (by decide) (by decide) (by decide) ?_
 refine xF (IB.I e) rfl ?_
 have Je:dK (eK (m*2 ^ (O+1337)) (U*P))≤1471:=hH.mpr (Nat.lt_of_le_of_lt IH (m0 (M:=1470) (U:=1471) (by decide)))
 refine b9 (1402 - (dK (eK (m*2 ^ (O+1337)) (U*P)):Int)) rfl (by omega) (by omega) ⟨?_,rfl⟩
 exact(((((cQ.trans Iz).trans Iv).trans f).trans h).trans d).trans e
end
theorem xQ:∀ N:Nat,N < 54→e7 .u64 1 (N:Int)=((2 ^ N:Nat):Int):=by decide
theorem B7{O:Nat}(a:O < 1036):fU O=mY (O+256):=by
 unfold fU mY
 rw [show 4400 - (O+256)=Nat.sub 4144 O by show _=4144 - O;omega];rfl
theorem GN{y:Nat}(a:y≤4400):mY y < 2 ^ y:=by
 unfold mY
 rw [Nat.div_lt_iff_lt_mul (Nat.pow_pos (by decide)),← Nat.pow_add,show y+(4400 - y)=4400 by omega]
 exact Nat.le_of_ble_eq_true (by kernel_rfl)
theorem xR{O:Nat}(a:O < 1036):fU O < 2 ^ 1400:=Nat.lt_trans (by rw [B7 a];exact GN (y:=O+256) (by omega)) (m0 (M:=O+256) (U:=1400) (by omega))
theorem vB{a3 a a6 aK:Nat}{up:Bool}{y:Nat × Nat}(b:lO a3 a a6 aK up=some y)(d:a6≤aK):a6≤y.1∧y.1≤aK:=by
 unfold lO at b
 simp only [iW,sQ,Nat.mul_eq,Nat.sub_eq,Nat.succ_eq_add_one,Nat.add_eq] at b
 split at b
 ·rename_i T v a1
  have aZ:cond up (hK (a % bL)) (a % bL) < bL:=by
   cases up
   ·exact Nat.mod_lt _ g0
   ·exact pX (Nat.mod_lt _ g0)
  have c:cond up (hK (a % bL*a6 % bL)) (a % bL*a6 % bL) < bL:=by
   cases up
   ·exact Nat.mod_lt _ g0
   ·exact pX (Nat.mod_lt _ g0)
  have aI:=(sS aZ c (by omega) a1).1
  have b:=Option.some.inj b
  subst b
  have e:T < aK - a6+1:=aI
  exact⟨by show a6≤a6+T;omega,by show a6+T≤aK;omega⟩
 ·cases b
section
variable {Z:V} {N O:Nat}
def xS(Z:V)(m U Q:Nat)(v:Value)(K:V):Prop:=
 a2 Z K∧∃ a c,v=.tuple #[.agg #[.int .u64 (m:Int),.slice a (z U).length c,.int .i64 (j4 1400 Q U)],.int .i64 0]∧cH dB Z K a c (z U)
theorem xT{a:R}{c m x:Nat}{up:Bool}{o Z:V}{bN:List Value}(g:a2 o Z)(P:o.size≤x)(s:cY Z x bN)(Iv:bN.length=3)(Iw:O < 1036)(C:bU Z a c (z (fU O)))(d:m < 18446744073709551616)
  (Ix:Told 1400 (m*2 ^ (O+1337)) (gR (fU O) m up)) :
  m3.a4.t (xS o m (gR (fU O) m up) (m*2 ^ (O+1337))) ((O:Int) - 64) ⟨x,0,none⟩ a (z (fU O)).length c (m:Int) up Z:=by
 have h:fU O < 2 ^ 1400:=xR Iw
 have Iy:gR (fU O) m up < 2 ^ 2000:=by
  have aI:=rE (rA d) h
  have i:m*fU O / bL≤m*fU O:=Nat.div_le_self _ _
  obtain⟨b,Iz,j⟩:∃ b,b < 2000∧m*fU O / bL+1 < 2 ^ b:=⟨64+1400+1,by decide,xN (Nat.lt_of_le_of_lt i aI)⟩
  have n:gR (fU O) m up≤m*fU O / bL+1:=by unfold gR;cases up <;> simp only [Nat.add_eq,u4,Nat.mul_eq,cond_true,cond_false] <;> omega
  exact Nat.lt_of_le_of_lt n (Nat.lt_trans j (m0 (M:=b) (U:=2000) Iz))
 unfold xS
 unfold m3.a4.t
 refine B3 C rfl h d fun v E aI cQ G=>?_
 refine GM G.dL rfl d (by omega) Iy Ix fun i e=>?_
 have IA:=s.lt
 generalize gR (fU O) m up=U at *
 generalize j4 1400 (m*2 ^ (O+1337)) U=D at *
 match bN,Iv with
 | [IG,IH,II],_=>
  refine qO ((s.I cQ).I e) (U:=0) (by simp) fun j IB IC=>?_
  refine qO IB (U:=1) (by simp) fun n ID IE=>?_
  refine qO ID (U:=2) (by simp) fun IJ f IF=>?_
  refine wU f (U:=0) (t:=.u64) (Q:=(m:Int)) (by simp) ?_
  refine r6 f (U:=1) (a:=v) (l:=(z U).length) (c:=E) (by simp) ?_
  refine wU f (U:=2) (t:=.i64) (Q:=D) (by simp) ?_
  have H:=(IC.trans IE).trans IF
  exact⟨aV.I ((g.trans cQ).trans e) H P,v,E,rfl,((G.I e).aJ IA H).from g.le⟩
theorem B8{a3 a a6 aK m:Nat}{up:Bool}(Z:pV a3 a a6 aK=some (m,up)):
  ∃ b Q,lO a3 a a6 aK true=some (b,Q)∧((lP a a6 aK≤aK∧∃ c k,lO a3 a (lP a a6 aK) aK false=some (c,k)∧((Q≤k∧m=b∧up=true)∨(k < Q∧m=c∧up=false)))∨(¬ lP a a6 aK≤aK∧m=b∧up=true)):=by
 unfold pV at Z
 split at Z
 ·cases Z
 ·rename_i b Q aI
  rw [iW,l9] at Z
  refine⟨b,Q,aI,?_⟩
  split at Z
  ·rename_i d
   left
   refine⟨d,?_⟩
   split at Z
   ·cases Z
   ·rename_i c k e
    refine⟨c,k,e,?_⟩
    rw [l9] at Z
    split at Z
    ·have Z:=Option.some.inj Z;cases Z;exact Or.inl ⟨by assumption,rfl,rfl⟩
    ·have Z:=Option.some.inj Z;cases Z;exact Or.inr ⟨by omega,rfl,rfl⟩
  ·right
   have Z:=Option.some.inj Z;cases Z
   exact⟨by assumption,rfl,rfl⟩
theorem GO{a O N:Nat}(Z:u6 a O N=true):∃ m up,pV 80 a (2 ^ N) (2 ^ (N+1) - 1)=some (m,up)∧Told 1400 (m*2 ^ (O+1337)) (gR a m up):=by
 unfold u6 at Z
 rw [oO,oO] at Z
 simp only [Nat.sub_eq,Nat.succ_eq_add_one] at Z
 split at Z
 ·cases Z
 ·rename_i m up b
  rw [iW,iW,oO] at Z
  exact⟨m,up,b,GL (n:=3000) (L:=1400) rfl Z⟩
theorem sW{N:Nat}(a:N < 53):1≤2 ^ N∧2 ^ N≤4503599627370496∧2 ^ (N+1)=2 ^ N+2 ^ N:=by
 refine⟨Nat.pow_pos (by decide),?_,by rw [Nat.pow_succ];omega⟩
 exact Nat.le_trans (Nat.pow_le_pow_right (by decide) (show N≤52 by omega)) (by decide)
theorem GP(Z:V)(Iz:N < 53)(h:O < 1036){m:Nat}{up:Bool}(IA:pV 80 (fU O) (2 ^ N) (2 ^ (N+1) - 1)=some (m,up))(D:Told 1400 (m*2 ^ (O+1337)) (gR (fU O) m up)):
  aG m3.id #[.int .i64 ((N+1:Nat):Int),.int .i64 ((O:Int) - 64)] Z (xS Z m (gR (fU O) m up) (m*2 ^ (O+1337))):=by
 obtain⟨iM,gC,II⟩:=sW Iz
 obtain⟨IJ,Q,aI,E⟩:=B8 IA
 have IB:=B7 h
 have G:=xR h
 refine m3.ok ?_
 unfold m3.t m3.u.t
 refine dH fun i IC ID=>?_
 refine b1 (fun b=>absurd b (by omega)) fun _=>?_
 refine b1 (fun b=>absurd b (by omega)) fun _=>?_
 refine b1 (fun b=>absurd b (by omega)) fun _=>?_
 refine b1 (fun b=>absurd b (by omega)) fun _=>?_
 unfold m3.aD.t
 have X:aG pY.id #[.int .i64 ((O:Int) - 64)] i fun v K=>a2 i K∧dS i K v (z (fU O),0):=by
  refine pY.ok ?_
  unfold pY.t pY.u.t
  refine b9 ((O+256:Nat):Int) (by omega) (by omega) (by omega) ?_
  refine bE (Gn i (by omega) (by omega)) fun v IE ⟨j,l⟩=>?_
  rw [← IB] at l
  exact l.g9 fun a c C T=>⟨j,dS.back (y:=(z (fU O),0)) C T⟩
 refine bE X fun v IE ⟨j,l⟩=>?_
 refine l.elim fun IK IL g=>?_
 refine r1 (fun b=>absurd rfl b) fun _=>?_
 refine b9 (N:Int) (by omega) (by omega) (by omega) ?_
 refine⟨by omega,aN.mk ?_⟩
 rw [xQ N (by omega)]
 refine⟨by omega,aN.mk ?_⟩
 rw [xQ (N+1) (by omega)]
 refine cK (2 ^ (N+1) - 1) (by omega) (by omega) ?_
 have n:2 ^ N≤2 ^ (N+1) - 1:=by omega
 have b:2 ^ (N+1) - 1 < 9007199254740992:=by omega
 generalize 2 ^ (N+1) - 1=aK at *
 generalize 2 ^ N=a6 at *
 have Iw:=vB aI n
 refine B2 aI g rfl G n b fun IM IN IP d IF=>?_
 refine GF (g.I d) rfl G iM n b fun IQ e=>?_
 have IS:=vA (Q:=fU O) n
 have H:=((ID.trans j).trans d).trans e
 have P:=((IC.I j).I d).I e
 rcases E with ⟨Iv,IT,k,Ix,E⟩ | ⟨Iv,rfl,rfl⟩
 ·refine b1 (fun _=>?_) fun b=>absurd (by omega) b
  have IG:=vB Ix Iv
  refine B2 Ix ((g.I d).I e) rfl G Iv b fun IU IV IW f IH=>?_
  refine oD IH rfl ((IF.I e).I f) rfl ?_
  rcases E with ⟨Iy,rfl,rfl⟩ | ⟨Iy,rfl,rfl⟩
  ·refine b1 (fun b=>absurd (rB.mp b) (by show ¬ k < Q;omega)) fun _=>?_
   exact xT (H.trans f) (Nat.le_refl _) (P.I f) rfl h (((g.I d).I e).I f) (by have:m≤aK:=Iw.2;omega) D
  ·refine b1 (fun _=>?_) fun b=>absurd (rB.mpr (show k < Q from Iy)) b
   exact xT (H.trans f) (Nat.le_refl _) (P.I f) rfl h (((g.I d).I e).I f) (by have:m≤aK:=IG.2;omega) D
 ·refine b1 (fun b=>absurd b (by omega)) fun _=>?_
  exact xT H (Nat.le_refl _) P rfl h ((g.I d).I e) (by have:m≤aK:=Iw.2;omega) D
end
theorem xU{k:Nat}(Z:k < bL):∃ c,k+hK k=bL*c:=by
 rw [xO]
 by_cases o:k=0
 ·rw [if_pos o];exact⟨0,by omega⟩
 ·rw [if_neg o];exact⟨1,by omega⟩
theorem B9(a a6 T:Nat):((hK (a % bL*a6 % bL)+T*hK (a % bL)) % bL+(a6+T)*a) % bL=0:=by
 rw [Nat.mod_add_mod]
 obtain⟨b,aI⟩:=xU (Nat.mod_lt a g0)
 obtain⟨bA,g⟩:=xU (Nat.mod_lt (a % bL*a6) g0)
 have c:=Nat.div_add_mod a bL
 have h:=Nat.div_add_mod (a % bL*a6) bL
 generalize hK (a % bL*a6 % bL)=b7 at *
 generalize hK (a % bL)=v at *
 generalize a % bL*a6 % bL=L at *
 generalize a % bL*a6 / bL=d at *
 generalize aZ:a % bL=F at *
 have O:b7+T*v+(a6+T)*a=bL*(bA+d+T*b+(a6+T)*(a / bL)):=by
  have i:(a6+T)*a=(a6+T)*(bL*(a / bL))+a6*F+T*F:=by
   conv=>lhs;rw [← c]
   rw [Nat.mul_add,Nat.add_mul a6 T F];omega
  have j:T*F+T*v=T*(bL*b):=by rw [← Nat.mul_add,aI]
  have e:(a6+T)*(bL*(a / bL))=bL*((a6+T)*(a / bL)):=Nat.mul_left_comm _ _ _
  have f:T*(bL*b)=bL*(T*b):=Nat.mul_left_comm _ _ _
  have l:F*a6=a6*F:=Nat.mul_comm _ _
  rw [Nat.mul_add,Nat.mul_add,Nat.mul_add,← e,← f]
  omega
 rw [O,Nat.mul_mod_right]
theorem Ca(a a6 T:Nat):(a % bL*a6 % bL+T*(a % bL)) % bL=((a6+T)*a) % bL:=by
 have b:=Nat.div_add_mod a bL
 rw [Nat.mod_add_mod]
 have O:(a6+T)*a=a % bL*a6+T*(a % bL)+bL*((a6+T)*(a / bL)):=by
  have c:(a6+T)*(bL*(a / bL))=bL*((a6+T)*(a / bL)):=Nat.mul_left_comm _ _ _
  have d:a % bL*a6=a6*(a % bL):=Nat.mul_comm _ _
  rw [← c,d,← Nat.add_mul]
  conv=>lhs;rw [← b]
  rw [Nat.mul_add];omega
 rw [O,Nat.add_mul_mod_self_left]
theorem xV{bW aH k U:Nat}(b:aH < bW)(Z:(aH+k) % bW=0)(c:k < U*bW):aH+k≤U*bW:=by
 have aI:=Nat.div_add_mod (aH+k) bW
 rw [Z,Nat.add_zero] at aI
 by_cases a:(aH+k) / bW≤U
 ·have:=Nat.mul_le_mul_left bW a
  rw [Nat.mul_comm bW U] at this;omega
 ·have:=Nat.mul_le_mul_left bW (show U+1≤(aH+k) / bW by omega)
  rw [Nat.mul_add,Nat.mul_one,Nat.mul_comm bW U] at this;omega
theorem GQ{bW aH k:Nat}(a:aH < bW)(Z:(aH+k) % bW=0)(d:k % bW ≠ 0):aH+k=(k / bW+1)*bW:=by
 have e:=Nat.div_add_mod k bW
 have f:=Nat.mod_lt k (show 0 < bW by omega)
 have g:aH+k≤(k / bW+1)*bW:=xV a Z (by rw [Nat.add_mul,Nat.one_mul,Nat.mul_comm];omega)
 have aI:=Nat.div_add_mod (aH+k) bW
 rw [Z,Nat.add_zero] at aI
 have b:k / bW < (aH+k) / bW:=by
  refine Nat.lt_of_not_le fun c=>?_
  have:=Nat.mul_le_mul_left bW c;omega
 have:=Nat.mul_le_mul_left bW (show k / bW+1≤(aH+k) / bW from b)
 rw [Nat.mul_comm bW (k / bW+1)] at this;omega
theorem Cb{bW k U:Nat}(a:0 < bW)(Z:U*bW≤k):U*bW+k % bW≤k:=by
 have b:=Nat.div_add_mod k bW
 have:=Nat.mul_le_mul_left bW ((Nat.le_div_iff_mul_le a).mpr Z)
 rw [Nat.mul_comm bW U] at this;omega
theorem GR{a3 a a6 aK m Q:Nat}(b:lO a3 a a6 aK true=some (m,Q))(f:a6≤aK):
  Q < bL∧(Q+m*a) % bL=0∧∀ dM,a6≤dM→dM≤aK→∀ cD,dM*a < cD*bL→Q+dM*a≤cD*bL:=by
 unfold lO at b
 simp only [iW,sQ,Nat.mul_eq,Nat.sub_eq,Nat.succ_eq_add_one,Nat.add_eq,cond_true] at b
 split at b
 ·rename_i T v a1
  obtain⟨aI,c,d⟩:=sS (pX (Nat.mod_lt _ g0)) (pX (Nat.mod_lt _ g0)) (by omega) a1
  have b:=Option.some.inj b
  cases b
  simp only at aI c d
  refine⟨by rw [← c];exact Nat.mod_lt _ g0,by rw [← c];exact B9 a a6 T,fun dM g h cD e=>?_⟩
  obtain⟨M,rfl⟩:∃ M,dM=a6+M:=⟨dM - a6,by omega⟩
  have i:=d M (by omega)
  have j:=xV (Nat.mod_lt _ g0) (B9 a a6 M) e
  omega
 ·cases b
theorem GS{a3 a a6 aK m k:Nat}(b:lO a3 a a6 aK false=some (m,k))(g:a6≤aK):
  k=(m*a) % bL∧∀ dM,a6≤dM→dM≤aK→∀ cD,cD*bL≤dM*a→cD*bL+k≤dM*a:=by
 unfold lO at b
 simp only [iW,sQ,Nat.mul_eq,Nat.sub_eq,Nat.succ_eq_add_one,Nat.add_eq,cond_false] at b
 split at b
 ·rename_i T v a1
  obtain⟨aI,c,d⟩:=sS (Nat.mod_lt _ g0) (Nat.mod_lt _ g0) (by omega) a1
  have b:=Option.some.inj b
  cases b
  simp only at aI c d
  refine⟨by rw [← c];exact Ca a a6 T,fun dM h i cD e=>?_⟩
  obtain⟨M,rfl⟩:∃ M,dM=a6+M:=⟨dM - a6,by omega⟩
  have f:=d M (by omega)
  rw [Ca] at f
  have j:=Cb g0 e
  omega
 ·cases b
def Sep(a dC:Nat):Prop:=∀ M A,0 < M→M < 18014398509481984→(M*a < A*bL→M*a+dC≤A*bL)∧(A*bL≤M*a→A*bL+dC≤M*a)
theorem Cc{F:Nat}(aZ:F < bL)(Z:q8 F=true):∀ M,0 < M→M < 18014398509481984→2 ^ 150≤(M*F) % bL:=by
 unfold q8 at Z
 split at Z
 ·cases Z
 ·rename_i T v a1
  obtain⟨_,_,b⟩:=sS aZ aZ (by decide) a1
  have c:2 ^ 150≤v:=Nat.le_of_ble_eq_true Z
  intro M o aI
  have a:=b (M - 1) (by omega)
  have O:F+(M - 1)*F=M*F:=by
   conv=>rhs;rw [show M=M - 1+1 by omega]
   rw [Nat.add_mul,Nat.one_mul];omega
  rw [O] at a
  exact Nat.le_trans c a
theorem GU{a:Nat}(aI:q8 (a % bL)=true)(g:q8 (hK (a % bL))=true):Sep a (2 ^ 150):=by
 intro M A d e
 have h:=Cc (Nat.mod_lt a g0) aI M d e
 have m:=Cc (pX (Nat.mod_lt a g0)) g M d e
 have f:(M*(a % bL)) % bL=(M*a) % bL:=Nat.mul_mod_mod M a bL
 rw [f] at h
 obtain⟨c,i⟩:=xU (Nat.mod_lt a g0)
 have j:((M*hK (a % bL)) % bL+M*a) % bL=0:=by
  rw [Nat.mod_add_mod,Nat.add_mod,← f,← Nat.add_mod,← Nat.mul_add,Nat.add_comm,i,Nat.mul_left_comm,Nat.mul_mod_right]
 have l:=Nat.mod_lt (M*hK (a % bL)) g0
 generalize 2 ^ 150=dC at *
 refine⟨fun b=>?_,fun b=>?_⟩
 ·have:=xV l j b;omega
 ·have:=Cb g0 b;omega
structure pZ(a a6 aK m U aB:Nat):Prop where
 lR:a6≤m
 mD:m≤aK
 cQ:1≤U
 eq:aB+m*a=U*bL∨U*bL+aB=m*a
 le:∀ dM cD,a6≤dM→dM≤aK→1≤cD→(dM*a < cD*bL→aB+dM*a≤cD*bL)∧(cD*bL≤dM*a→cD*bL+aB≤dM*a)
theorem rG(a m:Nat):gR a m true=m*a / bL+1:=rfl
theorem Cd(a m:Nat):gR a m false=m*a / bL:=rfl
theorem Ce{a3 a a6 aK m dC:Nat}{up:Bool}(Iw:pV a3 a a6 aK=some (m,up))(j:a6≤aK)(IG:1≤a6)(IH:aK < 9007199254740992)(II:0 < dC)(Ix:Sep a dC):
  ∃ aB,pZ a a6 aK m (gR a m up) aB∧(up=true→aB+m*a=gR a m up*bL)∧(up=false→gR a m up*bL+aB=m*a):=by
 obtain⟨f,Q,aI,l⟩:=B8 Iw
 have v:=vB aI j
 obtain⟨dE,Iy,n⟩:=GR aI j
 have g:=vA (Q:=a) j
 have D:a6≤f:=v.1
 have E:f≤aK:=v.2
 have Iz:(f*a) % bL ≠ 0:=by
  intro IJ
  have t:=Nat.div_add_mod (f*a) bL
  have:=(Ix f (f*a / bL) (by omega) (by omega)).2 (by rw [Nat.mul_comm];omega)
  rw [Nat.mul_comm] at this;omega
 have h:=GQ dE Iy Iz
 rcases l with ⟨i,G,k,t,l⟩ | ⟨i,rfl,rfl⟩
 ·have H:=vB t i
  have IA:lP a a6 aK≤G:=H.1
  have IB:G≤aK:=H.2
  obtain⟨IC,ID⟩:=GS t i
  have P:∀ dM cD,a6≤dM→dM≤aK→1≤cD→cD*bL≤dM*a→cD*bL+k≤dM*a:=by
   intro dM cD c d e b
   refine ID dM (Nat.le_of_not_lt fun IE=>?_) d cD b
   have:=g.under dM c IE
   have:=Nat.mul_le_mul_right bL e;omega
  rcases l with ⟨IF,rfl,rfl⟩ | ⟨IF,rfl,rfl⟩
  ·refine⟨Q,⟨D,E,by rw [rG];exact Nat.le_add_left 1 _,Or.inl (by rw [rG];exact h),fun dM cD c d e=>⟨fun b=>n dM c d cD b,fun b=>?_⟩⟩,fun _=>by rw [rG];exact h,fun b=>(by cases b)⟩
   have:=P dM cD c d e b;omega
  ·have e:1≤gR a m false:=by
    rw [Cd]
    have:=g.sV i
    have:=Nat.mul_le_mul_right a IA
    exact Nat.div_pos (by omega) g0
   have Iv:gR a m false*bL+k=m*a:=by
    rw [Cd,IC,Nat.mul_comm];exact Nat.div_add_mod _ _
   refine⟨k,⟨by have:=g.lR;omega,IB,e,Or.inr Iv,fun dM cD c d e=>⟨fun b=>?_,fun b=>P dM cD c d e b⟩⟩,fun b=>(by cases b),fun _=>Iv⟩
   have:=n dM c d cD b;omega
 ·refine⟨Q,⟨D,E,by rw [rG];exact Nat.le_add_left 1 _,Or.inl (by rw [rG];exact h),fun dM cD c d e=>⟨fun b=>n dM c d cD b,fun b=>?_⟩⟩,fun _=>by rw [rG];exact h,fun b=>(by cases b)⟩
  have:=g.under dM c (by have:=g.mD;omega)
  have:=Nat.mul_le_mul_right bL e;omega
theorem pZ.p0{a a6 aK m U aB dC:Nat}(N:pZ a a6 aK m U aB)(E:1≤a6)(G:aK < 9007199254740992)(H:0 < dC)(c:Sep a dC){dM cD:Nat}(j:a6≤dM)(l:dM≤aK)(n:1≤cD)(t:dM ≠ m):
  (dM*a < cD*bL→aB+dC+dM*a≤cD*bL)∧(cD*bL≤dM*a→cD*bL+(aB+dC)≤dM*a):=by
 have aI:=N.le dM cD j l n
 have B:=N.lR
 have bO:=N.mD
 have h:∀ (k a5:Nat),(k=dM*a∧a5=cD*bL∨a5=dM*a∧k=cD*bL)→aB+k≤a5→aB+dC+k≤a5:=by
  intro k a5 i P
  refine Nat.le_of_not_lt fun Iv=>?_
  have v:=c (m+dM) (U+cD) (by omega) (by omega)
  rw [Nat.add_mul,Nat.add_mul] at v
  rcases Nat.lt_or_gt_of_ne t with D | D
  ·have d:(m - dM)*a=m*a - dM*a:=Nat.sub_mul _ _ _
   have lQ:dM*a≤m*a:=Nat.mul_le_mul_right a (by omega)
   have e:=c (m - dM) (U - cD) (by omega) (by omega)
   have bV:=(c (m - dM) 0 (by omega) (by omega)).2 (by omega)
   rw [Nat.zero_mul,Nat.zero_add] at bV
   have f:(U - cD)*bL=U*bL - cD*bL:=Nat.sub_mul _ _ _
   rw [d,f] at e
   rw [d] at bV
   have oJ:U≤cD→U*bL≤cD*bL:=fun Z=>Nat.mul_le_mul_right bL Z
   have oI:cD≤U→cD*bL≤U*bL:=fun Z=>Nat.mul_le_mul_right bL Z
   rcases N.eq with O | O <;> rcases i with ⟨rfl,rfl⟩ | ⟨rfl,rfl⟩ <;> rcases Nat.le_total U cD with b | b <;> (first | have:=oJ b | have:=oI b) <;> omega
  ·have d:(dM - m)*a=dM*a - m*a:=Nat.sub_mul _ _ _
   have lQ:m*a≤dM*a:=Nat.mul_le_mul_right a (by omega)
   have e:=c (dM - m) (cD - U) (by omega) (by omega)
   have bV:=(c (dM - m) 0 (by omega) (by omega)).2 (by omega)
   rw [Nat.zero_mul,Nat.zero_add] at bV
   have f:(cD - U)*bL=cD*bL - U*bL:=Nat.sub_mul _ _ _
   rw [d,f] at e
   rw [d] at bV
   have oJ:U≤cD→U*bL≤cD*bL:=fun Z=>Nat.mul_le_mul_right bL Z
   have oI:cD≤U→cD*bL≤U*bL:=fun Z=>Nat.mul_le_mul_right bL Z
   rcases N.eq with O | O <;> rcases i with ⟨rfl,rfl⟩ | ⟨rfl,rfl⟩ <;> rcases Nat.le_total U cD with b | b <;> (first | have:=oJ b | have:=oI b) <;> omega
 refine⟨fun g=>h _ _ (Or.inl ⟨rfl,rfl⟩) (aI.1 g),fun g=>?_⟩
 have:=h (cD*bL) (dM*a) (Or.inr ⟨rfl,rfl⟩) (by have:=aI.2 g;omega)
 omega
theorem pZ.half{a a6 aK m U aB dC:Nat}(N:pZ a a6 aK m U aB)(h:1≤a6)(i:aK < 9007199254740992)(j:0 < dC)(g:Sep a dC)(c:2≤U∨U*bL+aB=m*a):aB+aB+dC≤bL:=by
 have B:=N.lR
 have bO:=N.mD
 have l:=g0
 have two:=g (2*m)
 rcases N.eq with O | O
 ·
  rcases c with c | c
  ·have d:(U - 1)*bL=U*bL - bL:=by rw [Nat.sub_mul,Nat.one_mul]
   have lQ:bL≤U*bL:=Nat.le_mul_of_pos_left bL (by omega)
   have aI:=(N.le m (U - 1) B bO (by omega))
   rw [d] at aI
   have e:(2*U - 1)*bL=2*(U*bL) - bL:=by rw [Nat.sub_mul,Nat.one_mul,Nat.mul_assoc]
   have f:2*m*a=2*(m*a):=Nat.mul_assoc _ _ _
   have b:=two (2*U - 1) (by omega) (by omega)
   rw [e,f] at b
   omega
  ·have b:=two (2*U) (by omega) (by omega)
   rw [Nat.mul_assoc,Nat.mul_assoc] at b
   omega
 ·have aI:=(N.le m (U+1) B bO (by omega))
  have d:(U+1)*bL=U*bL+bL:=by rw [Nat.add_mul,Nat.one_mul]
  rw [d] at aI
  have e:(2*U+1)*bL=2*(U*bL)+bL:=by rw [Nat.add_mul,Nat.one_mul,Nat.mul_assoc]
  have f:2*m*a=2*(m*a):=Nat.mul_assoc _ _ _
  have b:=two (2*U+1) (by omega) (by omega)
  rw [e,f] at b
  omega
structure sX(a P cG:Nat):Prop where
 le:a*P≤cG
 lt:cG < (a+1)*(P+1)
 Cf:a+1≤P
theorem sX.rest{a P cG:Nat}(F:sX a P cG):∃ C,cG=a*P+C∧C≤2*P:=by
 have aI:=F.le;have b:=F.lt;have c:=F.Cf
 refine⟨cG - a*P,by omega,?_⟩
 rw [Nat.add_mul,Nat.mul_add,Nat.mul_one,Nat.one_mul] at b;omega
theorem xW{bW a P cG m U D Q C:Nat}(b:cG=a*P+C)(c:bW*Q=m*cG)(d:0 < bW)(Z:U*bW+D=m*a):U*P≤Q∧bW*eK Q (U*P)=D*P+m*C:=by
 have f:bW*Q=bW*(U*P)+(D*P+m*C):=by
  rw [c,b,Nat.mul_add,← Nat.mul_assoc,← Z,Nat.add_mul,Nat.mul_assoc,Nat.mul_left_comm];omega
 have aI:U*P≤Q:=Nat.le_of_mul_le_mul_left (by omega) d
 have e:eK Q (U*P)=Q - U*P:=if_neg (by omega)
 refine⟨aI,?_⟩
 rw [e,Nat.mul_sub];omega
theorem vC{bW a P cG m U D Q C:Nat}(b:cG=a*P+C)(c:bW*Q=m*cG)(d:0 < bW)(Z:D+m*a=U*bW)(g:m*C≤D*P):Q≤U*P∧bW*eK Q (U*P)+m*C=D*P:=by
 have h:bW*Q+D*P=bW*(U*P)+m*C:=by
  have e:bW*(U*P)=D*P+m*a*P:=by rw [← Nat.mul_assoc,Nat.mul_comm bW U,← Z,Nat.add_mul]
  rw [c,b,Nat.mul_add,e,← Nat.mul_assoc];omega
 have aI:Q≤U*P:=Nat.le_of_mul_le_mul_left (by omega) d
 have f:eK Q (U*P)=U*P - Q:=by unfold eK;split <;> omega
 refine⟨aI,?_⟩
 rw [f,Nat.mul_sub];omega
theorem GV{a a6 aK m U aB dC P cG G:Nat}(N:pZ a a6 aK m U aB)(t:1≤a6)(v:aK < 9007199254740992)(E:18014398509481984≤dC)(e:Sep a dC)(H:sX a P cG)(IC:bL*G+36028797018963968*P≤dC*P)
  {Q dM cD c:Nat} (i:bL*Q=m*cG) (j:bL*c=dM*cG) (Iv:a6≤dM) (l:dM≤aK) (Iw:1≤cD) (Ix:dM ≠ m):eK Q (U*P)+G≤eK c (cD*P):=by
 obtain⟨C,d,Iy⟩:=H.rest
 have b:=g0
 have bO:=N.mD
 have f:∀ n,n≤aK→n*C≤18014398509481984*P:=fun n ID=>by
  have aI:=Nat.mul_le_mul (show n≤9007199254740992 by omega) Iy
  omega
 have p0:=N.p0 t v (by omega) e Iv l Iw Ix
 have IE:dC*P≤aB*P+dC*P:=Nat.le_add_left _ _
 have IF:(aB+dC)*P=aB*P+dC*P:=Nat.add_mul _ _ _
 have IG:18014398509481984*P≤dC*P:=Nat.mul_le_mul_right P E
 have aI:bL*eK Q (U*P)≤aB*P+18014398509481984*P:=by
  rcases N.eq with O | O
  ·have Iz:dC≤aB:=by
    have:=(e m U (by have:=N.lR;omega) (by omega)).1
    have:=(e m U (by have:=N.lR;omega) (by omega)).2
    omega
   have IH:dC*P≤aB*P:=Nat.mul_le_mul_right P Iz
   have:=(vC d i b O (by have:=f m bO;omega)).2;omega
  ·have:=(xW d i b O).2
   have:=f m bO;omega
 have II:aB*P+dC*P≤bL*eK c (cD*P)+18014398509481984*P:=by
  have:=f dM l
  by_cases IA:dM*a < cD*bL
  ·obtain⟨D,g⟩:∃ D,D+dM*a=cD*bL:=⟨cD*bL - dM*a,by omega⟩
   have h:aB+dC≤D:=by have:=p0.1 IA;omega
   have IB:(aB+dC)*P≤D*P:=Nat.mul_le_mul_right P h
   have:=(vC d j b g (by omega)).2;omega
  ·obtain⟨D,g⟩:∃ D,cD*bL+D=dM*a:=⟨dM*a - cD*bL,by omega⟩
   have h:aB+dC≤D:=by have:=p0.2 (by omega);omega
   have IB:(aB+dC)*P≤D*P:=Nat.mul_le_mul_right P h
   have:=(xW d j b g).2;omega
 refine Nat.le_of_mul_le_mul_left (show bL*(eK Q (U*P)+G)≤bL*eK c (cD*P) from ?_) b
 rw [Nat.mul_add];omega
theorem GW{aH P U:Nat}(d:0 < P)(Z:2*eK aH (U*P) < P):gZ aH P=U:=by
 unfold eK at Z
 unfold gZ
 by_cases a:aH < U*P
 ·rw [if_pos a] at Z
  obtain⟨M,rfl⟩:∃ M,U=M+1:=⟨U - 1,by
   have:U ≠ 0:=fun O=>by rw [O,Nat.zero_mul] at a;omega
   omega⟩
  rw [Nat.add_mul,Nat.one_mul] at Z a
  have O:aH=(aH - M*P)+M*P:=by omega
  have b:aH / P=M:=by rw [O,Nat.add_mul_div_right _ _ d,Nat.div_eq_of_lt (show aH - M*P < P by omega),Nat.zero_add]
  have c:aH % P=aH - M*P:=by rw [O,Nat.add_mul_mod_self_right,Nat.mod_eq_of_lt (show aH - M*P < P by omega)];omega
  rw [if_pos (by left;rw [c];omega),b]
 ·rw [if_neg a] at Z
  have O:aH=(aH - U*P)+U*P:=by omega
  have b:aH / P=U:=by rw [O,Nat.add_mul_div_right _ _ d,Nat.div_eq_of_lt (show aH - U*P < P by omega),Nat.zero_add]
  have c:aH % P=aH - U*P:=by rw [O,Nat.add_mul_mod_self_right,Nat.mod_eq_of_lt (show aH - U*P < P by omega)];omega
  rw [if_neg (by rw [c];omega),b]
theorem Cg(aH P:Nat):gZ aH P≤aH / P+1:=by unfold gZ;split <;> omega
theorem GX{a a6 aK m U aB dC P cG:Nat}(N:pZ a a6 aK m U aB)(l:1≤a6)(n:aK < 9007199254740992)(t:36028797018963969≤dC)(d:Sep a dC)(i:sX a P cG)
  {Q:Nat} (e:bL*Q=m*cG):max 1 (gZ Q P)=U:=by
 obtain⟨C,f,v⟩:=i.rest
 have g:=g0
 have bO:=N.mD
 have B:=N.lR
 have D:0 < P:=by have:=i.Cf;omega
 have Iw:m*C≤18014398509481984*P:=by
  have aI:=Nat.mul_le_mul (show m≤9007199254740992 by omega) v
  omega
 have Ix:36028797018963969*P≤dC*P:=Nat.mul_le_mul_right P t
 have cQ:=N.cQ
 have j:aB+m*a=U*bL→dC≤aB:=fun O=>by
  have:=(d m U (by omega) (by omega)).1
  have:=(d m U (by omega) (by omega)).2
  omega
 by_cases h:2≤U∨U*bL+aB=m*a
 ·have b:=N.half l n (by omega) d h
  have E:(aB+aB+dC)*P≤bL*P:=Nat.mul_le_mul_right P b
  rw [Nat.add_mul,Nat.add_mul] at E
  have aI:bL*eK Q (U*P)≤aB*P+18014398509481984*P:=by
   rcases N.eq with O | O
   ·have G:dC*P≤aB*P:=Nat.mul_le_mul_right P (j O)
    have:=(vC f e g O (by omega)).2;omega
   ·have:=(xW f e g O).2;omega
  have c:2*eK Q (U*P) < P:=by
   refine Nat.lt_of_mul_lt_mul_left (show bL*(2*eK Q (U*P)) < bL*P from ?_)
   rw [Nat.mul_left_comm];omega
  rw [GW D c];omega
 ·have O:aB+m*a=U*bL:=N.eq.resolve_right fun b=>h (Or.inr b)
  have H:U=1:=by
   have:¬ 2≤U:=fun b=>h (Or.inl b)
   omega
  subst H
  have G:dC*P≤aB*P:=Nat.mul_le_mul_right P (j O)
  obtain⟨aI,c⟩:=vC f e g O (by omega)
  rw [Nat.one_mul] at aI c
  have Iy:Q ≠ P:=by
   intro Iv
   rw [Iv] at c
   have:eK P P=0:=by unfold eK;split <;> omega
   rw [this,Nat.mul_zero] at c;omega
  have Iz:Q / P=0:=Nat.div_eq_of_lt (by omega)
  have:=Cg Q P
  omega
theorem p1(n:Nat):bV (n:Int)=(false,n):=by
 unfold bV
 rw [decide_eq_false (by omega),Int.natAbs_natCast]
theorem Ch(n:Nat):cB false n=(n:Int):=rfl
theorem rH(n:Nat):bF (false,n)=(n:Int):=rfl
theorem Ci(m n:Nat):(m:Int)*2 ^ n=((m*2 ^ n:Nat):Int):=by rw [Int.natCast_mul,Int.natCast_pow];rfl
theorem Cj{m U P n:Nat}{k a5:Int}(a:Int.toNat (IntKind.i64.wrap (IntKind.i64.wrap (a5+1)+k))=n):
  dQ.v (m:Int) k false U false P a5=dQ.a4.v false 0 false 0 (bV ((m*2 ^ n:Nat) - (U:Int)*((P:Int)+1))).1 (bV ((m*2 ^ n:Nat) - (U:Int)*((P:Int)+1))).2 (bV ((m*2 ^ n:Nat) - (U:Int)*(P:Int))).1 (bV ((m*2 ^ n:Nat) - (U:Int)*(P:Int))).2:=by
 have O:∀ T:Int,bF ((bV T).1,(bV T).2)=T:=fun T=>oA T
 unfold dQ.v dQ.u.v dQ.aD.v
 simp only [dD,a,O,Int.toNat_natCast,Ch,rH,Ci]
theorem Ck{m U P n:Nat}{k a5:Int}(a:Int.toNat (IntKind.i64.wrap (IntKind.i64.wrap (a5+1)+k))=n)(Z:U*P+U≤m*2 ^ n):
  dQ.v (m:Int) k false U false P a5=((false,m*2 ^ n - (U*P+U)),(false,m*2 ^ n - U*P)):=by
 rw [Cj a]
 generalize m*2 ^ n=aH at *
 have b:((aH:Nat):Int) - (U:Int)*((P:Int)+1)=((aH - (U*P+U):Nat):Int):=by
  rw [Int.mul_add,Int.mul_one,← Int.natCast_mul];omega
 have c:((aH:Nat):Int) - (U:Int)*(P:Int)=((aH - U*P:Nat):Int):=by
  rw [← Int.natCast_mul];omega
 rw [b,c,p1,p1]
 unfold dQ.a4.v
 rw [decide_eq_true (show eJ (bF (false,aH - (U*P+U))) 0≥0 by rw [rH];unfold eJ;split <;> (try split) <;> omega)]
 rfl
theorem Cl{m U P n:Nat}{k a5:Int}(a:Int.toNat (IntKind.i64.wrap (IntKind.i64.wrap (a5+1)+k))=n)(d:1≤U)(Z:m*2 ^ n≤U*P):
  dQ.v (m:Int) k false U false P a5=((false,U*P - m*2 ^ n),(false,U*P+U - m*2 ^ n)):=by
 rw [Cj a]
 generalize m*2 ^ n=aH at *
 have b:((aH:Nat):Int) - (U:Int)*((P:Int)+1)=-((U*P+U - aH:Nat):Int):=by
  rw [Int.mul_add,Int.mul_one,← Int.natCast_mul];omega
 have c:((aH:Nat):Int) - (U:Int)*(P:Int)=-((U*P - aH:Nat):Int):=by
  rw [← Int.natCast_mul];omega
 rw [b,c]
 have d1:∀ T:Int,bF ((bV T).1,(bV T).2)=T:=fun T=>oA T
 unfold dQ.a4.v
 simp only [dD]
 rw [d1,d1,decide_eq_false (show ¬ eJ (-((U*P+U - aH:Nat):Int)) 0≥0 by unfold eJ;rw [if_pos (by omega)];decide),
  decide_eq_true (show eJ (-((U*P - aH:Nat):Int)) 0≤0 by unfold eJ;split <;> (try split) <;> omega),Int.neg_neg,Int.neg_neg,p1,p1]
 rfl
theorem GY{m P n:Nat}{k a5:Int}(a:Int.toNat (IntKind.i64.wrap (IntKind.i64.wrap (a5+1)+k))=n)(c:P ≠ 0):
  hR.v (m:Int) k false P a5=(false,max 1 (gZ (m*2 ^ n) P)):=by
 have O:∀ T:Int,bF ((bV T).1,(bV T).2)=T:=fun T=>oA T
 unfold hR.v hR.u.v
 simp only [dD,a,O,Int.toNat_natCast,Ch,rH,Ci]
 generalize m*2 ^ n=aH at *
 have b:jZ ((aH:Nat):Int) ((P:Nat):Int)=(false,gZ aH P):=by
  unfold jZ
  rw [if_neg (by omega)]
  unfold jL
  rw [decide_eq_false (by omega),decide_eq_false (by omega),Int.natAbs_natCast,Int.natAbs_natCast]
  exact p1 _
 rw [b]
 unfold hR.aD.v
 simp only [dD]
 by_cases o:gZ aH P=0
 ·rw [decide_eq_true (show eJ (bF (false,gZ aH P)) 0≤0 by rw [rH,o];decide),o];rfl
 ·rw [decide_eq_false (show ¬ eJ (bF (false,gZ aH P)) 0≤0 by
   rw [rH];unfold eJ;rw [if_neg (by omega),if_neg (by omega)];decide)]
  show(false,gZ aH P)=_
  rw [show max 1 (gZ aH P)=gZ aH P by omega]
def vD(aU aA:Int):Int:=iX .u64 (e7 .u64 1 (IntKind.i64.wrap (aA - 1))) (fK .u64 aU (IntKind.u64.wrap (e7 .u64 1 (IntKind.i64.wrap (aA - 1)) - 1)))
theorem GZ(Q k:Nat)(a:Q < 18446744073709551616)(b:k < 18446744073709551616):iX .u64 (Q:Int) (k:Int)=((Q ||| k:Nat):Int):=by
 unfold iX
 have O:(BitVec.ofInt IntKind.u64.bits (Q:Int) ||| BitVec.ofInt IntKind.u64.bits (k:Int)).toNat=Q ||| k:=by
  rw [BitVec.toNat_or,BitVec.ofInt_natCast,BitVec.ofInt_natCast,BitVec.toNat_ofNat,BitVec.toNat_ofNat]
  show Q % 18446744073709551616 ||| k % 18446744073709551616=_
  rw [Nat.mod_eq_of_lt a,Nat.mod_eq_of_lt b]
 rw [O]
 have:Q ||| k < 2 ^ 64:=Nat.or_lt_two_pow a b
 rw [show(2:Nat) ^ 64=18446744073709551616 by decide] at this
 simp only [IntKind.wrap,IntKind.bits,IntKind.signed,Bool.false_and,Bool.false_eq_true,if_false]
 omega
theorem G0(Q k:Nat)(a:Q < 18446744073709551616)(b:k < 18446744073709551616):fK .u64 (Q:Int) (k:Int)=((Q &&& k:Nat):Int):=by
 unfold fK
 have O:(BitVec.ofInt IntKind.u64.bits (Q:Int) &&& BitVec.ofInt IntKind.u64.bits (k:Int)).toNat=Q &&& k:=by
  rw [BitVec.toNat_and,BitVec.ofInt_natCast,BitVec.ofInt_natCast,BitVec.toNat_ofNat,BitVec.toNat_ofNat]
  show Q % 18446744073709551616 &&& k % 18446744073709551616=_
  rw [Nat.mod_eq_of_lt a,Nat.mod_eq_of_lt b]
 rw [O]
 have:Q &&& k≤k:=Nat.and_le_right
 simp only [IntKind.wrap,IntKind.bits,IntKind.signed,Bool.false_and,Bool.false_eq_true,if_false]
 omega
theorem wrap_i64{Q:Int}(aI:-9223372036854775808≤Q)(a:Q < 9223372036854775808):IntKind.i64.wrap Q=Q:=by
 simp only [IntKind.wrap,IntKind.bits,IntKind.signed,Bool.true_and,decide_eq_true_eq,ge_iff_le]
 split <;> omega
theorem wrap_u64{Q:Int}(aI:0≤Q)(a:Q < 18446744073709551616):IntKind.u64.wrap Q=Q:=by
 simp only [IntKind.wrap,IntKind.bits,IntKind.signed,Bool.false_and,Bool.false_eq_true,if_false];omega
theorem G1{a5 N:Nat}(a:a5 < 18446744073709551616)(b:N < 53):∃ s:Nat,vD (a5:Int) ((N+1:Nat):Int)=(s:Int)∧2 ^ N≤s∧s≤2 ^ (N+1) - 1:=by
 obtain⟨iM,gC,d⟩:=sW b
 unfold vD
 rw [show((N+1:Nat):Int) - 1=(N:Int) by omega,wrap_i64 (by omega) (by omega),xQ N (by omega)]
 have c:((2 ^ N:Nat):Int) - 1=((2 ^ N - 1:Nat):Int):=by omega
 rw [c,wrap_u64 (by omega) (by omega),G0 _ _ a (by omega),GZ _ _ (by omega) (by have:a5 &&& (2 ^ N - 1)≤2 ^ N - 1:=Nat.and_le_right;omega)]
 refine⟨_,rfl,Nat.left_le_or,?_⟩
 have aI:a5 &&& (2 ^ N - 1) < 2 ^ (N+1):=by
  have:a5 &&& (2 ^ N - 1)≤2 ^ N - 1:=Nat.and_le_right
  omega
 have:=Nat.or_lt_two_pow (show 2 ^ N < 2 ^ (N+1) by omega) aI
 omega
theorem Cm{T M:Int}(Z:M < T):eJ T M=1:=by unfold eJ;rw [if_neg (by omega),if_neg (by omega)]
theorem G2{T M:Int}(Z:T < M):eJ T M=-1:=by unfold eJ;rw [if_pos Z]
theorem G3(T:Int):eJ T T=0:=by unfold eJ;rw [if_neg (by omega),if_pos rfl]
theorem G4{aU aA aL aR e6:Int}{m P a6 aK s A lK U dF eY:Nat}{x:Bool × Nat}(a:vD aU aA=(s:Int))(aI:Int.toNat (IntKind.i64.wrap (aR+1))=dF)(d:Int.toNat (IntKind.i64.wrap (e6+70))=eY)
  {F t:Nat} (aZ:Int.toNat 70=F) (e:Int.toNat 71=t) (h:2 ^ dF*2 ^ F < aK*2 ^ eY) (bA:a6*2 ^ eY < 2 ^ dF*2 ^ t) (f:hR.v (s:Int) aL false P aR=(false,A)) (g:dQ.v (s:Int) aL false A false P aR=(x,(false,lK)))
  (i:s=m→A=U) (j:s ≠ m→a6 < lK):iV.bP.v aU aA aL aR (m:Int) (z U) e6 false P false a6 false aK=true:=by
 have O:∀ T:Int,bF ((bV T).1,(bV T).2)=T:=fun T=>oA T
 unfold iV.bP.v
 unfold vD at a
 rw [aZ,e]
 simp only [dD,a,aI,d,f,g,O,rH]
 clear aZ e aI d f g a
 have lQ:∀ n:Nat,(2:Int) ^ n=((2 ^ n:Nat):Int):=fun n=>by rw [Int.natCast_pow];rfl
 rw [Int.one_mul,lQ,lQ,lQ,lQ,← Int.natCast_mul,← Int.natCast_mul,← Int.natCast_mul,← Int.natCast_mul,Cm (by exact_mod_cast h),G2 (by exact_mod_cast bA)]
 rw [decide_eq_false (show ¬ (1:Int)≤0 by decide),decide_eq_false (show ¬ (-1:Int)≥0 by decide),cond_false,cond_false]
 by_cases b:s=m
 ·have c:(((s:Nat):Int) == (m:Int))=true:=by simp [b]
  rw [c,cond_true,i b]
  have l:iK (false,z U)=(U:Int):=by unfold iK;simp [dZ]
  rw [l,G3];rfl
 ·have c:(((s:Nat):Int) == (m:Int))=false:=by simp only [beq_eq_false_iff_ne];omega
  rw [c,cond_false,Cm (by have:=j b;omega)];rfl
end Go.Proofs.Ytelmicicapbgeaa.G
