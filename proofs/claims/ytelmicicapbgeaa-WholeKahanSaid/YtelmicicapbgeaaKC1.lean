import Derived.Test.YtelmicicapbgeaaKB
import Derived.Test.YtelmicicapbgeaaKC0
namespace Go.Proofs.Ytelmicicapbgeaa.G
open Go.Gv
theorem A0(S:List Nat):S.take (cV S).length=cV S:=by
 induction S with
 | nil=>rfl
 | cons Q S bD=>
  simp only [cV]
  split
  ·rfl
  ·simp [bD]
theorem E5{Y:J}{a:R}{c l:Nat}{S:List Nat}{Z:V}(C:bU Z a c S)(f:l=S.length)(g:Y (.slice a (cV S).length (cV S).length) Z):
  ∀ n:Nat,n≤S.length→cV (S.take n)=cV S→jX.bZ.t Y (n+1) a l c (n:Int) Z:=by
 have aI:=C.len
 intro n
 have fin:∀ n:Nat,n≤S.length→cV S=S.take n→jX.aD.t Y a l c (n:Int) Z:=by
  intro n b O
  refine wL rfl rfl (Nat.le_trans b C.cap) ?_
  have h:(cV S).length=n:=by rw [O,List.length_take];omega
  rw [← h];exact g
 induction n with
 | zero=>
  intro b d
  unfold jX.bZ.t jX.bP.t
  refine b1 (fun Z=>absurd Z (by omega)) fun _=>fin 0 b ?_
  rw [← d];rfl
 | succ n bD=>
  intro b d
  refine b1 (fun _=>?_) fun Z=>absurd (by omega) Z
  refine b9 (n:Int) (by omega) (by omega) (by omega) ?_
  refine eW C (M:=n) rfl f (by omega) ?_
  have e:=lV (S:=S) (n:=n) (by omega)
  refine fP (fun i=>?_) fun i=>?_
  ·refine b9 (n:Int) (by omega) (by omega) (by omega) ?_
   refine bD (by omega) ?_
   rw [← d,e,show S.getD n 0=0 by omega,qK]
  ·refine fin (n+1) b ?_
   rw [← d,e,rZ _ (by omega)]
theorem uT{Z:V}{a:R}{c:Nat}{S:List Nat}(C:bU Z a c S):bU Z a (cV S).length (cV S):=by
 have:=C.take (cV S).length
 rw [A0] at this;exact this.nT (Nat.le_refl _)
theorem sB{a:R}{c l:Nat}{S:List Nat}{Z:V}(C:bU Z a c S)(b:l=S.length):
  aG jX.id #[.slice a l c] Z fun v K=>K=Z∧v=.slice a (cV S).length (cV S).length:=by
 refine jX.ok ?_
 refine⟨S.length+1,?_⟩
 subst b
 exact E5 C rfl ⟨rfl,rfl⟩ S.length (Nat.le_refl _) (by rw [List.take_length])
theorem E6{Y:J}{c n cG x:Nat}{o:V}(h:cG < 2 ^ (64*n))(g:∀ K aF,aV x o K→eB K x aF→aF.length=n→val aF=cG→Y (.tuple #[]) K)(l:n≤35184372088828):
  ∀ (U T a:Nat) (aF:List Nat) (Z:V),T+U=n→a≤1→aF.length=n→eB Z x aF→aV x o Z→val aF+a*2 ^ (64*T)=cG→
   hO.bZ.t Y (U+1) (some ⟨x,0,none⟩) n c (a:Int) (T:Int) Z:=by
 intro U
 induction U with
 | zero=>
  intro T a aF Z aK f b s d O
  unfold hO.bZ.t hO.bP.t
  refine b1 (fun e=>?_) fun e=>?_
  ·have:a=1:=by omega
   subst this
   have:=wM (aF:=aF) (cG:=cG) (T:=T) rfl (by omega) (by rw [b];exact h)
   omega
  ·have:a=0:=by omega
   subst this
   exact g _ _ d s b (by omega)
 | succ U bD=>
  intro T a aF Z aK f b s d O
  unfold hO.bZ.t hO.bP.t
  refine b1 (fun e=>?_) fun e=>?_
  ·have m:=s.word T
   refine eW (s.rd (c:=n) (by omega)) (M:=T) rfl (by omega) (by omega) ?_
   refine mU (N:=0) rfl rfl rfl f ?_
   refine qM s (M:=T) rfl b.symm (by omega) rfl (by omega) fun i j=>?_
   refine b9 ((T+1:Nat):Int) (by omega) (by omega) (by omega) ?_
   refine bD (T+1) _ _ _ (by omega) (by omega) (by simp [b]) i (d.trans j) ?_
   have aZ:=jQ (aF:=aF) (M:=T) (v:=(aF.getD T 0+0+a) % 18446744073709551616) (by omega)
   have:=tZ (a7:=18446744073709551616) (y:=0) (c:=a) (C:=0) (jB:=(aF.getD T 0+0+a) % 18446744073709551616) (c1:=(aF.getD T 0+0+a) / 18446744073709551616) (by omega) aZ
   rw [h3]
   simp only [Nat.zero_add,Nat.mul_zero] at this ⊢
   omega
  ·have:a=0:=by omega
   subst this
   exact g _ _ d s b (by omega)
theorem E7{Y:J}{a:R}{c m l n at_ cG x:Nat}{b:List Nat}{o:V}(C:bU o a m b)(D:l=b.length)(E:b=[]∨eU x a)(G:cG < 2 ^ (64*n))(Iy:at_+b.length≤n)(H:n≤35184372088828)
  (g:∀ K aF,aV x o K→eB K x aF→aF.length=n→val aF=cG→Y (.tuple #[]) K) :
  ∀ (U T d:Nat) (aF:List Nat) (Z:V),T+U=b.length→d≤1→aF.length=n→eB Z x aF→aV x o Z→val aF+(val (b.drop T)+d)*2 ^ (64*(at_+T))=cG→
   hO.fT.t Y (U+1) (some ⟨x,0,none⟩) n c a l m (at_:Int) (d:Int) (l:Int) (T:Int) Z:=by
 subst D
 intro U
 induction U with
 | zero=>
  intro T d aF Z aK i f s h O
  unfold hO.fT.t hO.dX.t
  refine b1 (fun e=>absurd e (by omega)) fun e=>?_
  unfold hO.aD.t
  have P:T=b.length:=by omega
  subst P
  refine b9 ((at_+b.length:Nat):Int) (by omega) (by omega) (by omega) ?_
  refine⟨n - (at_+b.length)+1,?_⟩
  refine E6 G g H _ _ _ aF Z (by omega) i f s h ?_
  rw [List.drop_length] at O
  simpa [val] using O
 | succ U bD=>
  intro T d aF Z aK i f s h O
  have Iz:=s.word (at_+T)
  have IA:=C.word T
  have Iv:eU x a:=by
   rcases E with j | j
   ·subst j;simp at aK
   ·exact j
  unfold hO.fT.t hO.dX.t
  refine b1 (fun e=>?_) fun e=>absurd (by omega) e
  refine b9 ((at_+T:Nat):Int) (by omega) (by omega) (by omega) ?_
  refine b9 ((at_+T:Nat):Int) (by omega) (by omega) (by omega) ?_
  refine eW (s.rd (c:=n) (by omega)) (M:=at_+T) rfl (by omega) (by omega) ?_
  refine eW (C.aJ Iv h) (M:=T) rfl rfl (by omega) ?_
  refine mU rfl rfl rfl i ?_
  refine qM s (M:=at_+T) rfl f.symm (by omega) rfl (by omega) fun Iw Ix=>?_
  refine b9 ((T+1:Nat):Int) (by omega) (by omega) (by omega) ?_
  refine bD (T+1) _ _ _ (by omega) (by omega) (by simp [f]) Iw (h.trans Ix) ?_
  have aZ:=jQ (aF:=aF) (M:=at_+T) (v:=(aF.getD (at_+T) 0+b.getD T 0+d) % 18446744073709551616) (by omega)
  have:=tZ (a7:=18446744073709551616) (y:=b.getD T 0) (c:=d) (C:=val (b.drop (T+1))) (jB:=(aF.getD (at_+T) 0+b.getD T 0+d) % 18446744073709551616) (c1:=(aF.getD (at_+T) 0+b.getD T 0+d) / 18446744073709551616) (by omega) aZ
  rw [← Nat.add_assoc,h3,this,← jI];exact O
theorem uU{a:R}{c e l n m at_ x:Nat}{aF b:List Nat}{Z:V}(s:eB Z x aF)(C:bU Z a e b)(f:l=b.length)(g:n=aF.length)(h:b=[]∨eU x a)(i:val aF+val b*2 ^ (64*at_) < 2 ^ (64*aF.length))(j:at_+b.length≤aF.length){Q:Int}(D:Q=(at_:Int))(E:m=n):
  aG hO.id #[.slice (some ⟨x,0,none⟩) m c,.slice a l e,.int .i64 Q] Z fun v K=>v=.tuple #[]∧aV x Z K∧∃ d,eB K x d∧d.length=aF.length∧val d=val aF+val b*2 ^ (64*at_):=by
 subst D;subst g;subst E
 refine hO.ok ?_
 unfold hO.t hO.u.t hO.cW.t
 have G:=s.len
 refine⟨b.length+1,?_⟩
 refine E7 C f h i j G (fun K d U eG H O=>⟨rfl,U,d,eG,H,O⟩) b.length 0 0 aF Z (by omega) (by omega) rfl s (aV.refl _ _) ?_
 simp
theorem E8{Y:J}{c n cG x:Nat}{o:V}(g:∀ K aF,aV x o K→eB K x aF→aF.length=n→val aF=cG→Y (.tuple #[]) K)(j:n≤35184372088828):
  ∀ (U T a:Nat) (aF:List Nat) (Z:V),T+U=n→a≤1→aF.length=n→eB Z x aF→aV x o Z→val aF=cG+a*2 ^ (64*T)→
   h8.bZ.t Y (U+1) (some ⟨x,0,none⟩) n c (a:Int) (T:Int) Z:=by
 intro U
 induction U with
 | zero=>
  intro T a aF Z aK f b s d O
  unfold h8.bZ.t h8.bP.t
  refine b1 (fun e=>?_) fun e=>?_
  ·have:a=1:=by omega
   subst this
   have:=wM (aF:=aF) (cG:=val aF) (T:=T) rfl (by omega) (gE s.words)
   omega
  ·have:a=0:=by omega
   subst this
   exact g _ _ d s b (by omega)
 | succ U bD=>
  intro T a aF Z aK f b s d O
  unfold h8.bZ.t h8.bP.t
  refine b1 (fun e=>?_) fun e=>?_
  ·have l:=s.word T
   refine eW (s.rd (c:=n) (by omega)) (M:=T) rfl (by omega) (by omega) ?_
   refine qV (N:=0) rfl rfl rfl f (by omega) ?_
   refine qM s (M:=T) rfl b.symm (by omega) rfl (by omega) fun h i=>?_
   refine b9 ((T+1:Nat):Int) (by omega) (by omega) (by omega) ?_
   refine bD (T+1) _ _ _ (by omega) (by split <;> omega) (by simp [b]) h (d.trans i) ?_
   have aZ:=jQ (aF:=aF) (M:=T) (v:=(aF.getD T 0+18446744073709551616 - 0 - a) % 18446744073709551616) (by omega)
   have:=z7 (a7:=18446744073709551616) (b7:=0) (s:=a) (C:=0) (cG:=cG) (jB:=(aF.getD T 0+18446744073709551616 - 0 - a) % 18446744073709551616) (eG:=if aF.getD T 0 < 0+a then 1 else 0) (by split <;> omega) aZ (by simpa using O)
   rw [h3]
   simpa using this
  ·have:a=0:=by omega
   subst this
   exact g _ _ d s b (by omega)
theorem E9{Y:J}{a:R}{c m l n cG x:Nat}{b:List Nat}{o:V}(C:bU o a m b)(D:l=b.length)(E:b=[]∨eU x a)(Iy:b.length≤n)(G:n≤35184372088828)
  (g:∀ K aF,aV x o K→eB K x aF→aF.length=n→val aF=cG→Y (.tuple #[]) K) :
  ∀ (U T d:Nat) (aF:List Nat) (Z:V),T+U=b.length→d≤1→aF.length=n→eB Z x aF→aV x o Z→val aF=cG+(val (b.drop T)+d)*2 ^ (64*T)→
   h8.fT.t Y (U+1) (some ⟨x,0,none⟩) n c a l m (d:Int) (l:Int) (T:Int) Z:=by
 subst D
 intro U
 induction U with
 | zero=>
  intro T d aF Z aK i f s h O
  unfold h8.fT.t h8.dX.t
  refine b1 (fun e=>absurd e (by omega)) fun e=>?_
  unfold h8.aD.t
  have H:T=b.length:=by omega
  subst H
  refine⟨n - b.length+1,?_⟩
  refine E8 g G _ _ _ aF Z (by omega) i f s h ?_
  rw [List.drop_length] at O
  simpa [val] using O
 | succ U bD=>
  intro T d aF Z aK i f s h O
  have Iz:=s.word T
  have P:=C.word T
  have Iv:eU x a:=by
   rcases E with j | j
   ·subst j;simp at aK
   ·exact j
  unfold h8.fT.t h8.dX.t
  refine b1 (fun e=>?_) fun e=>absurd (by omega) e
  refine eW (s.rd (c:=n) (by omega)) (M:=T) rfl (by omega) (by omega) ?_
  refine eW (C.aJ Iv h) (M:=T) rfl rfl (by omega) ?_
  refine qV rfl rfl rfl i P ?_
  refine qM s (M:=T) rfl f.symm (by omega) rfl (by omega) fun Iw Ix=>?_
  refine b9 ((T+1:Nat):Int) (by omega) (by omega) (by omega) ?_
  refine bD (T+1) _ _ _ (by omega) (by split <;> omega) (by simp [f]) Iw (h.trans Ix) ?_
  have aZ:=jQ (aF:=aF) (M:=T) (v:=(aF.getD T 0+18446744073709551616 - b.getD T 0 - d) % 18446744073709551616) (by omega)
  rw [jI] at O
  have:=z7 (a7:=18446744073709551616) (b7:=b.getD T 0) (s:=d) (C:=val (b.drop (T+1))) (cG:=cG) (jB:=(aF.getD T 0+18446744073709551616 - b.getD T 0 - d) % 18446744073709551616) (eG:=if aF.getD T 0 < b.getD T 0+d then 1 else 0) (by split <;> omega) aZ O
  rw [h3];exact this
theorem A1{a:R}{c e l n x:Nat}{aF b:List Nat}{Z:V}(s:eB Z x aF)(C:bU Z a e b)(f:l=b.length)(g:n=aF.length)(h:b=[]∨eU x a)(D:val b≤val aF)(i:b.length≤aF.length):
  aG h8.id #[.slice (some ⟨x,0,none⟩) n c,.slice a l e] Z fun v K=>v=.tuple #[]∧aV x Z K∧∃ d,eB K x d∧d.length=aF.length∧val d=val aF - val b:=by
 subst g
 refine h8.ok ?_
 unfold h8.t h8.u.t h8.cW.t
 have j:=s.len
 refine⟨b.length+1,?_⟩
 refine E9 (cG:=val aF - val b) C f h i j (fun K d U eG m O=>⟨rfl,U,d,eG,m,O⟩) b.length 0 0 aF Z (by omega) (by omega) rfl s (aV.refl _ _) ?_
 simp;omega
theorem getD_set_ne{aF:List Nat}{T t v:Nat}(Z:T ≠ t):(aF.set T v).getD t 0=aF.getD t 0:=by
 simp [List.getD,Z]
theorem Fa{Y:J}{bX:R→Nat→Nat→R→Nat→Nat→R→Nat→Nat→Int→Int→V→Prop}{a N:R}{c j bA h l n M x cG:Nat}{S w:List Nat}{o:V}{aH:Int}
  (C:bU o a j S) (F:bU o N bA w) (P:h=S.length) (Iv:l=w.length) (Iw:S=[]∨eU x a) (Ix:eU x N) (IH:M < w.length) (II:n=S.length+w.length)
  (g:∀ K aF,aV x o K→eB K x aF→aF.length=n→(∀ t,M+1+S.length≤t→aF.getD t 0=0)→val aF+val (w.drop (M+1))*val S*2 ^ (64*(M+1))=cG→bX (some ⟨x,0,none⟩) n c a h j N l bA aH ((M+1:Nat):Int) K) :
  ∀ (U T b:Nat) (aF:List Nat) (Z:V),T+U=S.length→b < 18446744073709551616→aF.length=n→eB Z x aF→aV x o Z→(∀ t,M+S.length≤t→aF.getD t 0=0)→
   val aF+(val (S.drop T)*w.getD M 0+b)*2 ^ (64*(T+M))+val (w.drop (M+1))*val S*2 ^ (64*(M+1))=cG→
   hW.fS.t Y bX (U+1) (some ⟨x,0,none⟩) n c a h j N l bA (M:Int) (b:Int) aH (M:Int) (h:Int) (T:Int) Z:=by
 subst P;subst Iv
 intro U
 induction U with
 | zero=>
  intro T b aF Z aK G d s e i O
  have Iy:=s.len
  unfold hW.fS.t hW.fJ.t
  refine b1 (fun f=>absurd f (by omega)) fun f=>?_
  have Iz:T=S.length:=by omega
  subst Iz
  unfold hW.cW.t
  refine b9 ((M+S.length:Nat):Int) (by omega) (by omega) (by omega) ?_
  refine qM s (M:=M+S.length) rfl d.symm (by omega) rfl G fun m D=>?_
  unfold hW.bP.t
  refine b9 ((M+1:Nat):Int) (by omega) (by omega) (by omega) ?_
  refine g _ _ (e.trans D) m (by simp [d]) (fun t H=>?_) ?_
  ·rw [getD_set_ne (by omega)];exact i t (by omega)
  ·have aZ:=jQ (aF:=aF) (M:=M+S.length) (v:=b) (by omega)
   rw [i _ (Nat.le_refl _)] at aZ
   rw [List.drop_length,Nat.add_comm S.length M] at O
   simp only [val,Nat.zero_mul,Nat.zero_add,Nat.add_zero] at aZ O
   omega
 | succ U bD=>
  intro T b aF Z aK G d s e i O
  have Iy:=s.len
  have IA:=C.word T
  have IB:=F.word M
  have IJ:=s.word (T+M)
  have IC:eU x a:=by
   rcases Iw with E | E
   ·subst E;simp at aK
   ·exact E
  have IK:S.getD T 0*w.getD M 0≤340282366920938463426481119284349108225:=Nat.mul_le_mul (show S.getD T 0≤18446744073709551615 by omega) (show w.getD M 0≤18446744073709551615 by omega)
  unfold hW.fS.t hW.fJ.t
  refine b1 (fun f=>?_) fun f=>absurd (by omega) f
  refine eW (C.aJ IC e) (M:=T) rfl rfl (by omega) ?_
  refine eW (F.aJ Ix e) (M:=M) rfl rfl (by omega) ?_
  refine bE (w3 IA IB _) fun v K ⟨ID,IE⟩=>?_
  subst ID
  refine IE.elim ?_
  have cI:val (S.drop T)*w.getD M 0=S.getD T 0*w.getD M 0+18446744073709551616*(val (S.drop (T+1))*w.getD M 0):=by
   rw [jI,Nat.add_mul,Nat.mul_assoc]
  rw [cI] at O
  generalize S.getD T 0*w.getD M 0=y at *
  refine mU (c:=0) rfl rfl rfl (by omega) ?_
  refine cK ((y+b) / 18446744073709551616) (by omega) (by omega) ?_
  refine b9 ((T+M:Nat):Int) (by omega) (by omega) (by omega) ?_
  refine b9 ((T+M:Nat):Int) (by omega) (by omega) (by omega) ?_
  refine eW (s.rd (c:=n) (by omega)) (M:=T+M) rfl (by omega) (by omega) ?_
  refine mU (c:=0) rfl rfl rfl (by omega) ?_
  have IF:(aF.getD (T+M) 0+(y % 18446744073709551616+b+0) % 18446744073709551616+0) % 18446744073709551616=(y+b+aF.getD (T+M) 0) % 18446744073709551616:=by omega
  have IG:(y+b) / 18446744073709551616+(aF.getD (T+M) 0+(y % 18446744073709551616+b+0) % 18446744073709551616+0) / 18446744073709551616=(y+b+aF.getD (T+M) 0) / 18446744073709551616:=by omega
  rw [IF]
  refine qM s (M:=T+M) rfl d.symm (by omega) rfl (by omega) fun m D=>?_
  refine cK ((y+b+aF.getD (T+M) 0) / 18446744073709551616) (by rw [← Int.natCast_add,IG]) (by omega) ?_
  refine b9 ((T+1:Nat):Int) (by omega) (by omega) (by omega) ?_
  refine bD (T+1) _ _ _ (by omega) (by omega) (by simp [d]) m (e.trans D) (fun t H=>?_) ?_
  ·rw [getD_set_ne (by omega)];exact i t H
  ·have aZ:=jQ (aF:=aF) (M:=T+M) (v:=(y+b+aF.getD (T+M) 0) % 18446744073709551616) (by omega)
   have:=tZ (a7:=18446744073709551616) (y:=y) (c:=b) (C:=val (S.drop (T+1))*w.getD M 0) (jB:=(y+b+aF.getD (T+M) 0) % 18446744073709551616) (c1:=(y+b+aF.getD (T+M) 0) / 18446744073709551616) (by omega) aZ
   rw [show T+1+M=T+M+1 by omega,h3 (T+M),this];exact O
theorem Fb{Y:J}{a N:R}{c i bA j d n x cG:Nat}{S w:List Nat}{o:V}
  (C:bU o a i S) (F:bU o N bA w) (v:j=S.length) (D:d=w.length) (E:S=[]∨eU x a) (G:w=[]∨eU x N) (H:n=S.length+w.length)
  (g:∀ K aF,aV x o K→eB K x aF→aF.length=n→val aF=cG→Y (.tuple #[]) K) :
  ∀ (U M:Nat) (aF:List Nat) (Z:V),M+U=w.length→aF.length=n→eB Z x aF→aV x o Z→(∀ t,M+S.length≤t→aF.getD t 0=0)→val aF+val (w.drop M)*val S*2 ^ (64*M)=cG→
   hW.dG.t Y (U+1) (some ⟨x,0,none⟩) n c a j i N d bA (d:Int) (M:Int) Z:=by
 subst v;subst D
 intro U
 induction U with
 | zero=>
  intro M aF Z l e s f m O
  unfold hW.dG.t hW.a4.t
  refine b1 (fun b=>absurd b (by omega)) fun b=>?_
  refine g _ _ f s e ?_
  rw [List.drop_of_length_le (by omega)] at O
  simpa [val] using O
 | succ U bD=>
  intro M aF Z l e s f m O
  have P:eU x N:=by
   rcases G with h | h
   ·subst h;simp at l
   ·exact h
  unfold hW.dG.t hW.a4.t
  refine b1 (fun b=>?_) fun b=>absurd (by omega) b
  unfold hW.bS.t hW.dP.t
  refine⟨S.length+1,?_⟩
  refine Fa (cG:=cG) C F rfl rfl E P (by omega) H (fun K Iv cD eG Iw Ix Iy=>?_) S.length 0 0 aF Z (by omega) (by omega) e s f m ?_
  ·exact bD (M+1) Iv K (by omega) Iw eG cD Ix Iy
  ·rw [jI] at O
   rw [← O,h3,Nat.zero_add,List.drop_zero,Nat.add_zero,Nat.add_mul,Nat.add_mul,Nat.mul_comm (val S)]
   have Iz:val (w.drop (M+1))*val S*(18446744073709551616*2 ^ (64*M))=18446744073709551616*val (w.drop (M+1))*val S*2 ^ (64*M):=by
    rw [Nat.mul_left_comm,Nat.mul_assoc 18446744073709551616,Nat.mul_assoc 18446744073709551616]
   rw [Iz];omega
theorem Fc{a N:R}{c b bA d e n x:Nat}{S w:List Nat}{Z:V}(s:eB Z x (List.replicate n 0))(C:bU Z a b S)(F:bU Z N bA w)(f:d=S.length)(g:e=w.length)(h:S=[]∨eU x a)(i:w=[]∨eU x N)(j:n=S.length+w.length):
  aG hW.id #[.slice (some ⟨x,0,none⟩) n c,.slice a d b,.slice N e bA] Z fun v K=>v=.tuple #[]∧aV x Z K∧∃ aF,eB K x aF∧aF.length=n∧val aF=val S*val w:=by
 refine hW.ok ?_
 unfold hW.t hW.u.t
 refine⟨w.length+1,?_⟩
 refine Fb C F f g h i j (fun K l U eG m O=>⟨rfl,U,l,eG,m,O⟩) w.length 0 _ Z (by omega) (by simp) s (aV.refl _ _) (fun t _=>?_) ?_
 ·simp only [List.getD,List.getElem?_replicate];split <;> rfl
 ·rw [o7,List.drop_zero];simp [Nat.mul_comm]
def pI(Z K:V)(v:Value)(S:List Nat):Prop:=∃ x,Z.size≤x∧v=.slice (some ⟨x,0,none⟩) S.length S.length∧eB K x S
theorem pI.elim{Z K:V}{v:Value}{S:List Nat}{A:R→Nat→Nat→Prop}(a3:pI Z K v S)(g:∀ x,Z.size≤x→eB K x S→A (some ⟨x,0,none⟩) S.length S.length):aE v A:=by
 obtain⟨x,a,O,s⟩:=a3
 subst O;exact g x a s
theorem sC{N x:Nat}(Z:N ≠ x):eU x (some ⟨N,0,none⟩):=fun y O=>by cases O;exact Z
theorem A2{o Z:V}{x n c:Nat}{aF:List Nat}{A:Value→V→Prop}(a:o.size≤x)(s:eB Z x aF)(b:n=aF.length)(f:n≤c)(g:∀ v,pI o Z v (z (val aF))→A v Z):
  aG jX.id #[.slice (some ⟨x,0,none⟩) n c] Z A:=by
 refine bE (sB (s.rd (c:=c) (by omega)) b) fun v K ⟨d,e⟩=>?_
 subst d;subst e
 refine g _ ?_
 rw [kT s.words]
 exact⟨x,a,rfl,by have:=s.take (cV aF).length;rw [A0] at this;exact this⟩
theorem A3{a:R}{c l U:Nat}{S:List Nat}{Z:V}{Q:Int}(C:bU Z a c S)(i:l=S.length)(j:Q=(U:Int)):
  aG n9.id #[.slice a l c,.int .i64 Q] Z fun v K=>K=Z∧∃ b,v=.tuple #[.slice a (cV (S.take U)).length (cV (S.take U)).length,.slice b (S.drop U).length (S.drop U).length]∧
   bU Z a (cV (S.take U)).length (cV (S.take U))∧bU Z b (S.drop U).length (S.drop U)∧∀ x,eU x a→eU x b:=by
 subst i;subst j
 have g:=C.cap
 refine n9.ok ?_
 unfold n9.t n9.u.t
 refine b1 (fun m=>?_) fun m=>?_
 ·refine wL rfl rfl g ?_
  refine bE (sB (C.nT (Nat.le_refl _)) rfl) fun v K ⟨d,e⟩=>?_
  subst d;subst e
  refine aQ rfl ?_
  rw [List.take_of_length_le (by omega),List.drop_of_length_le (by omega)]
  exact⟨rfl,none,rfl,uT C,bU.nil _ _ _,fun x _=>eU.none x⟩
 ·refine wL rfl rfl (by omega) ?_
  have h:(S.take U).length=U:=by rw [List.length_take];omega
  have f:=(C.take U).nT (Nat.le_refl _)
  rw [h] at f
  refine bE (sB f h.symm) fun v K ⟨d,e⟩=>?_
  subst d;subst e
  refine aQ rfl ?_
  refine z6 rfl rfl rfl (by omega) g ?_
  refine⟨rfl,g7 a S.length U 1,?_,uT f,?_,fun x n=>n.sub _ _ _⟩
  ·rw [List.length_drop]
  ·have rd:=(C.nT (Nat.le_refl _)).drop U (by omega)
   exact rd.nT (Nat.le_refl _)
theorem A4(S:List Nat)(U:Nat):val S=val (cV (S.take U))+2 ^ (64*U)*val (S.drop U):=by
 rw [nV]
 by_cases Z:U≤S.length
 ·conv=>lhs;rw [← List.take_append_drop U S]
  rw [gO,List.length_take,Nat.min_eq_left Z]
 ·rw [List.take_of_length_le (by omega),List.drop_of_length_le (by omega)];simp [val]
theorem w6{bW n U:Nat}(a:U≤n)(Z:bW*2 ^ (64*U) < 2 ^ (64*n)):U+(z bW).length≤n:=by
 have:(z bW).length≤n - U:=by
  rw [e2]
  have O:2 ^ (64*n)=2 ^ (64*(n - U))*2 ^ (64*U):=by rw [← Nat.pow_add,show 64*(n - U)+64*U=64*n by omega]
  rw [O] at Z
  exact Nat.lt_of_mul_lt_mul_right Z
 omega
theorem A5{Y:J}{a N:R}{c aB l m:Nat}{S w:List Nat}{Z:V}(C:bU Z a c S)(F:bU Z N aB w)(e:l=S.length)(f:m=w.length)(Iv:w.length≤S.length)(Iw:S.length < 35184372088828)
  (g:∀ v K,a2 Z K→pI Z K v (z (val S+val w))→Y v K):mV.aD.t Y a l c N m aB Z:=by
 subst e;subst f
 unfold mV.aD.t
 refine b9 ((S.length+1:Nat):Int) (by omega) (by omega) (by omega) ?_
 refine k8 (S.length+1) rfl rfl rfl rfl (by omega) fun aI s U=>?_
 refine tU s (C.I U) (by simp) rfl (Nat.le_refl _) U fun Ix b d=>?_
 have O:List.take (List.replicate (S.length+1) 0).length S ++ List.drop S.length (List.replicate (S.length+1) 0)=S ++ [0]:=by
  rw [List.take_of_length_le (by simp)];simp
 rw [O] at b
 have cI:val (S ++ [0])=val S:=by rw [← nV,qK,nV]
 have Iy:=gE C.words
 have Iz:=gE F.words
 have IA:2 ^ (64*w.length)≤2 ^ (64*S.length):=Nat.pow_le_pow_right (by decide) (by omega)
 refine bE (uU (at_:=0) b.z5 (F.I d) rfl (by simp) (F.off (Nat.le_refl _)) ?_ (by simp;omega) rfl rfl) fun v IB ⟨h,i,aF,j,n,D⟩=>?_
 ·rw [cI,List.length_append,List.length_singleton,h3,Nat.mul_zero,Nat.pow_zero,Nat.mul_one]
  generalize 2 ^ (64*S.length)=P at *;omega
 subst h
 refine fR rfl (b3 ?_)
 refine A2 (Nat.le_refl Z.size) j (by rw [n];simp) (by omega) fun v a3=>?_
 rw [D,cI,Nat.mul_zero,Nat.pow_zero,Nat.mul_one] at a3
 obtain⟨x,E,G,H⟩:=a3
 subst G
 exact g _ _ (i.I d (Nat.le_refl _)) ⟨x,E,rfl,H⟩
theorem A6{a N:R}{c aB l m:Nat}{S w:List Nat}{Z:V}(C:bU Z a c S)(F:bU Z N aB w)(b:l=S.length)(d:m=w.length)(e:S.length < 35184372088828)(f:w.length < 35184372088828):
  aG mV.id #[.slice a l c,.slice N m aB] Z fun v K=>a2 Z K∧pI Z K v (z (val S+val w)):=by
 refine mV.ok ?_
 unfold mV.t mV.u.t
 refine b1 (fun g=>?_) fun g=>?_
 ·refine A5 F C d b (by omega) f fun v K U a3=>⟨U,?_⟩
  rw [Nat.add_comm];exact a3
 ·exact A5 C F b d (by omega) e fun v K U a3=>⟨U,a3⟩
theorem A7{x:Nat}:∀ {bN:List Value} {Z:V} {T:Nat},aV x Z (h2 Z ⟨x,0,none⟩ T bN)
 | [],Z,_=>aV.refl _ _
 | v :: bN,Z,T=>by
  have O:h2 Z ⟨x,0,none⟩ T (v :: bN)=h2 (e5 Z ⟨x,T,none⟩ v) ⟨x,0,none⟩ (T+1) bN:=by
   show h2 (e5 Z ((⟨x,0,none⟩:Addr).add T) v) _ _ _=_
   rw [aT]
  rw [O];exact(aV.set x Z T v).trans A7
theorem Fe{Z:V}{N l bO bA:Nat}{S w:List Nat}{a:R}(s:eB Z N S)(C:bU Z a bA w)(e:l=S.length)(f:bO=w.length)(c:w.length≤S.length){A:Int→V→Prop}
  (g:∀ K,eB K N (w ++ S.drop w.length)→aV N Z K→A (w.length:Int) K):kR Z 1 (some ⟨N,0,none⟩) l (.slice a bO bA) A:=by
 subst e;subst f
 obtain⟨rest,s⟩:=s
 have d:Nat.min w.length S.length=w.length:=Nat.min_eq_left c
 refine⟨w.length,w.map gD,rfl,⟨by rw [List.length_map,d];omega,?_,?_⟩,?_,?_⟩
 ·intro v a1
  obtain⟨Q,_,O⟩:=List.mem_map.mp a1
  subst O;rfl
 ·cases a with
  | none=>
   show w.map gD=[]
   cases w with
   | nil=>simp
   | cons k w=>obtain⟨y,O,_⟩:=C.at_ 0 (by simp);cases O
  | some y=>
   refine wD fun M b=>?_
   obtain⟨j,O,h⟩:=C.at_ M b
   cases O
   rw [Nat.zero_add];exact h
 ·refine wE fun M b=>?_
  rw [Nat.zero_add,aT]
  rw [List.length_map] at b
  exact⟨⟨_,s.cell (by rw [List.length_append];omega)⟩,s.frozen M⟩
 ·have:=wF (o:=#[]) (bN:=w) (T:=0) s C.words (by rw [List.length_append];omega) (by simp) ⟨by simp,fun N i=>absurd i (by simp)⟩
  rw [d]
  refine g _ ⟨rest,?_⟩ A7
  have O:List.take 0 (S ++ rest) ++ (w ++ List.drop (0+w.length) (S ++ rest))=w ++ S.drop w.length ++ rest:=by
   rw [List.take_zero,List.nil_append,Nat.zero_add,List.drop_append_of_le_length c,List.append_assoc]
  rw [← O];exact this.1
def uV(b:Nat):Prop:=∀ {a N:R} {c d bA e f n x:Nat} {S w:List Nat} {Z:V},S.length+w.length≤b→eB Z x (List.replicate n 0)→bU Z a d S→bU Z N bA w→e=S.length→f=w.length→(S=[]∨eU x a)→(w=[]∨eU x N)→n=S.length+w.length→
 aG nG.id #[.slice (some ⟨x,0,none⟩) n c,.slice a e d,.slice N f bA] Z fun v K=>v=.tuple #[]∧aV x Z K∧∃ aF,eB K x aF∧aF.length=n∧val aF=val S*val w
theorem sD{b:Nat}(ok:uV b){a N:R}{c aB l m:Nat}{S w:List Nat}{Z:V}(d:S.length+w.length≤b)(C:bU Z a c S)(F:bU Z N aB w)(e:l=S.length)(f:m=w.length)(g:S.length+w.length≤35184372088828):
  aG lF.id #[.slice a l c,.slice N m aB] Z fun v K=>a2 Z K∧pI Z K v (z (val S*val w)):=by
 subst e;subst f
 refine lF.ok ?_
 unfold lF.t lF.u.t
 refine b9 ((S.length+w.length:Nat):Int) (by omega) (by omega) (by omega) ?_
 refine k8 (S.length+w.length) rfl rfl rfl rfl g fun aI s U=>?_
 refine bE (ok d s.z5 (C.I U) (F.I U) rfl rfl (C.off (Nat.le_refl _)) (F.off (Nat.le_refl _)) rfl) fun v H ⟨h,i,aF,j,n,cI⟩=>?_
 subst h
 refine fR rfl (b3 ?_)
 refine A2 (Nat.le_refl Z.size) j n.symm (Nat.le_refl _) fun v a3=>?_
 rw [cI] at a3
 obtain⟨x,D,E,G⟩:=a3
 subst E
 exact⟨i.I U (Nat.le_refl _),x,D,rfl,G⟩
theorem A8{S w:List Nat}(a:Words S)(b:Words w):val S*val w < 2 ^ (64*(S.length+w.length)):=by
 rw [Nat.mul_add,Nat.pow_add]
 exact Nat.mul_lt_mul'' (gE a) (gE b)
theorem Ff{h:Nat}(ok:∀ bW,bW < h→uV bW){Y:J}{a N:R}{c i bA j l n x:Nat}{S w:List Nat}{o:V}(IS:S.length+w.length≤h)(C:bU o a i S)(F:bU o N bA w)(P:j=S.length)(Iv:l=w.length)(Iw:eU x a)(Ix:eU x N)(Iy:n=S.length+w.length)
  (IT:1≤w.length) (IU:2*w.length≤S.length) (IV:x < o.size)
  (g:∀ K aF,aV x o K→eB K x aF→aF.length=n→val aF=val S*val w→Y (.tuple #[]) K) :
  ∀ (U T:Nat) (aF:List Nat) (Z:V),S.length≤T+U→T≤S.length+w.length→aF.length=n→eB Z x aF→aV x o Z→val aF=val (S.take T)*val w→
   lG.dG.t Y (U+1) (some ⟨x,0,none⟩) n c a j i N l bA (T:Int) Z:=by
 subst P;subst Iv
 intro U
 induction U with
 | zero=>
  intro T aF Z aK sE d s b O
  unfold lG.dG.t lG.a4.t
  refine b1 (fun e=>absurd e (by omega)) fun e=>?_
  rw [List.take_of_length_le (by omega)] at O
  exact g _ _ b s d O
 | succ U bD=>
  intro T aF Z aK sE d s b O
  have IW:=s.len
  have IX:=C.cap
  unfold lG.dG.t lG.a4.t
  refine b1 (fun e=>?_) fun e=>?_
  ·refine b9 ((T+w.length:Nat):Int) (by omega) (by omega) (by omega) ?_
   obtain⟨m,Iz⟩:∃ m,m=min (T+w.length) S.length:=⟨_,rfl⟩
   have em:(if (((S.length:Nat):Int)) < ((T+w.length:Nat):Int) then(((S.length:Nat):Int)) else((T+w.length:Nat):Int))=(m:Int):=by
    split <;> omega
   rw [em]
   refine z6 rfl rfl rfl (by omega) (by omega) ?_
   have f:(S.take m).length=m:=by rw [List.length_take];omega
   have IA:=((C.aJ Iw b).take m).nT (c1:=m) (by omega)
   have rd:=IA.drop T (by omega)
   have IB:((S.take m).drop T).length=m - T:=by rw [List.length_drop,f]
   refine bE (sB (rd.nT (c1:=m - T) (by omega)) IB.symm) fun v aI ⟨IC,ID⟩=>?_
   subst IC;subst ID
   refine aQ rfl ?_
   have IE:=uT (rd.nT (c1:=m - T) (by omega))
   have IY:=rY ((S.take m).drop T)
   refine bE (sD (ok (w.length+w.length) (by omega)) (by omega) IE (F.aJ Ix b) rfl rfl (by omega)) fun v IZ ⟨D,a3⟩=>?_
   refine a3.elim fun gC I0 E=>?_
   rw [nV] at E ⊢
   have IF:val (S.take m)=val (S.take T)+2 ^ (64*T)*val ((S.take m).drop T):=by
    conv=>lhs;rw [← List.take_append_drop T (S.take m)]
    rw [gO,List.length_take,f,Nat.min_eq_left (by omega),List.take_take,Nat.min_eq_left (by omega)]
   have IG:val (S.take m)≤val S:=by
    have:val S=val (S.take m)+2 ^ (64*m)*val (S.drop m):=by
     conv=>lhs;rw [← List.take_append_drop m S]
     rw [gO,f]
    omega
   have G:val aF+val ((S.take m).drop T)*val w*2 ^ (64*T)=val (S.take m)*val w:=by
    rw [O,IF,Nat.add_mul,Nat.mul_right_comm,Nat.mul_comm (2 ^ (64*T))]
   have IH:val (S.take m)*val w < 2 ^ (64*aF.length):=by
    rw [d,Iy]
    exact Nat.lt_of_le_of_lt (Nat.mul_le_mul_right _ IG) (A8 C.words F.words)
   have II:=s.I D
   have IJ:x ≠ gC:=by have:=b.le;omega
   refine bE (uU (at_:=T) II (E.rd (Nat.le_refl _)) rfl d.symm (Or.inr (sC (Ne.symm IJ))) (by rw [dZ,G];exact IH) (w6 (by omega) (by omega)) rfl rfl) fun v IK ⟨IL,IM,IN,IP,I1,H⟩=>?_
   subst IL
   refine fR rfl (b3 ?_)
   refine b9 ((T+w.length:Nat):Int) (by omega) (by omega) (by omega) ?_
   rw [dZ,G] at H
   refine bD (T+w.length) IN IK (by omega) (by omega) (by omega) IP ((b.trans D.wK).trans IM) ?_
   rw [H]
   congr 2
   by_cases IQ:T+w.length≤S.length
   ·rw [Iz,Nat.min_eq_left IQ]
   ·rw [List.take_of_length_le (by omega),List.take_of_length_le (by omega)]
  ·rw [List.take_of_length_le (by omega)] at O
   exact g _ _ b s d O
theorem Fg{aH aY aO r h5 eD bB:Nat}(a:aH=aO+bB*r)(b:aY=h5+bB*eD):(aO+r)*(h5+eD)=aO*h5+(aO*eD+r*h5)+r*eD∧aH*aY=aO*h5+(aO*eD+r*h5)*bB+r*eD*(bB*bB):=by
 subst a;subst b
 constructor
 ·rw [Nat.add_mul,Nat.mul_add,Nat.mul_add];omega
 ·have c:aO*(bB*eD)=aO*eD*bB:=by rw [Nat.mul_comm bB,Nat.mul_assoc]
  have d:bB*r*h5=r*h5*bB:=by rw [Nat.mul_assoc,Nat.mul_comm]
  have e:bB*r*(bB*eD)=r*eD*(bB*bB):=by
   rw [Nat.mul_mul_mul_comm,Nat.mul_comm]
  rw [Nat.add_mul,Nat.mul_add,Nat.mul_add,c,d,e,Nat.add_mul];omega
theorem Fh{IG:Nat}(ok:∀ bW,bW < IG→uV bW){a N:R}{c IH bA II IJ n x:Nat}{S w:List Nat}{Z:V}(JH:S.length+w.length≤IG)(s:eB Z x (List.replicate n 0))(C:bU Z a IH S)(F:bU Z N bA w)(I4:II=S.length)(I5:IJ=w.length)(JI:eU x a)(JJ:eU x N)(I6:n=S.length+w.length)
  (JK:40≤w.length) (JL:w.length≤S.length) (JM:S.length < 2*w.length) :
  aG pJ.id #[.slice (some ⟨x,0,none⟩) n c,.slice a II IH,.slice N IJ bA] Z fun v K=>v=.tuple #[]∧aV x Z K∧∃ aF,eB K x aF∧aF.length=n∧val aF=val S*val w:=by
 subst I4;subst I5
 have I7:=s.len
 rw [List.length_replicate] at I7
 have JN:=s.lt
 refine pJ.ok ?_
 unfold pJ.t pJ.u.t
 refine b9 ((S.length+1:Nat):Int) (by omega) (by omega) (by omega) ?_
 obtain⟨U,I8⟩:∃ U,U=(S.length+1) / 2:=⟨_,rfl⟩
 refine⟨by omega,b9 (U:Int) (by rw [I8];exact l0 _ 2) (by omega) (by omega) ?_⟩
 refine bE (A3 (U:=U) C rfl rfl) fun v aI ⟨g,JO,h,i,j,JP⟩=>?_
 subst g;subst h
 refine fR rfl (a9 (aQ rfl (a9 (aQ rfl (b3 ?_)))))
 refine bE (A3 (U:=U) F rfl rfl) fun v aI ⟨g,JQ,h,l,m,JR⟩=>?_
 subst g;subst h
 refine fR rfl (a9 (aQ rfl (a9 (aQ rfl (b3 ?_)))))
 have I9:=A4 S U
 have Ja:=A4 w U
 have JS:(cV (S.take U)).length≤U:=Nat.le_trans (rY _) (by rw [List.length_take];omega)
 have JT:(cV (w.take U)).length≤U:=Nat.le_trans (rY _) (by rw [List.length_take];omega)
 have JU:(S.drop U).length≤U:=by rw [List.length_drop];omega
 have JV:(w.drop U).length≤U:=by rw [List.length_drop];omega
 have IK:=A8 C.words F.words
 rw [← I6] at IK
 generalize cV (S.take U)=aO at *
 generalize cV (w.take U)=h5 at *
 generalize S.drop U=r at *
 generalize w.drop U=eD at *
 refine bE (sD (ok (U+U) (by omega)) (by omega) i l rfl rfl (by omega)) fun v Jb ⟨e,a3⟩=>?_
 refine a3.elim fun Jc JW D=>?_
 refine bE (sD (ok (U+U) (by omega)) (by omega) (j.I e) (m.I e) rfl rfl (by omega)) fun v IL ⟨E,a3⟩=>?_
 refine a3.elim fun Jd JX G=>?_
 have P:=e.trans E
 refine bE (A6 (i.I P) (j.I P) rfl rfl (by omega) (by omega)) fun v JY ⟨Iv,a3⟩=>?_
 refine a3.elim fun JZ J0 os=>?_
 have IM:=P.trans Iv
 refine bE (A6 (l.I IM) (m.I IM) rfl rfl (by omega) (by omega)) fun v J1 ⟨Iw,a3⟩=>?_
 refine a3.elim fun J2 J3 Je=>?_
 have J4:(z (val aO+val r)).length≤U+1:=wI (e2.mpr (Nat.lt_of_lt_of_le (gE i.words) (Nat.pow_le_pow_right (by decide) (by omega)))) (e2.mpr (Nat.lt_of_lt_of_le (gE j.words) (Nat.pow_le_pow_right (by decide) (by omega))))
 have J5:(z (val h5+val eD)).length≤U+1:=wI (e2.mpr (Nat.lt_of_lt_of_le (gE l.words) (Nat.pow_le_pow_right (by decide) (by omega)))) (e2.mpr (Nat.lt_of_lt_of_le (gE m.words) (Nat.pow_le_pow_right (by decide) (by omega))))
 refine bE (sD (ok (U+1+(U+1)) (by omega)) (by omega) ((os.rd (Nat.le_refl _)).I Iw) (Je.rd (Nat.le_refl _)) rfl rfl (by omega)) fun v J6 ⟨Jf,a3⟩=>?_
 refine a3.elim fun d J7 Ix=>?_
 rw [dZ,dZ] at Ix ⊢
 have Iy:=Fg I9 Ja
 obtain⟨b,IN⟩:∃ b,b=val aO*val h5:=⟨_,rfl⟩
 obtain⟨H,IP⟩:∃ H,H=val r*val eD:=⟨_,rfl⟩
 obtain⟨bW,Jg⟩:∃ bW,bW=val aO*val eD+val r*val h5:=⟨_,rfl⟩
 rw [← IN,← Jg,← IP] at Iy
 rw [← IN] at D ⊢
 rw [← IP] at G ⊢
 rw [Iy.1] at Ix ⊢
 have Iz:=Iv.trans (Iw.trans Jf)
 have IQ:=E.trans Iz
 have IS:=e.trans IQ
 have IT:=D.I IQ
 have Jh:=G.I Iz
 have Ji:=s.I IS
 have J8:Jc < Jb.size:=D.lt
 have J9:Jd < IL.size:=G.lt
 have Ka:=E.le
 have Kb:=Iz.le
 have Kc:IL.size≤d:=by have:=Iv.le;have:=Iw.le;omega
 refine bE (A1 Ix (IT.rd (Nat.le_refl _)) rfl rfl (Or.inr (sC (by omega))) (by rw [dZ,dZ];omega) (lW (by omega))) fun v Kd ⟨Jj,IA,Ke,Jk,IU,Jl⟩=>?_
 subst Jj
 refine fR rfl (b3 ?_)
 rw [dZ,dZ] at Jl
 have IV:=Jh.aJ (x:=d) (by omega) IA
 have Jm:=IT.aJ (x:=d) (by omega) IA
 refine bE (A1 Jk (IV.rd (Nat.le_refl _)) rfl IU.symm (Or.inr (sC (by omega))) (by rw [dZ];omega) (by rw [IU];exact lW (by omega))) fun v Jn ⟨Jo,IB,IW,IX,Kf,Jp⟩=>?_
 subst Jo
 refine fR rfl (b3 ?_)
 rw [dZ] at Jp
 have Jq:val IW=bW:=by omega
 have Kg:=e.le
 have IY:=IA.trans IB
 have Jr:a2 aI Jn:=IY.I IS (by omega)
 have Js:=(Ji.aJ (x:=d) (by omega) IY)
 have Jt:=Jm.aJ (x:=d) (by omega) IB
 have Ju:=IV.aJ (x:=d) (by omega) IB
 have Jv:2 ^ (64*U)*2 ^ (64*U)=2 ^ (64*(2*U)):=by rw [← Nat.pow_add,show 64*U+64*U=64*(2*U) by omega]
 have IC:=Iy.2
 rw [Jv] at IC
 rw [IC] at IK
 have Jw:(z b).length≤n:=e2.mpr (by omega)
 refine Fe Js (Jt.rd (Nat.le_refl _)) (by simp) rfl (by simpa using Jw) fun Kh Jx ID=>?_
 have IZ:val (z b ++ (List.replicate n 0).drop (z b).length)=b:=by
  rw [gO,dZ,List.drop_replicate,o7];simp
 have f:(z b ++ (List.replicate n 0).drop (z b).length).length=n:=by simp;omega
 have I0:=IX.aJ (x:=x) (by omega) ID
 refine bE (sB (I0.rd (by omega)) (by omega)) fun v Ki ⟨Jy,IE⟩=>?_
 subst Jy;subst IE
 refine aQ rfl ?_
 have I1:=uT (I0.rd (Nat.le_refl _))
 have Jz:cV IW=z bW:=by rw [← Jq,kT IX.words]
 rw [Jz] at I1 ⊢
 refine bE (uU (at_:=U) Jx I1 rfl f.symm (Or.inr (sC (by omega))) (by rw [IZ,dZ,f];omega) (by rw [f];exact w6 (by omega) (by omega)) rfl rfl) fun v Kj ⟨IE,I2,Kk,JA,I3,IF⟩=>?_
 subst IE
 refine fR rfl (b3 ?_)
 rw [IZ,dZ] at IF
 refine b9 ((2*U:Nat):Int) (by omega) (by omega) (by omega) ?_
 have JB:=(Ju.aJ (x:=x) (by omega) ID).aJ (x:=x) (by omega) I2
 refine bE (uU (at_:=2*U) JA (JB.rd (Nat.le_refl _)) rfl (by omega) (Or.inr (sC (by omega))) (by rw [IF,dZ,I3,f];omega) (by rw [I3,f];exact w6 (by omega) (by omega)) rfl rfl) fun v Kl ⟨JC,JD,JE,JF,Km,JG⟩=>?_
 subst JC
 refine fR rfl (b3 ?_)
 refine⟨rfl,Jr.wK.trans (ID.trans (I2.trans JD)),JE,JF,by omega,?_⟩
 rw [JG,IF,dZ,IC]
theorem Fi(D:Nat):uV D:=by
 induction D using Nat.strongRecOn with
 | ind D ok=>
  have H:∀ {a N:R} {c g bA h i n x:Nat} {S w:List Nat} {Z:V},S.length+w.length≤D→eB Z x (List.replicate n 0)→bU Z a g S→bU Z N bA w→h=S.length→i=w.length→(S=[]∨eU x a)→(w=[]∨eU x N)→n=S.length+w.length→w.length≤S.length→
    nG.aD.t (fun v K=>v=.tuple #[]∧aV x Z K∧∃ aF,eB K x aF∧aF.length=n∧val aF=val S*val w) (some ⟨x,0,none⟩) n c a h g N i bA Z:=by
   intro a N c g bA h i n x S w Z E s C F f b j l m P
   have Ix:=s.len
   rw [List.length_replicate] at Ix
   unfold nG.aD.t
   refine b1 (fun aZ=>?_) fun aZ=>?_
   ·refine bE (Fc s C F f b j l m) fun v K ⟨O,U,d⟩=>?_
    subst O
    exact fR rfl (b3 ⟨rfl,U,d⟩)
   ·have Iv:eU x a:=by
     rcases j with e | e
     ·subst e;have:w.length≤0:=P;omega
     ·exact e
    have Iw:eU x N:=by
     rcases l with e | e
     ·subst e;simp at b;omega
     ·exact e
    refine b9 ((2*w.length:Nat):Int) (by omega) (by omega) (by omega) ?_
    refine b1 (fun G=>?_) fun G=>?_
    ·have Iy:aG lG.id #[.slice (some ⟨x,0,none⟩) n c,.slice a h g,.slice N i bA] Z fun v K=>v=.tuple #[]∧aV x Z K∧∃ aF,eB K x aF∧aF.length=n∧val aF=val S*val w:=by
      refine lG.ok ?_
      unfold lG.t lG.u.t
      refine⟨S.length+1,?_⟩
      refine Ff ok E C F f b Iv Iw m (by omega) (by omega) s.lt (fun K aF U eG d O=>⟨rfl,U,aF,eG,d,O⟩) S.length 0 _ Z (by omega) (by omega) (by simp) s (aV.refl _ _) ?_
      rw [o7];simp [val]
     refine bE Iy fun v K ⟨O,U,d⟩=>?_
     subst O
     exact fR rfl (b3 ⟨rfl,U,d⟩)
    ·refine bE (Fh ok E s C F f b Iv Iw m (by omega) P (by omega)) fun v K ⟨O,U,d⟩=>?_
     subst O
     exact fR rfl (b3 ⟨rfl,U,d⟩)
  intro a N c g bA h i n x S w Z E s C F f b j l m
  refine nG.ok ?_
  unfold nG.t nG.u.t
  refine b1 (fun G=>?_) fun G=>?_
  ·have:=H (c:=c) (by omega) s F C b f l j (by omega) (by omega)
   rw [Nat.mul_comm (val w)] at this;exact this
  ·exact H E s C F f b j l m (by omega)
theorem Fj{a N:R}{c aB l m:Nat}{S w:List Nat}{Z:V}(C:bU Z a c S)(F:bU Z N aB w)(b:l=S.length)(d:m=w.length)(e:S.length+w.length≤35184372088828):
  aG lF.id #[.slice a l c,.slice N m aB] Z fun v K=>a2 Z K∧pI Z K v (z (val S*val w)):=
 sD (Fi _) (Nat.le_refl _) C F b d e
def qZ(S w:List Nat):List Nat × Int:=if g5 S∧g5 w then eF (val S*val w) else([],2)
theorem Fk{a N:R}{c aB l m:Nat}{S w:List Nat}{Z:V}(C:bU Z a c S)(F:bU Z N aB w)(i:l=S.length)(j:m=w.length):
  aG nH.id #[.slice a l c,.slice N m aB] Z fun v K=>a2 Z K∧dS Z K v (qZ S w):=by
 refine nH.ok ?_
 unfold nH.t nH.u.t
 refine bE (kY C i) fun v K ⟨b,d⟩=>?_
 subst b;subst d
 refine bK rfl ?_
 refine kU (fun e=>⟨a2.refl _,?_⟩) fun e=>?_
 ·unfold qZ;rw [if_neg (fun f=>of_decide_eq_false e f.1)];exact dS.none
 refine bE (kY F j) fun v K ⟨b,d⟩=>?_
 subst b;subst d
 refine bK rfl ?_
 refine kU (fun g=>⟨a2.refl _,?_⟩) fun g=>?_
 ·unfold qZ;rw [if_neg (fun f=>of_decide_eq_false g f.2)];exact dS.none
 have n:=of_decide_eq_true e
 have D:=of_decide_eq_true g
 have aI:=n.1
 have IC:=D.1
 unfold qZ;rw [if_pos ⟨n,D⟩]
 unfold nH.aD.t
 refine bE (Fj C F i j (by omega)) fun v h ⟨E,a3⟩=>?_
 refine a3.elim fun G H P=>?_
 have Iv:aG pK.id #[.slice (some ⟨G,0,none⟩) (z (val S*val w)).length (z (val S*val w)).length] h fun v Iw=>Iw=h∧dS K h v (eF (val S*val w)):=by
  refine pK.ok ?_
  unfold pK.t pK.u.t
  refine b1 (fun Ix=>⟨rfl,?_⟩) fun Ix=>⟨rfl,?_⟩
  ·unfold eF;rw [if_neg (by omega)];exact dS.none
  ·unfold eF;rw [if_pos (by omega)];exact dS.mk rfl rfl (P.iO H) (show In .i64 0 by decide)
 refine bE Iv fun v ID ⟨Iy,Iz⟩=>?_
 subst Iy
 refine Iz.g9 fun IE IF IA IB=>?_
 exact⟨E,dS.back IA IB⟩
abbrev sF:=Bool × List Nat
abbrev q0:=Bool × Nat
def iK(Q:sF):Int:=if Q.1 then -((val Q.2:Nat):Int) else((val Q.2:Nat):Int)
def bV(T:Int):q0:=(decide (T < 0),T.natAbs)
def bF(Q:q0):Int:=if Q.1 then -((Q.2:Nat):Int) else((Q.2:Nat):Int)
def A9(Q:sF):Prop:=g5 Q.2∧¬ (Q.1=true∧Q.2=[])
instance (Q:sF):Decidable (A9 Q):=by unfold A9;infer_instance
def Ba(T:Int):Prop:=(z T.natAbs).length≤8192
instance (T:Int):Decidable (Ba T):=by unfold Ba;infer_instance
theorem oA(T:Int):bF (bV T)=T:=by
 unfold bF bV
 by_cases Z:T < 0
 ·simp only [Z,decide_true,if_true];omega
 ·simp only [Z,decide_false,Bool.false_eq_true,if_false];omega
def cB(N:Bool)(n:Nat):Int:=if N then -(n:Int) else(n:Int)
theorem mW(N:Bool)(n:Nat):(cB N n).natAbs=n:=by unfold cB;cases N <;> simp
theorem Bb(N:Bool)(n:Nat):decide (cB N n < 0)=(N && decide (n ≠ 0)):=by
 unfold cB
 cases N
 ·simp
 ·by_cases Z:n=0
  ·subst Z;simp
  ·simp only [if_true,Bool.true_and,Z,ne_eq,not_false_eq_true,decide_true,decide_eq_true_eq];omega
theorem Fl(N:Bool)(n:Nat):bV (cB N n)=((N && decide (n ≠ 0)),n):=by unfold bV;rw [mW,Bb]
theorem Fm(Q:sF):iK Q=cB Q.1 (val Q.2):=rfl
theorem Fo(Q:sF):(iK Q).natAbs=val Q.2:=by rw [Fm,mW]
theorem Fp{a N x:Int}(b:0 < N)(aI:x*N≤a)(c:a < (x+1)*N):a / N=x:=by
 refine Int.le_antisymm (Int.lt_add_one_iff.mp (Int.ediv_lt_of_lt_mul b c)) (Int.le_ediv_of_mul_le b aI)
def jY(a N:Int):Int:=if N < 0 then(-a) / (-N) else a / N
def nI(a N:Int):Int:=a - N*jY a N
def gZ(a a7:Nat):Nat:=if a7 < 2*(a % a7)∨(2*(a % a7)=a7∧a / a7 % 2=1) then a / a7+1 else a / a7
def jL(a N:Int):Int:=cB (xor (decide (a < 0)) (decide (N < 0))) (gZ a.natAbs N.natAbs)
theorem Fq{a7:Nat}(Z:a7 ≠ 0):(0:Int) < (a7:Int):=by omega
theorem uW{y x:Bool}{a a7:Nat}(f:a7 ≠ 0)(c:y=true→a ≠ 0):jY (cB y a) (cB x a7)=cB (xor y x) (if (xor y x)=true∧a % a7 ≠ 0 then a / a7+1 else a / a7):=by
 have d:∀ (C:Bool),(C=true→a ≠ 0)→cB C a / (a7:Int)=cB C (if C=true∧a % a7 ≠ 0 then a / a7+1 else a / a7):=by
  intro C j
  have l:=Nat.div_add_mod a a7
  have m:=Nat.mod_lt a (show 0 < a7 by omega)
  refine Fp (Fq f) ?_ ?_
  ·cases C
   ·simp only [cB,Bool.false_eq_true,false_and,if_false]
    have:a / a7*a7≤a:=Nat.div_mul_le_self _ _
    exact_mod_cast this
   ·simp only [cB,if_true,true_and]
    split
    ·have:a≤(a / a7+1)*a7:=by rw [Nat.add_mul,Nat.one_mul,Nat.mul_comm];omega
     have b:(a:Int)≤(((a / a7+1:Nat):Int))*(a7:Int):=by exact_mod_cast this
     rw [Int.neg_mul];omega
    ·rename_i Z
     have:a=a / a7*a7:=by rw [Nat.mul_comm];omega
     have b:(a:Int)=(((a / a7:Nat):Int))*(a7:Int):=by exact_mod_cast this
     rw [Int.neg_mul];omega
  ·cases C
   ·simp only [cB,Bool.false_eq_true,false_and,if_false]
    have:a < (a / a7+1)*a7:=by rw [Nat.add_mul,Nat.one_mul,Nat.mul_comm];omega
    exact_mod_cast this
   ·simp only [cB,if_true,true_and]
    split
    ·rename_i Z
     have:a / a7*a7 < a:=by rw [Nat.mul_comm];omega
     have b:(((a / a7:Nat):Int))*(a7:Int) < (a:Int):=by exact_mod_cast this
     have g:(-(((a / a7+1:Nat):Int))+1)=-(((a / a7:Nat):Int)):=by omega
     rw [g,Int.neg_mul];omega
    ·rename_i Z
     have o:a=a / a7*a7:=by rw [Nat.mul_comm];omega
     have b:(a:Int)=(((a / a7:Nat):Int))*(a7:Int):=by exact_mod_cast o
     rw [Int.add_mul,Int.neg_mul,Int.one_mul];omega
 unfold jY
 cases x
 ·have O:cB false a7=(a7:Int):=rfl
  rw [O,if_neg (by omega),d y c]
  simp
 ·have O:cB true a7=-(a7:Int):=rfl
  rw [O,if_pos (by omega),Int.neg_neg]
  have h:-cB y a=cB (!y) a:=by cases y <;> simp [cB]
  rw [h]
  by_cases e:a=0
  ·subst e
   have i:y=false:=by cases y;rfl;exact absurd rfl (c rfl)
   subst i
   simp [cB]
  ·rw [d (!y) fun _=>e]
   cases y <;> simp
def eJ(T M:Int):Int:=if T < M then -1 else if T=M then 0 else 1
theorem Fs(N:Bool)(a a7:Nat):cB N a+cB N a7=cB N (a+a7):=by unfold cB;cases N <;> simp <;> omega
theorem Bc{y x:Bool}{a a7:Nat}(Z:y ≠ x)(b:a7≤a):cB y a+cB x a7=cB y (a - a7):=by
 unfold cB;cases y <;> cases x <;> simp at Z ⊢ <;> omega
theorem w7(y:Bool)(a:Nat):-cB y a=cB (!y) a:=by unfold cB;cases y <;> simp
theorem w8(y x:Bool)(a a7:Nat):cB y a*cB x a7=cB (xor y x) (a*a7):=by
 unfold cB;cases y <;> cases x <;> simp [Int.neg_mul,Int.mul_neg]
theorem nJ(y:Bool):cB y 0=0:=by unfold cB;cases y <;> rfl
theorem w9{y:Bool}{a:Nat}:cB y a=0↔a=0:=by unfold cB;cases y <;> simp
theorem xA(a:Nat):cB false a=(a:Int):=rfl
theorem Ft(n:Nat):((2:Int) ^ n)=cB false (2 ^ n):=by rw [xA];exact(Int.natCast_pow 2 n).symm
theorem Fu(y:Bool)(a n:Nat):cB y a*2 ^ n=cB y (a*2 ^ n):=by rw [Ft,w8];simp
theorem Bd{y:Bool}{a:Nat}(Z:y=true→a ≠ 0):decide (cB y a < 0)=y:=by
 rw [Bb];cases y
 ·rfl
 ·simp [Z rfl]
theorem Be(N:Int):jY 0 N=0:=by unfold jY;split <;> simp
theorem Fv{y x:Bool}{a a7:Nat}(b:a7 ≠ 0)(c:y=true→a ≠ 0):jL (cB y a) (cB x a7)=cB (xor y x) (gZ a a7):=by
 unfold jL
 rw [Bd c,Bd fun _=>b,mW,mW]
theorem Fw(N:Int):nI 0 N=0:=by unfold nI;rw [Be];simp
theorem Bf{y x:Bool}{a a7:Nat}(e:a7 ≠ 0)(f:y=true→a ≠ 0):nI (cB y a) (cB x a7)=cB x (if (xor y x)=true∧a % a7 ≠ 0 then a7 - a % a7 else a % a7):=by
 unfold nI
 rw [uW e f,w8]
 have b:=Nat.div_add_mod a a7
 have l:=Nat.mod_lt a (show 0 < a7 by omega)
 have g:(xor x (xor y x))=y:=by cases y <;> cases x <;> rfl
 rw [g]
 generalize a % a7=C at *
 generalize a / a7=b6 at *
 have h:a7*(b6+1)=a7*b6+a7:=by rw [Nat.mul_add,Nat.mul_one]
 by_cases c:(xor y x)=true∧C ≠ 0
 ·rw [if_pos c,if_pos c,h]
  generalize a7*b6=cG at *
  subst b
  obtain⟨i,bA⟩:=c
  cases y <;> cases x <;> simp at i <;> simp only [cB,if_true,Bool.false_eq_true,if_false] <;> omega
 ·rw [if_neg c,if_neg c]
  generalize a7*b6=cG at *
  subst b
  have j:y=x∨C=0:=by
   by_cases d:C=0
   ·exact Or.inr d
   ·refine Or.inl ?_
    cases y <;> cases x <;> first | rfl | exact absurd ⟨rfl,d⟩ c
  rcases j with rfl | rfl
  ·cases y <;> simp only [cB,if_true,Bool.false_eq_true,if_false] <;> omega
  ·cases y <;> cases x <;> simp only [cB,if_true,Bool.false_eq_true,if_false] <;> omega
section
variable {a N:R} {c aB l m:Nat} {S w:List Nat} {o Z:V} {Q k:Int}
end
section
variable {a N:R} {c aB l m:Nat} {S w:List Nat} {Z:V} {Q k:Int} {y x:Bool}
end
section
variable {a N:R} {c aB l m:Nat} {S w:List Nat} {Z:V} {Q k:Int} {y x:Bool}
end
section
variable {a N:R} {c aB l m aH aY:Nat} {S w:List Nat} {Z:V} {Q k:Int}
theorem fV.a1(C:b4 bR Z a c (D.z aH))(O:l=(D.z aH).length):aG fV.id #[.slice a l c] Z fun v K=>a2 Z K∧fF Z K v aH:=by
 have:=nE C O
 rw [D.dZ] at this;exact this
theorem jD.a1(C:bU Z a c S)(O:l=S.length):aG jD.id #[.slice a l c] Z fun v K=>a2 Z K∧fF Z K v (val S):=DW C O
end
namespace eQ
def u.v(a:Bool)(b:Nat):(Bool × Nat):=
 dD (b) fun b=>
 bif a then
  ((decide (((((D.z b).length:Nat):Int)) > (0:Int))),b)
 else
  (false,b)
theorem u.a1{Y:J}{o Z:V}(b:a2 o Z){G:Bool}{H:R}{P B:Nat}{f:Nat}(Iw:b4 bR Z H P (D.z f))(Ix:B=(D.z f).length)(g:fE eH o Y (u.v G f)):u.t Y G H B P Z:=by
 subst Ix
 have c:=a2.refl Z
 unfold u.v at g
 unfold u.t
 refine dH fun Iy a m=>?_
 have a:cY Iy (Z.size) [.bool false,.slice none (D.z 0).length 0]:=by rw [D.cP];exact a
 have h:o.size≤Z.size:=b.le
 have i:Z.size≤Z.size:=c.le
 have ID:=a.lt
 have Iz:=m.aS
 have b:=b.trans m
 have c:=c.trans m
 refine bE (fV.a1 (Iw.aS (Iz)) rfl) fun v IE ⟨j,F⟩=>?_
 obtain⟨IF,Iv⟩:∃ y,y=f:=⟨_,rfl⟩
 rw [← Iv] at F
 replace g:=cZ Iv g
 obtain⟨IG,IH,rfl,l⟩:=F
 refine aQ rfl (?_)
 have l:=l.from b.le
 have II:=j.aS
 have a:=a.I j
 have b:=b.trans j
 have c:=c.trans j
 refine uD g (fun IA g=>?_) (fun IA g=>?_)
 ·refine b2 a (aT _ _) rfl fun IB a d n=>?_
  have b:=aV.I b d h
  have c:=aV.I c d i
  refine b2 a (aT _ _) rfl fun IC a e E=>?_
  have b:=aV.I b e h
  have c:=aV.I c e i
  refine bQ a (aT _ _) rfl ?_
  refine bK rfl ?_
  refine bQ a (aT _ _) rfl ?_
  refine aQ rfl ?_
  exact g _ _ b ⟨_,_,rfl,(l.aS (n.trans E))⟩
 ·refine b2 a (aT _ _) rfl fun IB a d n=>?_
  have b:=aV.I b d h
  have c:=aV.I c d i
  refine b2 a (aT _ _) rfl fun IC a e E=>?_
  have b:=aV.I b e h
  have c:=aV.I c e i
  refine bQ a (aT _ _) rfl ?_
  refine bK rfl ?_
  refine bQ a (aT _ _) rfl ?_
  refine aQ rfl ?_
  exact g _ _ b ⟨_,_,rfl,(l.aS (n.trans E))⟩
def v(a:Bool)(b:Nat):(Bool × Nat):=u.v a b
theorem a1{Z:V}{a:Bool}{b:R}{c B:Nat}{d:Nat}(e:b4 bR Z b c (D.z d))(f:B=(D.z d).length):aG id #[.bool a,.slice b B c] Z fun b c=>a2 Z c∧eH Z c b (v a d):=
 ok (u.a1 (a2.refl _) e f fun v K U F=>⟨U,F⟩)
end eQ
theorem q1(aH:Nat):(D.z aH).length=0↔aH=0:=by
 constructor
 ·intro Z
  have a:D.z aH=[]:=List.length_eq_zero_iff.mp Z
  rw [← D.dZ aH,a];rfl
 ·intro Z;subst Z;simp [D.cP]
theorem Fx(N:Bool)(aH:Nat):eQ.v N aH=bV (cB N aH):=by
 unfold eQ.v eQ.u.v
 rw [Fl]
 have O:decide ((((D.z aH).length:Nat):Int) > 0)=decide (aH ≠ 0):=by
  rw [decide_eq_decide];have:=q1 aH;omega
 simp only [dD,O]
 cases N <;> rfl
section
variable {a N:R} {c aB l m aH:Nat} {S w:List Nat} {Z:V} {Q k:Int} {y x:Bool}
theorem eQ.aZ(C:b4 bR Z a c (D.z aH))(O:l=(D.z aH).length):aG eQ.id #[.bool y,.slice a l c] Z fun v K=>a2 Z K∧eH Z K v (bV (cB y aH)):=by rw [← Fx];exact eQ.a1 C O
theorem hI.aZ(T:In .i64 Q):aG hI.id #[.int .i64 Q] Z fun v K=>a2 Z K∧eH Z K v (bV Q):=by
 rw [o9] at T
 refine hI.ok ?_
 unfold hI.t hI.u.t
 refine dH fun n a E=>?_
 refine b1 (fun b=>?_) fun b=>?_
 ·have b:Q < 0:=b
  refine iH (k:=Q+1) (wrap_i64 (by omega) (by omega)) ?_
  refine iH (k:=-(Q+1)) (by rw [show 0 - (Q+1)=-(Q+1) by omega];exact wrap_i64 (by omega) (by omega)) ?_
  refine iH (k:=(((Q+1).natAbs:Nat):Int)) (by rw [wrap_u64];omega) ?_
  refine bE (mT (L:=(Q+1).natAbs) rfl (by omega) n) fun v G ⟨c,F⟩=>?_
  refine F.elim fun P Iv e=>?_
  refine bE (mT (L:=1) rfl (by omega) G) fun v ID ⟨f,F⟩=>?_
  refine F.elim fun IE bA Iw=>?_
  have B:(D.z (Q+1).natAbs).length≤2:=Ag.mpr (by omega)
  have bO:(D.z 1).length≤2:=Ag.mpr (by omega)
  refine bE (Aq (e.rd.I f) Iw.rd rfl rfl (by omega) (by omega)) fun v IF ⟨H,F⟩=>?_
  refine F.elim fun IG IH Ix=>?_
  refine bE (eQ.aZ Ix.rd rfl) fun v Iy ⟨d,F⟩=>?_
  have g:cB true ((Q+1).natAbs+1)=Q:=by unfold cB;simp only [if_true];omega
  rw [g] at F
  have eT:=E.trans (c.trans (f.trans H))
  obtain⟨Iz,IA,O,h⟩:=F
  subst O
  refine cF rfl ?_
  refine a9 ?_
  refine bK rfl ?_
  refine a9 ?_
  refine aQ rfl ?_
  refine b3 ?_
  have a:=a.I (c.trans (f.trans (H.trans d)))
  refine b2 a (aT _ _) rfl fun IB a i j=>?_
  refine b2 a (aT _ _) rfl fun IC a l m=>?_
  refine bQ a (aT _ _) rfl ?_
  refine bK rfl ?_
  refine bQ a (aT _ _) rfl ?_
  refine aQ rfl ?_
  exact⟨aV.I (aV.I (eT.trans d) i (Nat.le_refl _)) l (Nat.le_refl _),_,_,rfl,(h.from eT.le).aS (j.trans m)⟩
 ·have b:¬ Q < 0:=b
  refine iH (k:=((Q.natAbs:Nat):Int)) (by rw [wrap_u64];omega) ?_
  refine bE (mT (L:=Q.natAbs) rfl (by omega) n) fun v G ⟨c,F⟩=>?_
  refine F.elim fun P Iv e=>?_
  refine bE (eQ.aZ e.rd rfl) fun v Iy ⟨d,F⟩=>?_
  have g:cB false Q.natAbs=Q:=by unfold cB;simp only [Bool.false_eq_true,if_false];omega
  rw [g] at F
  have eT:=E.trans c
  obtain⟨Iz,IA,O,h⟩:=F
  subst O
  refine cF rfl ?_
  refine a9 ?_
  refine bK rfl ?_
  refine a9 ?_
  refine aQ rfl ?_
  refine b3 ?_
  have a:=a.I (c.trans d)
  refine b2 a (aT _ _) rfl fun IB a i j=>?_
  refine b2 a (aT _ _) rfl fun IC a l m=>?_
  refine bQ a (aT _ _) rfl ?_
  refine bK rfl ?_
  refine bQ a (aT _ _) rfl ?_
  refine aQ rfl ?_
  exact⟨aV.I (aV.I (eT.trans d) i (Nat.le_refl _)) l (Nat.le_refl _),_,_,rfl,(h.from eT.le).aS (j.trans m)⟩
end
namespace hX
def u.v(a:Bool)(b:List Nat):(Bool × Nat):=
 dD (val b) fun b=>
 dD (bV (cB a b)) fun a=>
 (a.1,a.2)
theorem u.a1{Y:J}{o Z:V}(a:a2 o Z){l:Bool}{Iv:R}{Iw Ix:Nat}{h:List Nat}(IE:bU Z Iv Iw h)(IF:Ix=h.length)(g:fE eH o Y (u.v l h)):u.t Y l Iv Ix Iw Z:=by
 subst IF
 have b:=a2.refl Z
 unfold u.v at g
 unfold u.t
 refine dH fun i c m=>?_
 have IM:o.size≤Z.size:=a.le
 have IN:Z.size≤Z.size:=b.le
 have Iy:=c.lt
 have IG:=m.aS
 have a:=a.trans m
 have b:=b.trans m
 refine dH fun IH d j=>?_
 have Iz:Z.size ≠ i.size:=Nat.ne_of_lt c.lt
 have d:cY IH (i.size) [.bool false,.slice none (D.z 0).length 0]:=by rw [D.cP];exact d
 have IA:o.size≤i.size:=a.le
 have IB:Z.size≤i.size:=b.le
 have IP:=d.lt
 have n:=j.aS
 have c:=c.I j
 have a:=a.trans j
 have b:=b.trans j
 refine⟨eO (aT _ _) ((n).lt Iy),?_⟩
 refine bQ c (aT _ _) rfl ?_
 refine bK rfl ?_
 refine⟨eO (aT _ _) ((n).lt Iy),?_⟩
 refine bQ c (aT _ _) rfl ?_
 refine aQ rfl ?_
 refine bE (jD.a1 (IE.aS (IG.trans n)) rfl) fun v IQ ⟨e,F⟩=>?_
 obtain⟨II,IC⟩:∃ y,y=val h:=⟨_,rfl⟩
 rw [← IC] at F
 replace g:=cZ IC g
 obtain⟨IS,IT,rfl,E⟩:=F
 refine aQ rfl (?_)
 have E:=E.from a.le
 have IJ:=e.aS
 have c:=c.I e
 have d:=d.I e
 have a:=a.trans e
 have b:=b.trans e
 refine⟨e.cM (Nat.le_refl _),?_⟩
 refine bE (eQ.aZ E.rd rfl) fun v IU ⟨f,F⟩=>?_
 obtain⟨IV,ID⟩:∃ y,y=bV (cB l II):=⟨_,rfl⟩
 rw [← ID] at F
 replace g:=cZ ID g
 obtain⟨IW,IX,rfl,G⟩:=F
 refine cF rfl (a9 (bK rfl (a9 (aQ rfl (b3 (?_))))))
 have G:=G.from a.le
 have IY:=f.aS
 have c:=c.I f
 have d:=d.I f
 have a:=a.trans f
 have b:=b.trans f
 refine⟨f.cM (IJ).le,?_⟩
 refine b2 d (aT _ _) rfl fun IZ d H IK=>?_
 have c:=c.aJ Iz H
 have a:=aV.I a H IA
 have b:=aV.I b H IB
 refine b2 d (aT _ _) rfl fun I0 d P IL=>?_
 have c:=c.aJ Iz P
 have a:=aV.I a P IA
 have b:=aV.I b P IB
 refine bQ d (aT _ _) rfl ?_
 refine bK rfl ?_
 refine bQ d (aT _ _) rfl ?_
 refine aQ rfl ?_
 exact g _ _ a ⟨_,_,rfl,(G.aS (IK.trans IL))⟩
def v(a:Bool)(b:List Nat):(Bool × Nat):=u.v a b
theorem a1{Z:V}{a:Bool}{b:R}{c d:Nat}{e:List Nat}(f:bU Z b c e)(g:d=e.length):aG id #[.agg #[.bool a,.slice b d c]] Z fun b c=>a2 Z c∧eH Z c b (v a e):=
 ok (u.a1 (a2.refl _) f g fun v K U F=>⟨U,F⟩)
end hX
section
variable {a N:R} {c aB l m aH:Nat} {S w:List Nat} {Z:V} {Q k:Int} {y x:Bool}
theorem hX.aZ(C:bU Z a c S)(O:l=S.length):aG hX.id #[.agg #[.bool y,.slice a l c]] Z fun v K=>a2 Z K∧eH Z K v (bV (iK (y,S))):=hX.a1 C O
end
theorem xB(a:Int):∃ y b,a=cB y b∧(y=true→b ≠ 0)∧b=a.natAbs:=by
 by_cases Z:a < 0
 ·exact⟨true,a.natAbs,by unfold cB;simp;omega,fun _=>by omega,rfl⟩
 ·exact⟨false,a.natAbs,by unfold cB;simp;omega,fun Z=>(by cases Z),rfl⟩
theorem Bg{a a7:Nat}(Z:a % a7 ≠ 0):a / a7+1≤a:=by
 have c:=Nat.div_add_mod a a7
 rcases Nat.eq_zero_or_pos a7 with o | o
 ·subst o;simp at Z ⊢;omega
 have d:=Nat.mod_lt a o
 generalize a % a7=C at *
 have b:2≤a7:=by omega
 have e:=Nat.mul_le_mul_right (a / a7) b
 omega
theorem Fy{a N:Int}(b:N ≠ 0):(jY a N).natAbs≤a.natAbs:=by
 obtain⟨y,e,rfl,c,_⟩:=xB a
 obtain⟨x,a7,rfl,f,_⟩:=xB N
 have d:a7 ≠ 0:=fun Z=>b (w9.mpr Z)
 rw [uW d c,mW,mW]
 split
 ·rename_i Z;exact Bg Z.2
 ·exact Nat.div_le_self _ _
theorem Fz{a a7:Nat}(b:a7 ≠ 0):gZ a a7≤a:=by
 unfold gZ
 split
 ·rename_i Z;exact Bg (by omega)
 ·exact Nat.div_le_self _ _
theorem Bh{a N:Int}(b:N ≠ 0):(jL a N).natAbs≤a.natAbs:=by
 unfold jL;rw [mW];exact Fz (by omega)
theorem FA{a N:Int}:jL (-a) N=-jL a N:=by
 by_cases Z:a=0
 ·subst Z
  unfold jL
  have:gZ (0:Int).natAbs N.natAbs=0:=by
   unfold gZ;simp
  simp only [Int.neg_zero,this,nJ]
 ·unfold jL
  rw [Int.natAbs_neg,w7]
  congr 1
  have:decide (-a < 0)=!decide (a < 0):=by
   by_cases b:a < 0
   ·simp [b];omega
   ·simp [b];omega
  rw [this];cases decide (a < 0) <;> cases decide (N < 0) <;> rfl
theorem FB(T M:Int):decide (eJ T M > 0)=decide (T > M):=by
 unfold eJ
 rcases Int.lt_trichotomy T M with Z | Z | Z
 ·rw [if_pos Z];simp;omega
 ·subst Z;simp
 ·rw [if_neg (by omega),if_neg (by omega)];simp;omega
theorem FC(T:Int):(eJ T 0 == 0)=decide (T=0):=by
 unfold eJ
 rcases Int.lt_trichotomy T 0 with Z | Z | Z
 ·rw [if_pos Z];have:T ≠ 0:=by omega
  simp [this]
 ·subst Z;simp
 ·rw [if_neg (by omega),if_neg (by omega)];have:T ≠ 0:=by omega
  simp [this]
section
variable {a:R} {c l:Nat} {S:List Nat} {Z:V} {Q:Int} {y:Bool}
end
theorem Bi(Z:V)(a:R)(c:Nat):b4 bR Z a c (D.z 0):=by rw [D.cP];exact b4.nil _ _ _
theorem iL(o Z:V):cH bR o Z none 0 (D.z 0):=by rw [D.cP];exact cH.nil _ _
theorem _root_.Go.Gv.cY.Bj{Z:V}{N U:Nat}{bN:List Value}(s:cY Z N (bN.set U (.slice none 0 0))):cY Z N (bN.set U (.slice none (D.z 0).length 0)):=by rw [D.cP];exact s
theorem pL{aH aY:Nat}(Z:aH≤aY):(D.z aH).length≤(D.z aY).length:=D.lW Z
theorem q2(aH aY:Nat):(D.z (aH*aY)).length≤(D.z aH).length+(D.z aY).length:=by
 have a:=(D.e2 (n:=aH)).mp (Nat.le_refl _)
 have b:=(D.e2 (n:=aY)).mp (Nat.le_refl _)
 rw [D.e2,Nat.mul_add,Nat.pow_add]
 exact Nat.mul_lt_mul'' a b
theorem uX(aH aY:Nat):(D.z (aH+aY)).length≤(D.z aH).length+(D.z aY).length+1:=by
 have a:=(D.e2 (n:=aH)).mp (Nat.le_refl _)
 have b:=(D.e2 (n:=aY)).mp (Nat.le_refl _)
 rw [D.e2]
 generalize (D.z aH).length=M at *
 generalize (D.z aY).length=U at *
 have aI:2 ^ (32*M)≤2 ^ (32*(M+U)):=Nat.pow_le_pow_right (by decide) (by omega)
 have c:2 ^ (32*U)≤2 ^ (32*(M+U)):=Nat.pow_le_pow_right (by decide) (by omega)
 have d:2*2 ^ (32*(M+U))≤2 ^ (32*(M+U+1)):=by
  have:(2:Nat)*2 ^ (32*(M+U))=2 ^ (32*(M+U)+1):=by rw [Nat.pow_succ];omega
  rw [this];exact Nat.pow_le_pow_right (by decide) (by omega)
 omega
theorem q3{Q:Int}(T:In .u64 Q):(D.z Q.toNat).length≤2:=by
 rw [r4] at T
 exact D.e2.mpr (by show Q.toNat < 2 ^ 64;omega)
theorem FD(aH aY:Nat):(D.z (lC aH aY).1).length≤(D.z aH).length:=by
 unfold lC;split
 ·exact pL (Nat.zero_le _)
 ·exact pL (Nat.div_le_self _ _)
theorem FE(aH aY:Nat):(D.z (lC aH aY).2).length≤(D.z aH).length:=by
 unfold lC;split
 ·exact pL (Nat.zero_le _)
 ·exact pL (Nat.mod_le _ _)
theorem jM(N:Bool)(aH:Nat):(bF (N,aH)).natAbs=aH:=mW N aH
theorem l6{T:Int}{n:Nat}(Z:T.natAbs≤n):(D.z (bV T).2).length≤(D.z n).length:=D.lW Z
theorem iS(N:Bool)(aH:Nat):(D.z (bV (cB N aH)).2).length≤(D.z aH).length:=l6 (by rw [mW];exact Nat.le_refl _)
theorem oB{Q:Int}(T:In .i64 Q):(D.z (bV Q).2).length≤2:=by
 rw [o9] at T
 exact D.e2.mpr (by show Q.natAbs < 2 ^ 64;omega)
theorem pM(N:Bool){S:List Nat}(a:Words S):(D.z (bV (iK (N,S))).2).length≤2*S.length:=by
 show(D.z (iK (N,S)).natAbs).length≤_
 rw [Fo]
 exact(DO _ _).mpr (e2.mpr (gE a))
theorem pN(N:Bool)(aH:Nat):(D.z (bV (-bF (N,aH))).2).length≤(D.z aH).length:=l6 (by rw [Int.natAbs_neg,jM];exact Nat.le_refl _)
theorem pO(N:Bool)(aH:Nat)(c:Bool)(aY:Nat):(D.z (bV (bF (N,aH)+bF (c,aY))).2).length≤(D.z aH).length+(D.z aY).length+1:=
 Nat.le_trans (l6 (n:=aH+aY) (by have:=Int.natAbs_add_le (bF (N,aH)) (bF (c,aY));rw [jM,jM] at this;exact this)) (uX aH aY)
theorem nK(N:Bool)(aH:Nat)(c:Bool)(aY:Nat):(D.z (bV (bF (N,aH) - bF (c,aY))).2).length≤(D.z aH).length+(D.z aY).length+1:=
 Nat.le_trans (l6 (n:=aH+aY) (by have:=Int.natAbs_sub_le (bF (N,aH)) (bF (c,aY));rw [jM,jM] at this;exact this)) (uX aH aY)
theorem q4(N:Bool)(aH:Nat)(c:Bool)(aY:Nat):(D.z (bV (bF (N,aH)*bF (c,aY))).2).length≤(D.z aH).length+(D.z aY).length:=
 Nat.le_trans (l6 (n:=aH*aY) (by rw [Int.natAbs_mul,jM,jM];exact Nat.le_refl _)) (q2 aH aY)
theorem FF(N:Bool)(aH:Nat):(D.z (bV (bF (N,aH)*2 ^ (Int.toNat (1:Int)))).2).length≤(D.z aH).length+1:=by
 refine Nat.le_trans (l6 (n:=aH*2) (by rw [Int.natAbs_mul,jM];exact Nat.le_refl _)) (Nat.le_trans (q2 aH 2) ?_)
 have:(D.z 2).length≤1:=D.e2.mpr (by decide)
 omega
def kZ(a N:Int):q0 × q0:=if N≤0 then((false,0),(false,0)) else(bV (a / N),bV (a % N))
theorem Bk{a N:Int}(Z:0 < N):jY a N=a / N:=by unfold jY;rw [if_neg (by omega)]
theorem FG(a N:Int):(jY a N).natAbs≤a.natAbs:=by
 by_cases Z:N=0
 ·subst Z;unfold jY;simp
 ·exact Fy Z
theorem uY(n:Nat):(D.z 0).length≤n:=by simp [D.cP]
theorem FH(N:Bool)(aH:Nat)(c:Bool)(aY:Nat):(D.z (kZ (bF (N,aH)) (bF (c,aY))).1.2).length≤(D.z aH).length:=by
 unfold kZ;split
 ·exact uY _
 ·rename_i Z
  have:=FG (bF (N,aH)) (bF (c,aY))
  rw [Bk (by omega),jM] at this
  exact l6 this
theorem FI(N:Bool)(aH:Nat)(c:Bool)(aY:Nat):(D.z (kZ (bF (N,aH)) (bF (c,aY))).2.2).length≤(D.z aY).length:=by
 unfold kZ;split
 ·exact uY _
 ·rename_i Z
  refine l6 ?_
  have aI:=Int.emod_lt_of_pos (bF (N,aH)) (show 0 < bF (c,aY) by omega)
  have a:=Int.emod_nonneg (bF (N,aH)) (show bF (c,aY) ≠ 0 by omega)
  have b:=jM c aY
  omega
def k0(a N:Int):q0:=if N < 0 then bV 1 else if N=0 then(false,0) else bV (jL a N)
def jZ(a N:Int):q0:=if N=0 then(false,0) else bV (jL a N)
theorem FJ(N:Bool)(aH:Nat)(c:Bool)(aY:Nat):(D.z (k0 (bF (N,aH)) (bF (c,aY))).2).length≤(D.z aH).length+1:=by
 unfold k0;split
 ·have:(D.z (bV 1).2).length≤1:=D.e2.mpr (by decide)
  omega
 ·split
  ·exact uY _
  ·exact Nat.le_succ_of_le (l6 (by have:=Bh (a:=bF (N,aH)) (N:=bF (c,aY)) (by omega);rw [jM] at this;exact this))
theorem q5(N:Bool)(aH:Nat)(c:Bool)(aY:Nat):(D.z (jZ (bF (N,aH)) (bF (c,aY))).2).length≤(D.z aH).length:=by
 unfold jZ;split
 ·exact uY _
 ·exact l6 (by have:=Bh (a:=bF (N,aH)) (N:=bF (c,aY)) (by omega);rw [jM] at this;exact this)
section
variable {a N:R} {c aB l m aH aY:Nat} {S w:List Nat} {Z:V} {Q k:Int}
theorem gV.a1(T:In .u64 Q):aG gV.id #[.int .u64 Q] Z fun v K=>a2 Z K∧fF Z K v Q.toNat:=mT (AR T).1 (AR T).2 Z
theorem gW.a1(C:b4 bR Z a c (D.z aH))(O:l=(D.z aH).length)(F:b4 bR Z N aB (D.z aY))(a3:m=(D.z aY).length)(b:(D.z aH).length≤100000000)(b:(D.z aY).length≤100000000):aG gW.id #[.slice a l c,.slice N m aB] Z fun v K=>a2 Z K∧fF Z K v (aH+aY):=Aq C F O a3 (by omega) (by omega)
theorem hA.a1(C:b4 bR Z a c (D.z aH))(O:l=(D.z aH).length)(F:b4 bR Z N aB (D.z aY))(a3:m=(D.z aY).length):aG hA.id #[.slice a l c,.slice N m aB] Z fun v K=>a2 Z K∧fF Z K v (aH - aY):=D9 C F O a3
theorem gX.a1(C:b4 bR Z a c (D.z aH))(O:l=(D.z aH).length)(F:b4 bR Z N aB (D.z aY))(a3:m=(D.z aY).length)(b:(D.z aH).length≤100000000)(b:(D.z aY).length≤100000000):aG gX.id #[.slice a l c,.slice N m aB] Z fun v K=>a2 Z K∧fF Z K v (aH*aY):=D5 C F O a3 (by omega) (by omega)
theorem iJ.a1(C:b4 bR Z a c (D.z aH))(O:l=(D.z aH).length)(F:b4 bR Z N aB (D.z aY))(a3:m=(D.z aY).length):aG iJ.id #[.slice a l c,.slice N m aB] Z fun v K=>a2 Z K∧lB .i64 Z K v (e4 aH aY):=AQ (wX C F O a3) fun v F=>⟨F,EN _ _⟩
theorem hB.a1(C:b4 bR Z a c (D.z aH))(O:l=(D.z aH).length)(F:b4 bR Z N aB (D.z aY))(a3:m=(D.z aY).length)(b:(D.z aH).length≤100000000):aG hB.id #[.slice a l c,.slice N m aB] Z fun v K=>a2 Z K∧s2 fF fF Z K v (lC aH aY):=Eo C F O a3 (by omega)
theorem l1.a1(C:b4 bR Z a c (D.z aH))(O:l=(D.z aH).length)(T:In .i64 Q):aG l1.id #[.slice a l c,.int .i64 Q] Z fun v K=>a2 Z K∧lB .i64 Z K v (pD aH Q):=AQ (Eg C O T) fun v F=>⟨F,by unfold pD;split <;> rw [o9] <;> omega⟩
theorem jK.a1(C:b4 bR Z a c (D.z aH))(O:l=(D.z aH).length)(T:In .i64 Q)(L:0≤Q)(b:Q≤35184372088832∨aH=0)(j:(D.z aH).length≤100000000):aG jK.id #[.slice a l c,.int .i64 Q] Z fun v K=>a2 Z K∧fF Z K v (aH*2 ^ Q.toNat):=by
 by_cases o:Q≤35184372088832
 ·exact w1 C O (n:=Q.toNat) (by omega) (by omega) (by omega)
 ·have d:aH=0:=by rcases b with b | b;exact absurd b o;exact b
  subst d;subst O
  rw [Nat.zero_mul]
  refine jK.ok ?_
  unfold jK.t jK.u.t
  have f:(D.z 0).length=0:=by simp [D.cP]
  refine b1 (fun aI=>absurd aI (by omega)) fun aI=>?_
  refine fP (fun e=>?_) fun e=>absurd (by rw [f];rfl) e
  have d:D.val (D.z 0)=0:=D.dZ 0
  refine bE (nE C rfl) fun v K ⟨g,F⟩=>?_
  rw [d] at F
  exact F.elim fun h bA i=>⟨g,h,bA,rfl,i⟩
end
namespace hP
def u.v(a:Bool)(b:Nat):Int:=
 bif (((((D.z b).length:Nat):Int)) == (0:Int)) then
  (0:Int)
 else
  bif a then
   (-1:Int)
  else
   (1:Int)
theorem u.a1{Y:J}{o Z:V}(a:a2 o Z){f:Bool}{h:R}{i j:Nat}{b:Nat}(E:b4 bR Z h i (D.z b))(l:j=(D.z b).length)(g:fE (lB .i64) o Y (u.v f b)):u.t Y f h j i Z:=by
 subst l
 have c:=a2.refl Z
 unfold u.v at g
 unfold u.t
 refine dH fun G d e=>?_
 have H:o.size≤Z.size:=a.le
 have P:Z.size≤Z.size:=c.le
 have Iv:=d.lt
 have Iw:=e.aS
 have a:=a.trans e
 have c:=c.trans e
 refine bQ d (aT _ _) rfl ?_
 refine aQ rfl ?_
 refine r3 g (fun m g=>?_) (fun m g=>?_)
 ·exact g _ _ a ⟨rfl,(show In .i64 (0:Int) by decide)⟩
 ·refine bQ d (aT _ _) rfl ?_
  refine bK rfl ?_
  refine uD g (fun n g=>?_) (fun n g=>?_)
  ·exact g _ _ a ⟨rfl,(show In .i64 (-1:Int) by decide)⟩
  ·exact g _ _ a ⟨rfl,(show In .i64 (1:Int) by decide)⟩
def v(a:Bool)(b:Nat):Int:=u.v a b
theorem a1{Z:V}{a:Bool}{b:R}{c d:Nat}{e:Nat}(f:b4 bR Z b c (D.z e))(g:d=(D.z e).length):aG id #[.agg #[.bool a,.slice b d c]] Z fun b c=>a2 Z c∧(lB .i64) Z c b (v a e):=
 ok (u.a1 (a2.refl _) f g fun v K U F=>⟨U,F⟩)
end hP
namespace iT
def u.v(a:Bool)(b:Nat):(Bool × Nat):=
 dD (bV (cB (!a) b)) fun a=>
 (a.1,a.2)
theorem u.a1{Y:J}{o Z:V}(a:a2 o Z){h:Bool}{H:R}{P Iv:Nat}{e:Nat}(Iz:b4 bR Z H P (D.z e))(IA:Iv=(D.z e).length)(g:fE eH o Y (u.v h e)):u.t Y h H Iv P Z:=by
 subst IA
 have b:=a2.refl Z
 unfold u.v at g
 unfold u.t
 refine dH fun i c l=>?_
 have IH:o.size≤Z.size:=a.le
 have II:Z.size≤Z.size:=b.le
 have IJ:=c.lt
 have IB:=l.aS
 have a:=a.trans l
 have b:=b.trans l
 refine dH fun IC d j=>?_
 have Iw:Z.size ≠ i.size:=Nat.ne_of_lt c.lt
 have d:cY IC (i.size) [.bool false,.slice none (D.z 0).length 0]:=by rw [D.cP];exact d
 have Ix:o.size≤i.size:=a.le
 have Iy:Z.size≤i.size:=b.le
 have IK:=d.lt
 have ID:=j.aS
 have c:=c.I j
 have a:=a.trans j
 have b:=b.trans j
 refine bQ c (aT _ _) rfl ?_
 refine bK rfl ?_
 refine bQ c (aT _ _) rfl ?_
 refine aQ rfl ?_
 refine bE (eQ.aZ (Iz.aS (IB.trans ID)) rfl) fun v IL ⟨f,F⟩=>?_
 obtain⟨IM,m⟩:∃ y,y=bV (cB (!h) e):=⟨_,rfl⟩
 rw [← m] at F
 replace g:=cZ m g
 have IE:=iS (!h) e
 rw [← m] at IE
 obtain⟨IN,IP,rfl,n⟩:=F
 refine cF rfl (a9 (bK rfl (a9 (aQ rfl (b3 (?_))))))
 have n:=n.from a.le
 have IQ:=f.aS
 have c:=c.I f
 have d:=d.I f
 have a:=a.trans f
 have b:=b.trans f
 refine b2 d (aT _ _) rfl fun IS d E IF=>?_
 have c:=c.aJ Iw E
 have a:=aV.I a E Ix
 have b:=aV.I b E Iy
 refine b2 d (aT _ _) rfl fun IT d G IG=>?_
 have c:=c.aJ Iw G
 have a:=aV.I a G Ix
 have b:=aV.I b G Iy
 refine bQ d (aT _ _) rfl ?_
 refine bK rfl ?_
 refine bQ d (aT _ _) rfl ?_
 refine aQ rfl ?_
 exact g _ _ a ⟨_,_,rfl,(n.aS (IF.trans IG))⟩
def v(a:Bool)(b:Nat):(Bool × Nat):=u.v a b
theorem a1{Z:V}{a:Bool}{b:R}{c d:Nat}{e:Nat}(f:b4 bR Z b c (D.z e))(g:d=(D.z e).length):aG id #[.agg #[.bool a,.slice b d c]] Z fun b c=>a2 Z c∧eH Z c b (v a e):=
 ok (u.a1 (a2.refl _) f g fun v K U F=>⟨U,F⟩)
end iT
namespace hQ
def u.v(a:Bool)(b:Nat)(c:Bool)(d:Nat):(Bool × Nat):=
 bif (a == c) then
  dD (b+d) fun e=>
  dD (bV (cB a e)) fun e=>
  (e.1,e.2)
 else
  bif (decide ((e4 b d)≥(0:Int))) then
   dD (b - d) fun e=>
   dD (bV (cB a e)) fun a=>
   (a.1,a.2)
  else
   dD (d - b) fun a=>
   dD (bV (cB c a)) fun a=>
   (a.1,a.2)
theorem u.a1{Y:J}{o Z:V}(a:a2 o Z){Iv:Bool}{I2:R}{I3 I4:Nat}{E:Nat}(IE:b4 bR Z I2 I3 (D.z E))(Je:I4=(D.z E).length)(Jr:(D.z E).length≤1000000){IF:Bool}{I5:R}{I6 I7:Nat}{G:Nat}(IG:b4 bR Z I5 I6 (D.z G))(Jf:I7=(D.z G).length)(Js:(D.z G).length≤1000000)(g:fE eH o Y (u.v Iv E IF G)):u.t Y Iv I2 I4 I3 IF I5 I7 I6 Z:=by
 subst Je Jf
 have d:=a2.refl Z
 have Jt:(D.z 0).length=0:=by simp [D.cP]
 unfold u.v at g
 unfold u.t
 refine dH fun IH b IL=>?_
 have Ju:o.size≤Z.size:=a.le
 have Jv:Z.size≤Z.size:=d.le
 have IA:=b.lt
 have P:=IL.aS
 have a:=a.trans IL
 have d:=d.trans IL
 refine dH fun IB c II=>?_
 have Jw:Z.size ≠ IH.size:=Nat.ne_of_lt b.lt
 have Jx:o.size≤IH.size:=a.le
 have Jy:Z.size≤IH.size:=d.le
 have IJ:=c.lt
 have m:=II.aS
 have b:=b.I II
 have a:=a.trans II
 have d:=d.trans II
 refine dH fun Jg e IC=>?_
 have Iw:Z.size ≠ IB.size:=Nat.ne_of_lt b.lt
 have Ix:IH.size ≠ IB.size:=Nat.ne_of_lt c.lt
 have e:cY Jg (IB.size) [.bool false,.slice none (D.z 0).length 0]:=by rw [D.cP];exact e
 have Iy:o.size≤IB.size:=a.le
 have Iz:Z.size≤IB.size:=d.le
 have Jz:=e.lt
 have i:=IC.aS
 have b:=b.I IC
 have c:=c.I IC
 have a:=a.trans IC
 have d:=d.trans IC
 refine bQ b (aT _ _) rfl ?_
 refine bK rfl ?_
 refine bQ c (aT _ _) rfl ?_
 refine bK rfl ?_
 refine uD g (fun Jh g=>?_) (fun Jh g=>?_)
 ·refine⟨eO (aT _ _) ((m.trans i).lt IA),?_⟩
  refine bQ b (aT _ _) rfl ?_
  refine bK rfl ?_
  refine⟨eO (aT _ _) ((m.trans i).lt IA),?_⟩
  refine bQ b (aT _ _) rfl ?_
  refine aQ rfl ?_
  refine⟨eO (aT _ _) ((i).lt IJ),?_⟩
  refine bQ c (aT _ _) rfl ?_
  refine aQ rfl ?_
  refine bE (gW.a1 (IE.aS (P.trans (m.trans i))) rfl (IG.aS (P.trans (m.trans i))) rfl (by first | assumption | decide | omega) (by first | assumption | decide | omega)) fun v Ji ⟨j,F⟩=>?_
  obtain⟨I8,IM⟩:∃ y,y=E+G:=⟨_,rfl⟩
  rw [← IM] at F
  replace g:=cZ IM g
  have Jj:=uX E G
  rw [← IM] at Jj
  obtain⟨JA,JB,rfl,IN⟩:=F
  refine aQ rfl (?_)
  have IN:=IN.from a.le
  have n:=j.aS
  have b:=b.I j
  have c:=c.I j
  have e:=e.I j
  have a:=a.trans j
  have d:=d.trans j
  refine⟨j.cM (Nat.le_refl _),?_⟩
  refine bE (eQ.aZ IN.rd rfl) fun v I9 ⟨f,F⟩=>?_
  obtain⟨JC,IP⟩:∃ y,y=bV (cB Iv I8):=⟨_,rfl⟩
  rw [← IP] at F
  replace g:=cZ IP g
  have Jk:=iS Iv I8
  rw [← IP] at Jk
  obtain⟨JD,JE,rfl,IQ⟩:=F
  refine cF rfl (a9 (bK rfl (a9 (aQ rfl (b3 (?_))))))
  have IQ:=IQ.from a.le
  have IK:=f.aS
  have b:=b.I f
  have c:=c.I f
  have e:=e.I f
  have a:=a.trans f
  have d:=d.trans f
  refine⟨f.cM (n).le,?_⟩
  refine b2 e (aT _ _) rfl fun Ja e h IS=>?_
  have b:=b.aJ Iw h
  have c:=c.aJ Ix h
  have a:=aV.I a h Iy
  have d:=aV.I d h Iz
  refine b2 e (aT _ _) rfl fun Jb e l ID=>?_
  have b:=b.aJ Iw l
  have c:=c.aJ Ix l
  have a:=aV.I a l Iy
  have d:=aV.I d l Iz
  refine bQ e (aT _ _) rfl ?_
  refine bK rfl ?_
  refine bQ e (aT _ _) rfl ?_
  refine aQ rfl ?_
  exact g _ _ a ⟨_,_,rfl,(IQ.aS (IS.trans ID))⟩
 ·refine bQ b (aT _ _) rfl ?_
  refine aQ rfl ?_
  refine bQ c (aT _ _) rfl ?_
  refine aQ rfl ?_
  refine bE (iJ.a1 (IE.aS (P.trans (m.trans i))) rfl (IG.aS (P.trans (m.trans i))) rfl) fun v Ji ⟨j,F⟩=>?_
  obtain⟨rfl,JF⟩:=F
  refine bJ rfl (?_)
  have n:=j.aS
  have b:=b.I j
  have c:=c.I j
  have e:=e.I j
  have a:=a.trans j
  have d:=d.trans j
  refine mR g (fun Jl g=>?_) (fun Jl g=>?_)
  ·refine⟨eO (aT _ _) ((m.trans (i.trans n)).lt IA),?_⟩
   refine bQ b (aT _ _) rfl ?_
   refine bK rfl ?_
   refine⟨eO (aT _ _) ((m.trans (i.trans n)).lt IA),?_⟩
   refine bQ b (aT _ _) rfl ?_
   refine aQ rfl ?_
   refine⟨eO (aT _ _) ((i.trans n).lt IJ),?_⟩
   refine bQ c (aT _ _) rfl ?_
   refine aQ rfl ?_
   refine bE (hA.a1 (IE.aS (P.trans (m.trans (i.trans n)))) rfl (IG.aS (P.trans (m.trans (i.trans n)))) rfl) fun v I9 ⟨f,F⟩=>?_
   obtain⟨Jc,IT⟩:∃ y,y=E - G:=⟨_,rfl⟩
   rw [← IT] at F
   replace g:=cZ IT g
   have Jm:=pL (Nat.sub_le E G)
   rw [← IT] at Jm
   obtain⟨JG,JH,rfl,IU⟩:=F
   refine aQ rfl (?_)
   have IU:=IU.from a.le
   have IK:=f.aS
   have b:=b.I f
   have c:=c.I f
   have e:=e.I f
   have a:=a.trans f
   have d:=d.trans f
   refine⟨f.cM (Nat.le_refl _),?_⟩
   refine bE (eQ.aZ IU.rd rfl) fun v Ja ⟨h,F⟩=>?_
   obtain⟨JI,IV⟩:∃ y,y=bV (cB Iv Jc):=⟨_,rfl⟩
   rw [← IV] at F
   replace g:=cZ IV g
   have Jn:=iS Iv Jc
   rw [← IV] at Jn
   obtain⟨JJ,JK,rfl,IW⟩:=F
   refine cF rfl (a9 (bK rfl (a9 (aQ rfl (b3 (?_))))))
   have IW:=IW.from a.le
   have IS:=h.aS
   have b:=b.I h
   have c:=c.I h
   have e:=e.I h
   have a:=a.trans h
   have d:=d.trans h
   refine⟨h.cM (IK).le,?_⟩
   refine b2 e (aT _ _) rfl fun Jb e l ID=>?_
   have b:=b.aJ Iw l
   have c:=c.aJ Ix l
   have a:=aV.I a l Iy
   have d:=aV.I d l Iz
   refine b2 e (aT _ _) rfl fun Jo e H IX=>?_
   have b:=b.aJ Iw H
   have c:=c.aJ Ix H
   have a:=aV.I a H Iy
   have d:=aV.I d H Iz
   refine bQ e (aT _ _) rfl ?_
   refine bK rfl ?_
   refine bQ e (aT _ _) rfl ?_
   refine aQ rfl ?_
   exact g _ _ a ⟨_,_,rfl,(IW.aS (ID.trans IX))⟩
  ·refine⟨eO (aT _ _) ((i.trans n).lt IJ),?_⟩
   refine bQ c (aT _ _) rfl ?_
   refine bK rfl ?_
   refine⟨eO (aT _ _) ((i.trans n).lt IJ),?_⟩
   refine bQ c (aT _ _) rfl ?_
   refine aQ rfl ?_
   refine⟨eO (aT _ _) ((m.trans (i.trans n)).lt IA),?_⟩
   refine bQ b (aT _ _) rfl ?_
   refine aQ rfl ?_
   refine bE (hA.a1 (IG.aS (P.trans (m.trans (i.trans n)))) rfl (IE.aS (P.trans (m.trans (i.trans n)))) rfl) fun v I9 ⟨f,F⟩=>?_
   obtain⟨Jd,IY⟩:∃ y,y=G - E:=⟨_,rfl⟩
   rw [← IY] at F
   replace g:=cZ IY g
   have Jp:=pL (Nat.sub_le G E)
   rw [← IY] at Jp
   obtain⟨JL,JM,rfl,IZ⟩:=F
   refine aQ rfl (?_)
   have IZ:=IZ.from a.le
   have IK:=f.aS
   have b:=b.I f
   have c:=c.I f
   have e:=e.I f
   have a:=a.trans f
   have d:=d.trans f
   refine⟨f.cM (Nat.le_refl _),?_⟩
   refine bE (eQ.aZ IZ.rd rfl) fun v Ja ⟨h,F⟩=>?_
   obtain⟨JN,I0⟩:∃ y,y=bV (cB IF Jd):=⟨_,rfl⟩
   rw [← I0] at F
   replace g:=cZ I0 g
   have Jq:=iS IF Jd
   rw [← I0] at Jq
   obtain⟨JO,JP,rfl,I1⟩:=F
   refine cF rfl (a9 (bK rfl (a9 (aQ rfl (b3 (?_))))))
   have I1:=I1.from a.le
   have IS:=h.aS
   have b:=b.I h
   have c:=c.I h
   have e:=e.I h
   have a:=a.trans h
   have d:=d.trans h
   refine⟨h.cM (IK).le,?_⟩
   refine b2 e (aT _ _) rfl fun Jb e l ID=>?_
   have b:=b.aJ Iw l
   have c:=c.aJ Ix l
   have a:=aV.I a l Iy
   have d:=aV.I d l Iz
   refine b2 e (aT _ _) rfl fun Jo e H IX=>?_
   have b:=b.aJ Iw H
   have c:=c.aJ Ix H
   have a:=aV.I a H Iy
   have d:=aV.I d H Iz
   refine bQ e (aT _ _) rfl ?_
   refine bK rfl ?_
   refine bQ e (aT _ _) rfl ?_
   refine aQ rfl ?_
   exact g _ _ a ⟨_,_,rfl,(I1.aS (ID.trans IX))⟩
def v(a:Bool)(b:Nat)(c:Bool)(d:Nat):(Bool × Nat):=u.v a b c d
theorem a1{Z:V}{a:Bool}{b:R}{c d:Nat}{e:Nat}(f:b4 bR Z b c (D.z e))(g:d=(D.z e).length)(h:(D.z e).length≤1000000){i:Bool}{j:R}{l m:Nat}{n:Nat}(t:b4 bR Z j l (D.z n))(E:m=(D.z n).length)(G:(D.z n).length≤1000000):aG id #[.agg #[.bool a,.slice b d c],.agg #[.bool i,.slice j m l]] Z fun b c=>a2 Z c∧eH Z c b (v a e i n):=
 ok (u.a1 (a2.refl _) f g h t E G fun v K U F=>⟨U,F⟩)
end hQ
namespace h9
def u.v(a:Bool)(b:Nat)(c:Bool)(d:Nat):(Bool × Nat):=
 dD (b*d) fun b=>
 dD (bV (cB ((!(a == c))) b)) fun a=>
 (a.1,a.2)
theorem u.a1{Y:J}{o Z:V}(a:a2 o Z){E:Bool}{ID:R}{IE IF:Nat}{i:Nat}(IT:b4 bR Z ID IE (D.z i))(IU:IF=(D.z i).length)(I3:(D.z i).length≤1000000){G:Bool}{IG:R}{IH II:Nat}{j:Nat}(IV:b4 bR Z IG IH (D.z j))(IW:II=(D.z j).length)(I4:(D.z j).length≤1000000)(g:fE eH o Y (u.v E i G j)):u.t Y E ID IF IE G IG II IH Z:=by
 subst IU IW
 have b:=a2.refl Z
 have I5:(D.z 0).length=0:=by simp [D.cP]
 unfold u.v at g
 unfold u.t
 refine dH fun H c Iy=>?_
 have I6:o.size≤Z.size:=a.le
 have I7:Z.size≤Z.size:=b.le
 have IJ:=c.lt
 have IK:=Iy.aS
 have a:=a.trans Iy
 have b:=b.trans Iy
 refine dH fun m d P=>?_
 have I8:Z.size ≠ H.size:=Nat.ne_of_lt c.lt
 have I9:o.size≤H.size:=a.le
 have Ja:Z.size≤H.size:=b.le
 have IL:=d.lt
 have Iv:=P.aS
 have c:=c.I P
 have a:=a.trans P
 have b:=b.trans P
 refine dH fun IX e n=>?_
 have IM:Z.size ≠ m.size:=Nat.ne_of_lt c.lt
 have IN:H.size ≠ m.size:=Nat.ne_of_lt d.lt
 have e:cY IX (m.size) [.bool false,.slice none (D.z 0).length 0]:=by rw [D.cP];exact e
 have IP:o.size≤m.size:=a.le
 have IQ:Z.size≤m.size:=b.le
 have Jb:=e.lt
 have l:=n.aS
 have c:=c.I n
 have d:=d.I n
 have a:=a.trans n
 have b:=b.trans n
 refine⟨eO (aT _ _) ((Iv.trans l).lt IJ),?_⟩
 refine bQ c (aT _ _) rfl ?_
 refine bK rfl ?_
 refine⟨eO (aT _ _) ((l).lt IL),?_⟩
 refine bQ d (aT _ _) rfl ?_
 refine bK rfl ?_
 refine⟨eO (aT _ _) ((Iv.trans l).lt IJ),?_⟩
 refine bQ c (aT _ _) rfl ?_
 refine aQ rfl ?_
 refine⟨eO (aT _ _) ((l).lt IL),?_⟩
 refine bQ d (aT _ _) rfl ?_
 refine aQ rfl ?_
 refine bE (gX.a1 (IT.aS (IK.trans (Iv.trans l))) rfl (IV.aS (IK.trans (Iv.trans l))) rfl (by first | assumption | decide | omega) (by first | assumption | decide | omega)) fun v Jc ⟨f,F⟩=>?_
 obtain⟨IS,Iz⟩:∃ y,y=i*j:=⟨_,rfl⟩
 rw [← Iz] at F
 replace g:=cZ Iz g
 have IY:=q2 i j
 rw [← Iz] at IY
 obtain⟨Jd,Je,rfl,IA⟩:=F
 refine aQ rfl (?_)
 have IA:=IA.from a.le
 have IZ:=f.aS
 have c:=c.I f
 have d:=d.I f
 have e:=e.I f
 have a:=a.trans f
 have b:=b.trans f
 refine⟨f.cM (Nat.le_refl _),?_⟩
 refine bE (eQ.aZ IA.rd rfl) fun v Jf ⟨h,F⟩=>?_
 obtain⟨Jg,IB⟩:∃ y,y=bV (cB ((!(E == G))) IS):=⟨_,rfl⟩
 rw [← IB] at F
 replace g:=cZ IB g
 have I0:=iS ((!(E == G))) IS
 rw [← IB] at I0
 obtain⟨Jh,Ji,rfl,IC⟩:=F
 refine cF rfl (a9 (bK rfl (a9 (aQ rfl (b3 (?_))))))
 have IC:=IC.from a.le
 have Jj:=h.aS
 have c:=c.I h
 have d:=d.I h
 have e:=e.I h
 have a:=a.trans h
 have b:=b.trans h
 refine⟨h.cM (IZ).le,?_⟩
 refine b2 e (aT _ _) rfl fun Jk e Iw I1=>?_
 have c:=c.aJ IM Iw
 have d:=d.aJ IN Iw
 have a:=aV.I a Iw IP
 have b:=aV.I b Iw IQ
 refine b2 e (aT _ _) rfl fun Jl e Ix I2=>?_
 have c:=c.aJ IM Ix
 have d:=d.aJ IN Ix
 have a:=aV.I a Ix IP
 have b:=aV.I b Ix IQ
 refine bQ e (aT _ _) rfl ?_
 refine bK rfl ?_
 refine bQ e (aT _ _) rfl ?_
 refine aQ rfl ?_
 exact g _ _ a ⟨_,_,rfl,(IC.aS (I1.trans I2))⟩
def v(a:Bool)(b:Nat)(c:Bool)(d:Nat):(Bool × Nat):=u.v a b c d
theorem a1{Z:V}{a:Bool}{b:R}{c d:Nat}{e:Nat}(f:b4 bR Z b c (D.z e))(g:d=(D.z e).length)(h:(D.z e).length≤1000000){i:Bool}{j:R}{l m:Nat}{n:Nat}(t:b4 bR Z j l (D.z n))(E:m=(D.z n).length)(G:(D.z n).length≤1000000):aG id #[.agg #[.bool a,.slice b d c],.agg #[.bool i,.slice j m l]] Z fun b c=>a2 Z c∧eH Z c b (v a e i n):=
 ok (u.a1 (a2.refl _) f g h t E G fun v K U F=>⟨U,F⟩)
end h9
namespace fZ
def u.v(a:Bool)(b:Nat)(r:Int):(Bool × Nat):=
 dD (b*2 ^ (Int.toNat r)) fun b=>
 dD (bV (cB a b)) fun a=>
 (a.1,a.2)
theorem u.a1{Y:J}{o Z:V}(a:a2 o Z){i:Bool}{Iw:R}{Ix Iy:Nat}{e:Nat}(IF:b4 bR Z Iw Ix (D.z e))(IG:Iy=(D.z e).length)(IP:(D.z e).length≤1000000){r:Int}(IH:In .i64 r)(IQ:0≤r)(IS:r≤35184372088832∨e=0)(g:fE eH o Y (u.v i e r)):u.t Y i Iw Iy Ix r Z:=by
 subst IG
 have b:=a2.refl Z
 have IT:(D.z 0).length=0:=by simp [D.cP]
 unfold u.v at g
 unfold u.t
 refine dH fun j c m=>?_
 have IU:o.size≤Z.size:=a.le
 have IV:Z.size≤Z.size:=b.le
 have Iz:=c.lt
 have II:=m.aS
 have a:=a.trans m
 have b:=b.trans m
 refine dH fun IJ d l=>?_
 have IA:Z.size ≠ j.size:=Nat.ne_of_lt c.lt
 have d:cY IJ (j.size) [.bool false,.slice none (D.z 0).length 0]:=by rw [D.cP];exact d
 have IB:o.size≤j.size:=a.le
 have IC:Z.size≤j.size:=b.le
 have IW:=d.lt
 have n:=l.aS
 have c:=c.I l
 have a:=a.trans l
 have b:=b.trans l
 refine⟨eO (aT _ _) ((n).lt Iz),?_⟩
 refine bQ c (aT _ _) rfl ?_
 refine bK rfl ?_
 refine⟨eO (aT _ _) ((n).lt Iz),?_⟩
 refine bQ c (aT _ _) rfl ?_
 refine aQ rfl ?_
 refine bE (jK.a1 (IF.aS (II.trans n)) rfl IH (by first | assumption | decide | omega) (by first | assumption | decide | omega) (by first | assumption | decide | omega)) fun v IX ⟨f,F⟩=>?_
 obtain⟨ID,IE⟩:∃ y,y=e*2 ^ (Int.toNat r):=⟨_,rfl⟩
 rw [← IE] at F
 replace g:=cZ IE g
 obtain⟨IY,IZ,rfl,E⟩:=F
 refine aQ rfl (?_)
 have E:=E.from a.le
 have IK:=f.aS
 have c:=c.I f
 have d:=d.I f
 have a:=a.trans f
 have b:=b.trans f
 refine⟨f.cM (Nat.le_refl _),?_⟩
 refine bE (eQ.aZ E.rd rfl) fun v I0 ⟨h,F⟩=>?_
 obtain⟨I1,G⟩:∃ y,y=bV (cB i ID):=⟨_,rfl⟩
 rw [← G] at F
 replace g:=cZ G g
 have IL:=iS i ID
 rw [← G] at IL
 obtain⟨I2,I3,rfl,H⟩:=F
 refine cF rfl (a9 (bK rfl (a9 (aQ rfl (b3 (?_))))))
 have H:=H.from a.le
 have I4:=h.aS
 have c:=c.I h
 have d:=d.I h
 have a:=a.trans h
 have b:=b.trans h
 refine⟨h.cM (IK).le,?_⟩
 refine b2 d (aT _ _) rfl fun I5 d P IM=>?_
 have c:=c.aJ IA P
 have a:=aV.I a P IB
 have b:=aV.I b P IC
 refine b2 d (aT _ _) rfl fun I6 d Iv IN=>?_
 have c:=c.aJ IA Iv
 have a:=aV.I a Iv IB
 have b:=aV.I b Iv IC
 refine bQ d (aT _ _) rfl ?_
 refine bK rfl ?_
 refine bQ d (aT _ _) rfl ?_
 refine aQ rfl ?_
 exact g _ _ a ⟨_,_,rfl,(H.aS (IM.trans IN))⟩
def v(a:Bool)(b:Nat)(r:Int):(Bool × Nat):=u.v a b r
theorem a1{Z:V}{a:Bool}{b:R}{c d:Nat}{e:Nat}(f:b4 bR Z b c (D.z e))(g:d=(D.z e).length)(h:(D.z e).length≤1000000){r:Int}(i:In .i64 r)(j:0≤r)(l:r≤35184372088832∨e=0):aG id #[.agg #[.bool a,.slice b d c],.int .i64 r] Z fun b c=>a2 Z c∧eH Z c b (v a e r):=
 ok (u.a1 (a2.refl _) f g h i j l fun v K U F=>⟨U,F⟩)
end fZ
namespace lH
def aD.v(a:Bool)(a:Nat)(b:Bool)(b:Nat)(b:Bool)(b:Nat)(b:Nat)(c:Nat):((Bool × Nat) × (Bool × Nat)):=
 dD (Int.toNat (1:Int)) fun d=>
 dD (b+d) fun b=>
 dD (bV (cB true b)) fun b=>
 dD (a - c) fun a=>
 dD (bV (cB false a)) fun a=>
 ((b.1,b.2),(a.1,a.2))
theorem aD.a1{Y:J}{o Z:V}(a:a2 o Z){IN:Bool}{IP:R}{IQ:Nat}{n:Nat}(Jg:b4 bR Z IP IQ (D.z n))(Js:(D.z n).length≤10000000){H:Nat}(d:cY Z H [.bool IN,.slice IP (D.z n).length IQ])(Jt:o.size≤H){IS:Bool}{IT:R}{IU:Nat}{Iv:Nat}(Ju:cH bR o Z IT IU (D.z Iv))(Jv:(D.z Iv).length≤10000000){eV:Nat}(b:cY Z eV [.bool IS,.slice IT (D.z Iv).length IU])(IV:o.size≤eV){IW:Bool}{IX:R}{IY:Nat}{Iw:Nat}(Jw:cH bR o Z IX IY (D.z Iw))(Jx:(D.z Iw).length≤10000000){hY:Nat}(c:cY Z hY [.bool IW,.slice IX (D.z Iw).length IY])(IZ:o.size≤hY){I0:R}{I1 I2:Nat}{E:Nat}(Jh:cH bR o Z I0 I1 (D.z E))(Ji:I2=(D.z E).length)(Jy:(D.z E).length≤10000000){I3:R}{I4 I5:Nat}{G:Nat}(Jj:cH bR o Z I3 I4 (D.z G))(Jk:I5=(D.z G).length)(Jz:(D.z G).length≤10000000)(I6:H ≠ eV)(I7:H ≠ hY)(Ix:eV ≠ hY)(g:fE (s2 eH eH) o Y (aD.v IN n IS Iv IW Iw E G)):aD.t Y (⟨H,0,none⟩:Addr) (⟨eV,0,none⟩:Addr) (⟨hY,0,none⟩:Addr) I0 I2 I1 I3 I5 I4 Z:=by
 subst Ji Jk
 have e:=a2.refl Z
 have Jl:=d.lt
 have JA:=b.lt
 have JB:=c.lt
 have JC:(D.z 0).length=0:=by simp [D.cP]
 unfold aD.v at g
 unfold aD.t
 refine bE (gV.a1 (show In .u64 (1:Int) by decide)) fun v JD ⟨f,F⟩=>?_
 obtain⟨I8,Iz⟩:∃ y,y=Int.toNat (1:Int):=⟨_,rfl⟩
 rw [← Iz] at F
 replace g:=cZ Iz g
 have Jm:=q3 (show In .u64 (1:Int) by decide)
 rw [← Iz] at Jm
 obtain⟨JE,JF,rfl,IA⟩:=F
 refine aQ rfl (?_)
 have IA:=IA.from a.le
 have h:=f.aS
 have d:=d.I f
 have b:=b.I f
 have c:=c.I f
 have a:=a.trans f
 have e:=e.trans f
 refine⟨f.cM (Nat.le_refl _),?_⟩
 refine bE (gW.a1 (Jh.aS (h)).rd rfl IA.rd rfl (by first | assumption | decide | omega) (by first | assumption | decide | omega)) fun v JG ⟨i,F⟩=>?_
 obtain⟨I9,IB⟩:∃ y,y=E+I8:=⟨_,rfl⟩
 rw [← IB] at F
 replace g:=cZ IB g
 have Jn:=uX E I8
 rw [← IB] at Jn
 obtain⟨JH,JI,rfl,IC⟩:=F
 refine aQ rfl (?_)
 have IC:=IC.from a.le
 have P:=i.aS
 have d:=d.I i
 have b:=b.I i
 have c:=c.I i
 have a:=a.trans i
 have e:=e.trans i
 refine⟨i.cM (h).le,?_⟩
 refine bE (eQ.aZ IC.rd rfl) fun v JJ ⟨j,F⟩=>?_
 obtain⟨JK,ID⟩:∃ y,y=bV (cB true I9):=⟨_,rfl⟩
 rw [← ID] at F
 replace g:=cZ ID g
 have Jo:=iS true I9
 rw [← ID] at Jo
 obtain⟨JL,JM,rfl,IE⟩:=F
 refine cF rfl (a9 (bK rfl (a9 (aQ rfl (b3 (?_))))))
 have IE:=IE.from a.le
 have Iy:=j.aS
 have d:=d.I j
 have b:=b.I j
 have c:=c.I j
 have a:=a.trans j
 have e:=e.trans j
 refine⟨j.cM (h.trans P).le,?_⟩
 refine⟨eO (aT _ _) (Jl),?_⟩
 refine bQ d (aT _ _) rfl ?_
 refine aQ rfl ?_
 refine bE (hA.a1 (Jg.aS (h.trans (P.trans Iy))) rfl (Jj.aS (h.trans (P.trans Iy))).rd rfl) fun v JN ⟨l,F⟩=>?_
 obtain⟨Ja,IF⟩:∃ y,y=n - G:=⟨_,rfl⟩
 rw [← IF] at F
 replace g:=cZ IF g
 have Jp:=pL (Nat.sub_le n G)
 rw [← IF] at Jp
 obtain⟨JO,JP,rfl,IG⟩:=F
 refine aQ rfl (?_)
 have IG:=IG.from a.le
 have Jb:=l.aS
 have d:=d.I l
 have b:=b.I l
 have c:=c.I l
 have a:=a.trans l
 have e:=e.trans l
 refine⟨l.cM (h.trans (P.trans Iy)).le,?_⟩
 refine bE (eQ.aZ IG.rd rfl) fun v JQ ⟨m,F⟩=>?_
 obtain⟨JR,IH⟩:∃ y,y=bV (cB false Ja):=⟨_,rfl⟩
 rw [← IH] at F
 replace g:=cZ IH g
 have Jq:=iS false Ja
 rw [← IH] at Jq
 obtain⟨JS,JT,rfl,II⟩:=F
 refine cF rfl (a9 (bK rfl (a9 (aQ rfl (b3 (?_))))))
 have II:=II.from a.le
 have Jr:=m.aS
 have d:=d.I m
 have b:=b.I m
 have c:=c.I m
 have a:=a.trans m
 have e:=e.trans m
 refine⟨m.cM (h.trans (P.trans (Iy.trans Jb))).le,?_⟩
 refine b2 b (aT _ _) rfl fun JU b IJ Jc=>?_
 have d:=d.aJ I6 IJ
 have c:=c.aJ (Ne.symm Ix) IJ
 have a:=aV.I a IJ IV
 refine b2 b (aT _ _) rfl fun JV b IK Jd=>?_
 have d:=d.aJ I6 IK
 have c:=c.aJ (Ne.symm Ix) IK
 have a:=aV.I a IK IV
 refine b2 c (aT _ _) rfl fun JW c IL Je=>?_
 have d:=d.aJ I7 IL
 have b:=b.aJ Ix IL
 have a:=aV.I a IL IZ
 refine b2 c (aT _ _) rfl fun JX c IM Jf=>?_
 have d:=d.aJ I7 IM
 have b:=b.aJ Ix IM
 have a:=aV.I a IM IZ
 refine bQ b (aT _ _) rfl ?_
 refine bK rfl ?_
 refine bQ b (aT _ _) rfl ?_
 refine aQ rfl ?_
 refine bQ c (aT _ _) rfl ?_
 refine bK rfl ?_
 refine bQ c (aT _ _) rfl ?_
 refine aQ rfl ?_
 exact g _ _ a ⟨_,_,rfl,⟨_,_,rfl,(IE.aS (Jb.trans (Jr.trans (Jc.trans (Jd.trans (Je.trans Jf))))))⟩,⟨_,_,rfl,(II.aS (Jc.trans (Jd.trans (Je.trans Jf))))⟩⟩
def u.v(a:Bool)(b:Nat)(c:Bool)(d:Nat):((Bool × Nat) × (Bool × Nat)):=
 dD (hP.v c d) fun e=>
 bif (decide (e≤(0:Int))) then
  ((false,0),(false,0))
 else
  dD (lC b d) fun b=>
  bif (!a) then
   dD (bV (cB a b.1)) fun e=>
   dD (bV (cB false b.2)) fun f=>
   ((e.1,e.2),(f.1,f.2))
  else
   bif (((((D.z b.2).length:Nat):Int)) == (0:Int)) then
    dD (bV (cB a b.1)) fun a=>
    dD (bV (cB false b.2)) fun e=>
    ((a.1,a.2),(e.1,e.2))
   else
    aD.v c d false 0 false 0 b.1 b.2
theorem u.a1{Y:J}{o Z:V}(a:a2 o Z){IC:Bool}{Jd:R}{Je Jf:Nat}{Iv:Nat}(Jo:b4 bR Z Jd Je (D.z Iv))(Jp:Jf=(D.z Iv).length)(JG:(D.z Iv).length≤1000000){I1:Bool}{Jg:R}{Jh Ji:Nat}{H:Nat}(I2:b4 bR Z Jg Jh (D.z H))(Jq:Ji=(D.z H).length)(JH:(D.z H).length≤1000000)(g:fE (s2 eH eH) o Y (u.v IC Iv I1 H)):u.t Y IC Jd Jf Je I1 Jg Ji Jh Z:=by
 subst Jp Jq
 have d:=a2.refl Z
 have JI:(D.z 0).length=0:=by simp [D.cP]
 unfold u.v at g
 unfold u.t
 refine dH fun IK c I3=>?_
 have JJ:o.size≤Z.size:=a.le
 have JK:Z.size≤Z.size:=d.le
 have JL:=c.lt
 have IT:=I3.aS
 have a:=a.trans I3
 have d:=d.trans I3
 refine dH fun ID f IU=>?_
 have JM:Z.size ≠ IK.size:=Nat.ne_of_lt c.lt
 have Jr:o.size≤IK.size:=a.le
 have JN:Z.size≤IK.size:=d.le
 have JO:=f.lt
 have IV:=IU.aS
 have c:=c.I IU
 have a:=a.trans IU
 have d:=d.trans IU
 refine dH fun Iw b IL=>?_
 have IE:Z.size ≠ ID.size:=Nat.ne_of_lt c.lt
 have Ix:IK.size ≠ ID.size:=Nat.ne_of_lt f.lt
 have b:cY Iw (ID.size) [.bool false,.slice none (D.z 0).length 0]:=by rw [D.cP];exact b
 have Iy:o.size≤ID.size:=a.le
 have IF:Z.size≤ID.size:=d.le
 have JP:=b.lt
 have IW:=IL.aS
 have c:=c.I IL
 have f:=f.I IL
 have a:=a.trans IL
 have d:=d.trans IL
 refine dH fun Js e IG=>?_
 have IH:Z.size ≠ Iw.size:=Nat.ne_of_lt c.lt
 have Iz:IK.size ≠ Iw.size:=Nat.ne_of_lt f.lt
 have l:ID.size ≠ Iw.size:=Nat.ne_of_lt b.lt
 have e:cY Js (Iw.size) [.bool false,.slice none (D.z 0).length 0]:=by rw [D.cP];exact e
 have IA:o.size≤Iw.size:=a.le
 have II:Z.size≤Iw.size:=d.le
 have JQ:=e.lt
 have IX:=IG.aS
 have c:=c.I IG
 have f:=f.I IG
 have b:=b.I IG
 have a:=a.trans IG
 have d:=d.trans IG
 refine bQ f (aT _ _) rfl ?_
 refine bK rfl ?_
 refine bQ f (aT _ _) rfl ?_
 refine aQ rfl ?_
 refine bE (hP.a1 (I2.aS (IT.trans (IV.trans (IW.trans IX)))) rfl) fun v JR ⟨IB,F⟩=>?_
 obtain⟨JS,Jj⟩:∃ y,y=hP.v I1 H:=⟨_,rfl⟩
 rw [← Jj] at F
 replace g:=cZ Jj g
 obtain⟨rfl,JT⟩:=F
 refine bJ rfl (?_)
 have I4:=IB.aS
 have c:=c.I IB
 have f:=f.I IB
 have b:=b.I IB
 have e:=e.I IB
 have a:=a.trans IB
 have d:=d.trans IB
 refine mR g (fun Jt g=>?_) (fun Jt g=>?_)
 ·refine b2 b (aT _ _) rfl fun Ju b m Jk=>?_
  have c:=c.aJ IE m
  have f:=f.aJ Ix m
  have e:=e.aJ (Ne.symm l) m
  have a:=aV.I a m Iy
  have d:=aV.I d m IF
  refine b2 b (aT _ _) rfl fun Jl b h IY=>?_
  have b:=b.Bj
  have c:=c.aJ IE h
  have f:=f.aJ Ix h
  have e:=e.aJ (Ne.symm l) h
  have a:=aV.I a h Iy
  have d:=aV.I d h IF
  refine b2 e (aT _ _) rfl fun Jm e i IZ=>?_
  have c:=c.aJ IH i
  have f:=f.aJ Iz i
  have b:=b.aJ l i
  have a:=aV.I a i IA
  have d:=aV.I d i II
  refine b2 e (aT _ _) rfl fun Jn e j IJ=>?_
  have e:=e.Bj
  have c:=c.aJ IH j
  have f:=f.aJ Iz j
  have b:=b.aJ l j
  have a:=aV.I a j IA
  have d:=aV.I d j II
  refine bQ b (aT _ _) rfl ?_
  refine bK rfl ?_
  refine bQ b (aT _ _) rfl ?_
  refine aQ rfl ?_
  refine bQ e (aT _ _) rfl ?_
  refine bK rfl ?_
  refine bQ e (aT _ _) rfl ?_
  refine aQ rfl ?_
  exact g _ _ a ⟨_,_,rfl,⟨_,_,rfl,(iL _ _)⟩,⟨_,_,rfl,(iL _ _)⟩⟩
 ·refine bQ c (aT _ _) rfl ?_
  refine aQ rfl ?_
  refine bQ f (aT _ _) rfl ?_
  refine aQ rfl ?_
  refine bE (hB.a1 (Jo.aS (IT.trans (IV.trans (IW.trans (IX.trans I4))))) rfl (I2.aS (IT.trans (IV.trans (IW.trans (IX.trans I4))))) rfl (by first | assumption | decide | omega)) fun v Ju ⟨m,F⟩=>?_
  obtain⟨P,I0⟩:∃ y,y=lC Iv H:=⟨_,rfl⟩
  rw [← I0] at F
  replace g:=cZ I0 g
  have Jv:=FD Iv H
  rw [← I0] at Jv
  have Jw:=FE Iv H
  rw [← I0] at Jw
  obtain⟨_,_,rfl,⟨JU,JV,rfl,IM⟩,⟨JW,JX,rfl,IN⟩⟩:=F
  refine fR rfl (a9 (aQ rfl (a9 (aQ rfl (b3 (?_))))))
  have IM:=IM.from a.le
  have IN:=IN.from a.le
  have Jk:=m.aS
  have c:=c.I m
  have f:=f.I m
  have b:=b.I m
  have e:=e.I m
  have a:=a.trans m
  have d:=d.trans m
  refine bQ c (aT _ _) rfl ?_
  refine bK rfl ?_
  refine Ae g (fun Jx g=>?_) (fun Jx g=>?_)
  ·refine bQ c (aT _ _) rfl ?_
   refine bK rfl ?_
   refine bE (eQ.aZ IM.rd rfl) fun v Jl ⟨h,F⟩=>?_
   obtain⟨JY,I5⟩:∃ y,y=bV (cB IC P.1):=⟨_,rfl⟩
   rw [← I5] at F
   replace g:=cZ I5 g
   have Jy:=iS IC P.1
   rw [← I5] at Jy
   obtain⟨JZ,J0,rfl,I6⟩:=F
   refine cF rfl (a9 (bK rfl (a9 (aQ rfl (b3 (?_))))))
   have I6:=I6.from a.le
   have IY:=h.aS
   have c:=c.I h
   have f:=f.I h
   have b:=b.I h
   have e:=e.I h
   have a:=a.trans h
   have d:=d.trans h
   refine bE (eQ.aZ (IN.aS (IY)).rd rfl) fun v Jm ⟨i,F⟩=>?_
   obtain⟨J1,I7⟩:∃ y,y=bV (cB false P.2):=⟨_,rfl⟩
   rw [← I7] at F
   replace g:=cZ I7 g
   have Jz:=iS false P.2
   rw [← I7] at Jz
   obtain⟨J2,J3,rfl,I8⟩:=F
   refine cF rfl (a9 (bK rfl (a9 (aQ rfl (b3 (?_))))))
   have I8:=I8.from a.le
   have IZ:=i.aS
   have c:=c.I i
   have f:=f.I i
   have b:=b.I i
   have e:=e.I i
   have a:=a.trans i
   have d:=d.trans i
   refine b2 b (aT _ _) rfl fun Jn b j IJ=>?_
   have c:=c.aJ IE j
   have f:=f.aJ Ix j
   have e:=e.aJ (Ne.symm l) j
   have a:=aV.I a j Iy
   have d:=aV.I d j IF
   refine b2 b (aT _ _) rfl fun JA b n IP=>?_
   have c:=c.aJ IE n
   have f:=f.aJ Ix n
   have e:=e.aJ (Ne.symm l) n
   have a:=aV.I a n Iy
   have d:=aV.I d n IF
   refine b2 e (aT _ _) rfl fun JB e E IQ=>?_
   have c:=c.aJ IH E
   have f:=f.aJ Iz E
   have b:=b.aJ l E
   have a:=aV.I a E IA
   have d:=aV.I d E II
   refine b2 e (aT _ _) rfl fun JC e G IS=>?_
   have c:=c.aJ IH G
   have f:=f.aJ Iz G
   have b:=b.aJ l G
   have a:=aV.I a G IA
   have d:=aV.I d G II
   refine bQ b (aT _ _) rfl ?_
   refine bK rfl ?_
   refine bQ b (aT _ _) rfl ?_
   refine aQ rfl ?_
   refine bQ e (aT _ _) rfl ?_
   refine bK rfl ?_
   refine bQ e (aT _ _) rfl ?_
   refine aQ rfl ?_
   exact g _ _ a ⟨_,_,rfl,⟨_,_,rfl,(I6.aS (IZ.trans (IJ.trans (IP.trans (IQ.trans IS)))))⟩,⟨_,_,rfl,(I8.aS (IJ.trans (IP.trans (IQ.trans IS))))⟩⟩
  ·refine r3 g (fun JD g=>?_) (fun JD g=>?_)
   ·refine bQ c (aT _ _) rfl ?_
    refine bK rfl ?_
    refine bE (eQ.aZ IM.rd rfl) fun v Jl ⟨h,F⟩=>?_
    obtain⟨J4,I9⟩:∃ y,y=bV (cB IC P.1):=⟨_,rfl⟩
    rw [← I9] at F
    replace g:=cZ I9 g
    have JE:=iS IC P.1
    rw [← I9] at JE
    obtain⟨J5,J6,rfl,Ja⟩:=F
    refine cF rfl (a9 (bK rfl (a9 (aQ rfl (b3 (?_))))))
    have Ja:=Ja.from a.le
    have IY:=h.aS
    have c:=c.I h
    have f:=f.I h
    have b:=b.I h
    have e:=e.I h
    have a:=a.trans h
    have d:=d.trans h
    refine bE (eQ.aZ (IN.aS (IY)).rd rfl) fun v Jm ⟨i,F⟩=>?_
    obtain⟨J7,Jb⟩:∃ y,y=bV (cB false P.2):=⟨_,rfl⟩
    rw [← Jb] at F
    replace g:=cZ Jb g
    have JF:=iS false P.2
    rw [← Jb] at JF
    obtain⟨J8,J9,rfl,Jc⟩:=F
    refine cF rfl (a9 (bK rfl (a9 (aQ rfl (b3 (?_))))))
    have Jc:=Jc.from a.le
    have IZ:=i.aS
    have c:=c.I i
    have f:=f.I i
    have b:=b.I i
    have e:=e.I i
    have a:=a.trans i
    have d:=d.trans i
    refine b2 b (aT _ _) rfl fun Jn b j IJ=>?_
    have c:=c.aJ IE j
    have f:=f.aJ Ix j
    have e:=e.aJ (Ne.symm l) j
    have a:=aV.I a j Iy
    have d:=aV.I d j IF
    refine b2 b (aT _ _) rfl fun JA b n IP=>?_
    have c:=c.aJ IE n
    have f:=f.aJ Ix n
    have e:=e.aJ (Ne.symm l) n
    have a:=aV.I a n Iy
    have d:=aV.I d n IF
    refine b2 e (aT _ _) rfl fun JB e E IQ=>?_
    have c:=c.aJ IH E
    have f:=f.aJ Iz E
    have b:=b.aJ l E
    have a:=aV.I a E IA
    have d:=aV.I d E II
    refine b2 e (aT _ _) rfl fun JC e G IS=>?_
    have c:=c.aJ IH G
    have f:=f.aJ Iz G
    have b:=b.aJ l G
    have a:=aV.I a G IA
    have d:=aV.I d G II
    refine bQ b (aT _ _) rfl ?_
    refine bK rfl ?_
    refine bQ b (aT _ _) rfl ?_
    refine aQ rfl ?_
    refine bQ e (aT _ _) rfl ?_
    refine bK rfl ?_
    refine bQ e (aT _ _) rfl ?_
    refine aQ rfl ?_
    exact g _ _ a ⟨_,_,rfl,⟨_,_,rfl,(Ja.aS (IZ.trans (IJ.trans (IP.trans (IQ.trans IS)))))⟩,⟨_,_,rfl,(Jc.aS (IJ.trans (IP.trans (IQ.trans IS))))⟩⟩
   ·exact aD.a1 a (I2.aS (IT.trans (IV.trans (IW.trans (IX.trans (I4.trans Jk)))))) (by first | assumption | decide | omega) f Jr (iL _ _) (by first | assumption | decide | omega) b Iy (iL _ _) (by first | assumption | decide | omega) e IA IM rfl (by first | assumption | decide | omega) IN rfl (by first | assumption | decide | omega) Ix Iz l g
def v(a:Bool)(b:Nat)(c:Bool)(d:Nat):((Bool × Nat) × (Bool × Nat)):=u.v a b c d
theorem a1{Z:V}{a:Bool}{b:R}{c d:Nat}{e:Nat}(f:b4 bR Z b c (D.z e))(g:d=(D.z e).length)(h:(D.z e).length≤1000000){i:Bool}{j:R}{l m:Nat}{n:Nat}(t:b4 bR Z j l (D.z n))(E:m=(D.z n).length)(G:(D.z n).length≤1000000):aG id #[.agg #[.bool a,.slice b d c],.agg #[.bool i,.slice j m l]] Z fun b c=>a2 Z c∧(s2 eH eH) Z c b (v a e i n):=
 ok (u.a1 (a2.refl _) f g h t E G fun v K U F=>⟨U,F⟩)
end lH
namespace lI
def u.v(a:Bool)(a:Nat):Bool:=
 (((pD a (0:Int))) == (0:Int))
theorem u.a1{Y:J}{o Z:V}(a:a2 o Z){h:Bool}{i:R}{j l:Nat}{e:Nat}(m:b4 bR Z i j (D.z e))(n:l=(D.z e).length)(g:fE qN o Y (u.v h e)):u.t Y h i l j Z:=by
 subst n
 have b:=a2.refl Z
 unfold u.v at g
 unfold u.t
 refine dH fun G c f=>?_
 have H:o.size≤Z.size:=a.le
 have P:Z.size≤Z.size:=b.le
 have Iv:=c.lt
 have E:=f.aS
 have a:=a.trans f
 have b:=b.trans f
 refine bQ c (aT _ _) rfl ?_
 refine aQ rfl ?_
 refine bE (l1.a1 (m.aS (E)) rfl (show In .i64 (0:Int) by decide)) fun v Iw ⟨d,F⟩=>?_
 obtain⟨rfl,Ix⟩:=F
 refine bJ rfl (?_)
 have Iy:=d.aS
 have c:=c.I d
 have a:=a.trans d
 have b:=b.trans d
 exact g _ _ a rfl
def v(a:Bool)(b:Nat):Bool:=u.v a b
theorem a1{Z:V}{a:Bool}{b:R}{c d:Nat}{e:Nat}(f:b4 bR Z b c (D.z e))(g:d=(D.z e).length):aG id #[.agg #[.bool a,.slice b d c]] Z fun b c=>a2 Z c∧qN Z c b (v a e):=
 ok (u.a1 (a2.refl _) f g fun v K U F=>⟨U,F⟩)
end lI
theorem kH(N:Bool)(aH:Nat):bF (N,aH)=cB N aH:=rfl
theorem Bl(N:Bool)(aH:Nat):hP.v N aH=eJ (bF (N,aH)) 0:=by
 unfold hP.v hP.u.v
 rw [kH]
 by_cases Z:aH=0
 ·have O:(((D.z aH).length:Int) == 0)=true:=by have:=(q1 aH).mpr Z;rw [this];rfl
  rw [O,Z,nJ];rfl
 ·have O:(((D.z aH).length:Int) == 0)=false:=by
   have:=mt (q1 aH).mp Z
   simp only [beq_eq_false_iff_ne,ne_eq];omega
  rw [O]
  cases N
  ·have:¬ cB false aH < 0:=by unfold cB;simp
   have a:cB false aH ≠ 0:=fun O=>Z (w9.mp O)
   simp [eJ,this,a]
  ·have:cB true aH < 0:=by unfold cB;simp;omega
   simp [eJ,this]
theorem FK(N:Bool)(aH:Nat):iT.v N aH=bV (-bF (N,aH)):=by
 rw [kH,w7];rfl
theorem FL{m n:Nat}:decide (e4 m n≥0)=decide (n≤m):=by
 unfold e4
 by_cases Z:m < n
 ·simp [Z]
 ·rw [if_neg Z];split <;> simp <;> omega
theorem FM(N c:Bool)(aH aY:Nat):hQ.v N aH c aY=bV (bF (N,aH)+bF (c,aY)):=by
 rw [kH,kH]
 unfold hQ.v hQ.u.v
 by_cases Z:N=c
 ·subst Z
  rw [Fs];simp only [beq_self_eq_true,cond_true];rfl
 ·have O:(N == c)=false:=by simp [Z]
  rw [O,cond_false,FL]
  by_cases a:aY≤aH
  ·rw [Bc Z a];simp only [a,decide_true,cond_true];rfl
  ·rw [Int.add_comm,Bc (fun O=>Z O.symm) (by omega)];simp only [a,decide_false,cond_false];rfl
theorem FN(N c:Bool)(aH aY:Nat):h9.v N aH c aY=bV (bF (N,aH)*bF (c,aY)):=by
 rw [kH,kH,w8]
 have:xor N c=(!(N == c)):=by cases N <;> cases c <;> rfl
 rw [this];rfl
theorem FO(N:Bool)(aH:Nat)(n:Int):fZ.v N aH n=bV (bF (N,aH)*2 ^ n.toNat):=by
 rw [kH,Fu];rfl
theorem Bm{a N:Int}(Z:0 < N):kZ a N=(bV (jY a N),bV (nI a N)):=by
 unfold kZ nI
 rw [if_neg (by omega),Bk Z,Int.emod_def]
theorem FP(N c:Bool)(aH aY:Nat):lH.v N aH c aY=kZ (bF (N,aH)) (bF (c,aY)):=by
 unfold lH.v lH.u.v
 rw [Bl,kH,kH]
 simp only [dD]
 by_cases Z:cB c aY≤0
 ·have:decide (eJ (cB c aY) 0≤0)=true:=by
   apply decide_eq_true;unfold eJ;split
   ·decide
   ·rw [if_pos (by omega)];decide
  rw [this,cond_true]
  unfold kZ;rw [if_pos Z]
 ·have:decide (eJ (cB c aY) 0≤0)=false:=by
   apply decide_eq_false;unfold eJ;rw [if_neg (by omega),if_neg (by omega)];decide
  rw [this,cond_false,Bm (by omega)]
  have f:c=false:=by
   cases c
   ·rfl
   ·exfalso;apply Z;unfold cB;simp
  subst f
  have d:aY ≠ 0:=fun O=>Z (by subst O;rw [nJ];exact Int.le_refl _)
  have g:lC aH aY=(aH / aY,aH % aY):=by unfold lC;rw [if_neg d]
  rw [g]
  by_cases e:aH=0
  ·subst e
   rw [nJ,Be,Fw,Nat.zero_div,Nat.zero_mod]
   have b:(((D.z 0).length:Int) == 0)=true:=by rw [(q1 0).mpr rfl];rfl
   cases N
   ·simp only [Bool.not_false,cond_true,nJ]
   ·simp only [Bool.not_true,cond_false,b,cond_true,nJ]
  ·rw [uW d fun _=>e,Bf d fun _=>e,Bool.xor_false]
   cases N
   ·simp only [Bool.not_false,cond_true,Bool.false_eq_true,false_and,if_false]
   ·simp only [Bool.not_true,cond_false,true_and]
    by_cases a:aH % aY=0
    ·have b:(((D.z (aH % aY)).length:Int) == 0)=true:=by rw [(q1 _).mpr a];rfl
     rw [b,cond_true,if_neg (by simp [a]),if_neg (by simp [a])]
    ·have b:(((D.z (aH % aY)).length:Int) == 0)=false:=by
      have:=mt (q1 (aH % aY)).mp a
      simp only [beq_eq_false_iff_ne,ne_eq];omega
     rw [b,cond_false,if_pos a,if_pos a]
     rfl
theorem FQ(N:Bool)(aH:Nat):lI.v N aH=decide (aH % 2=0):=by
 unfold lI.v lI.u.v pD
 rw [if_neg (by decide)]
 simp only [Int.toNat_zero,Nat.pow_zero,Nat.div_one]
 rcases Nat.mod_two_eq_zero_or_one aH with Z | Z <;> rw [Z] <;> rfl
section
variable {a N:R} {c aB l m aH aY:Nat} {S w:List Nat} {Z:V} {Q k:Int} {y x:Bool}
theorem hP.aZ(C:b4 bR Z a c (D.z aH))(O:l=(D.z aH).length):aG hP.id #[.agg #[.bool y,.slice a l c]] Z fun v K=>a2 Z K∧lB .i64 Z K v (eJ (bF (y,aH)) 0):=by rw [← Bl];exact hP.a1 C O
theorem iT.aZ(C:b4 bR Z a c (D.z aH))(O:l=(D.z aH).length):aG iT.id #[.agg #[.bool y,.slice a l c]] Z fun v K=>a2 Z K∧eH Z K v (bV (-bF (y,aH))):=by rw [← FK];exact iT.a1 C O
theorem hQ.aZ(C:b4 bR Z a c (D.z aH))(O:l=(D.z aH).length)(F:b4 bR Z N aB (D.z aY))(a3:m=(D.z aY).length)(b:(D.z aH).length≤1000000)(d:(D.z aY).length≤1000000):aG hQ.id #[.agg #[.bool y,.slice a l c],.agg #[.bool x,.slice N m aB]] Z fun v K=>a2 Z K∧eH Z K v (bV (bF (y,aH)+bF (x,aY))):=by rw [← FM];exact hQ.a1 C O b F a3 d
theorem h9.aZ(C:b4 bR Z a c (D.z aH))(O:l=(D.z aH).length)(F:b4 bR Z N aB (D.z aY))(a3:m=(D.z aY).length)(b:(D.z aH).length≤1000000)(d:(D.z aY).length≤1000000):aG h9.id #[.agg #[.bool y,.slice a l c],.agg #[.bool x,.slice N m aB]] Z fun v K=>a2 Z K∧eH Z K v (bV (bF (y,aH)*bF (x,aY))):=by rw [← FN];exact h9.a1 C O b F a3 d
theorem fZ.aZ(C:b4 bR Z a c (D.z aH))(O:l=(D.z aH).length)(T:In .i64 Q)(b:(D.z aH).length≤1000000)(d:0≤Q)(e:Q≤35184372088832∨eJ (bF (y,aH)) 0=0):aG fZ.id #[.agg #[.bool y,.slice a l c],.int .i64 Q] Z fun v K=>a2 Z K∧eH Z K v (bV (bF (y,aH)*2 ^ Q.toNat)):=by rw [← FO];exact fZ.a1 C O b T d (e.imp (fun a5=>a5) fun a5=>by
  have:(eJ (bF (y,aH)) 0 == 0)=true:=by rw [a5];rfl
  rw [FC] at this
  exact w9.mp (of_decide_eq_true this))
theorem lH.aZ(C:b4 bR Z a c (D.z aH))(O:l=(D.z aH).length)(F:b4 bR Z N aB (D.z aY))(a3:m=(D.z aY).length)(b:(D.z aH).length≤1000000)(d:(D.z aY).length≤1000000):aG lH.id #[.agg #[.bool y,.slice a l c],.agg #[.bool x,.slice N m aB]] Z fun v K=>a2 Z K∧s2 eH eH Z K v (kZ (bF (y,aH)) (bF (x,aY))):=by rw [← FP];exact lH.a1 C O b F a3 d
theorem lI.aZ(C:b4 bR Z a c (D.z aH))(O:l=(D.z aH).length):aG lI.id #[.agg #[.bool y,.slice a l c]] Z fun v K=>a2 Z K∧qN Z K v (decide (aH % 2=0)):=by rw [← FQ y];exact lI.a1 C O
end
namespace gL
def u.v(a:Bool)(b:Nat)(c:Bool)(d:Nat):(Bool × Nat):=
 dD (bV (-bF (c,d))) fun c=>
 dD (bV (bF (a,b)+bF (c.1,c.2))) fun a=>
 (a.1,a.2)
theorem u.a1{Y:J}{o Z:V}(a:a2 o Z){n:Bool}{IE:R}{IF IG:Nat}{i:Nat}(IS:b4 bR Z IE IF (D.z i))(IT:IG=(D.z i).length)(I3:(D.z i).length≤1000000){E:Bool}{IH:R}{II IJ:Nat}{j:Nat}(IU:b4 bR Z IH II (D.z j))(IV:IJ=(D.z j).length)(I4:(D.z j).length≤1000000)(g:fE eH o Y (u.v n i E j)):u.t Y n IE IG IF E IH IJ II Z:=by
 subst IT IV
 have b:=a2.refl Z
 have I5:(D.z 0).length=0:=by simp [D.cP]
 unfold u.v at g
 unfold u.t
 refine dH fun G c Iy=>?_
 have I6:o.size≤Z.size:=a.le
 have I7:Z.size≤Z.size:=b.le
 have IW:=c.lt
 have IK:=Iy.aS
 have a:=a.trans Iy
 have b:=b.trans Iy
 refine dH fun l d H=>?_
 have I8:Z.size ≠ G.size:=Nat.ne_of_lt c.lt
 have I9:o.size≤G.size:=a.le
 have Ja:Z.size≤G.size:=b.le
 have IX:=d.lt
 have Iz:=H.aS
 have c:=c.I H
 have a:=a.trans H
 have b:=b.trans H
 refine dH fun IY e m=>?_
 have IL:Z.size ≠ l.size:=Nat.ne_of_lt c.lt
 have IM:G.size ≠ l.size:=Nat.ne_of_lt d.lt
 have e:cY IY (l.size) [.bool false,.slice none (D.z 0).length 0]:=by rw [D.cP];exact e
 have IN:o.size≤l.size:=a.le
 have IP:Z.size≤l.size:=b.le
 have Jb:=e.lt
 have P:=m.aS
 have c:=c.I m
 have d:=d.I m
 have a:=a.trans m
 have b:=b.trans m
 refine⟨eO rfl ((Iz.trans P).lt IW),?_⟩
 refine bQ c (aT _ _) rfl ?_
 refine bK rfl ?_
 refine bQ c (aT _ _) rfl ?_
 refine aQ rfl ?_
 refine⟨eO rfl ((P).lt IX),?_⟩
 refine bQ d (aT _ _) rfl ?_
 refine bK rfl ?_
 refine bQ d (aT _ _) rfl ?_
 refine aQ rfl ?_
 refine bE (iT.aZ (IU.aS (IK.trans (Iz.trans P))) rfl) fun v Jc ⟨f,F⟩=>?_
 obtain⟨Iv,IA⟩:∃ y,y=bV (-bF (E,j)):=⟨_,rfl⟩
 rw [← IA] at F
 replace g:=cZ IA g
 have IZ:=pN E j
 rw [← IA] at IZ
 obtain⟨Jd,Je,rfl,IB⟩:=F
 refine cF rfl (a9 (bK rfl (a9 (aQ rfl (b3 (?_))))))
 have IB:=IB.from a.le
 have IQ:=f.aS
 have c:=c.I f
 have d:=d.I f
 have e:=e.I f
 have a:=a.trans f
 have b:=b.trans f
 refine⟨f.cM (Nat.le_refl _),?_⟩
 refine bE (hQ.aZ (IS.aS (IK.trans (Iz.trans (P.trans IQ)))) rfl IB.rd rfl (by first | assumption | decide | omega) (by first | assumption | decide | omega)) fun v Jf ⟨h,F⟩=>?_
 obtain⟨Jg,IC⟩:∃ y,y=bV (bF (n,i)+bF (Iv.1,Iv.2)):=⟨_,rfl⟩
 rw [← IC] at F
 replace g:=cZ IC g
 have I0:=pO n i Iv.1 Iv.2
 rw [← IC] at I0
 obtain⟨Jh,Ji,rfl,ID⟩:=F
 refine cF rfl (a9 (bK rfl (a9 (aQ rfl (b3 (?_))))))
 have ID:=ID.from a.le
 have Jj:=h.aS
 have c:=c.I h
 have d:=d.I h
 have e:=e.I h
 have a:=a.trans h
 have b:=b.trans h
 refine⟨h.cM (IQ).le,?_⟩
 refine b2 e (aT _ _) rfl fun Jk e Iw I1=>?_
 have c:=c.aJ IL Iw
 have d:=d.aJ IM Iw
 have a:=aV.I a Iw IN
 have b:=aV.I b Iw IP
 refine b2 e (aT _ _) rfl fun Jl e Ix I2=>?_
 have c:=c.aJ IL Ix
 have d:=d.aJ IM Ix
 have a:=aV.I a Ix IN
 have b:=aV.I b Ix IP
 refine bQ e (aT _ _) rfl ?_
 refine bK rfl ?_
 refine bQ e (aT _ _) rfl ?_
 refine aQ rfl ?_
 exact g _ _ a ⟨_,_,rfl,(ID.aS (I1.trans I2))⟩
def v(a:Bool)(b:Nat)(c:Bool)(d:Nat):(Bool × Nat):=u.v a b c d
theorem a1{Z:V}{a:Bool}{b:R}{c d:Nat}{e:Nat}(f:b4 bR Z b c (D.z e))(g:d=(D.z e).length)(h:(D.z e).length≤1000000){i:Bool}{j:R}{l m:Nat}{n:Nat}(t:b4 bR Z j l (D.z n))(E:m=(D.z n).length)(G:(D.z n).length≤1000000):aG id #[.agg #[.bool a,.slice b d c],.agg #[.bool i,.slice j m l]] Z fun b c=>a2 Z c∧eH Z c b (v a e i n):=
 ok (u.a1 (a2.refl _) f g h t E G fun v K U F=>⟨U,F⟩)
end gL
theorem FR(N c:Bool)(aH aY:Nat):gL.v N aH c aY=bV (bF (N,aH) - bF (c,aY)):=by
 unfold gL.v gL.u.v
 simp only [dD]
 have O:bF ((bV (-bF (c,aY))).1,(bV (-bF (c,aY))).2)=-bF (c,aY):=oA _
 rw [O,← Int.sub_eq_add_neg]
section
variable {a N:R} {c aB l m aH aY:Nat} {S w:List Nat} {Z:V} {Q k:Int} {y x:Bool}
theorem gL.aZ(C:b4 bR Z a c (D.z aH))(O:l=(D.z aH).length)(F:b4 bR Z N aB (D.z aY))(a3:m=(D.z aY).length)(b:(D.z aH).length≤1000000)(d:(D.z aY).length≤1000000):aG gL.id #[.agg #[.bool y,.slice a l c],.agg #[.bool x,.slice N m aB]] Z fun v K=>a2 Z K∧eH Z K v (bV (bF (y,aH) - bF (x,aY))):=by rw [← FR];exact gL.a1 C O b F a3 d
end
namespace iA
def u.v(a:Bool)(b:Nat)(c:Bool)(d:Nat):Int:=
 dD (bV (bF (a,b) - bF (c,d))) fun a=>
 (eJ (bF (a.1,a.2)) 0)
theorem u.a1{Y:J}{o Z:V}(a:a2 o Z){j:Bool}{P:R}{Iv Iw:Nat}{e:Nat}(IC:b4 bR Z P Iv (D.z e))(ID:Iw=(D.z e).length)(II:(D.z e).length≤700000){l:Bool}{Ix:R}{Iy Iz:Nat}{f:Nat}(IE:b4 bR Z Ix Iy (D.z f))(IF:Iz=(D.z f).length)(IJ:(D.z f).length≤700000)(g:fE (lB .i64) o Y (u.v j e l f)):u.t Y j P Iw Iv l Ix Iz Iy Z:=by
 subst ID IF
 have b:=a2.refl Z
 have IK:(D.z 0).length=0:=by simp [D.cP]
 unfold u.v at g
 unfold u.t
 refine dH fun n c E=>?_
 have IL:o.size≤Z.size:=a.le
 have IM:Z.size≤Z.size:=b.le
 have IN:=c.lt
 have IA:=E.aS
 have a:=a.trans E
 have b:=b.trans E
 refine dH fun IP d m=>?_
 have IQ:Z.size ≠ n.size:=Nat.ne_of_lt c.lt
 have IS:o.size≤n.size:=a.le
 have IT:Z.size≤n.size:=b.le
 have IU:=d.lt
 have IB:=m.aS
 have c:=c.I m
 have a:=a.trans m
 have b:=b.trans m
 refine bQ c (aT _ _) rfl ?_
 refine bK rfl ?_
 refine bQ c (aT _ _) rfl ?_
 refine aQ rfl ?_
 refine bQ d (aT _ _) rfl ?_
 refine bK rfl ?_
 refine bQ d (aT _ _) rfl ?_
 refine aQ rfl ?_
 refine bE (gL.aZ (IC.aS (IA.trans IB)) rfl (IE.aS (IA.trans IB)) rfl (by first | assumption | decide | omega) (by first | assumption | decide | omega)) fun v IV ⟨h,F⟩=>?_
 obtain⟨IW,G⟩:∃ y,y=bV (bF (j,e) - bF (l,f)):=⟨_,rfl⟩
 rw [← G] at F
 replace g:=cZ G g
 have IG:=nK j e l f
 rw [← G] at IG
 obtain⟨IX,IY,rfl,H⟩:=F
 refine cF rfl (a9 (bK rfl (a9 (aQ rfl (b3 (?_))))))
 have H:=H.from a.le
 have IZ:=h.aS
 have c:=c.I h
 have d:=d.I h
 have a:=a.trans h
 have b:=b.trans h
 refine bE (hP.aZ H.rd rfl) fun v I0 ⟨i,F⟩=>?_
 obtain⟨rfl,IH⟩:=F
 refine bJ rfl (?_)
 have I1:=i.aS
 have c:=c.I i
 have d:=d.I i
 have a:=a.trans i
 have b:=b.trans i
 exact g _ _ a ⟨rfl,IH⟩
def v(a:Bool)(b:Nat)(c:Bool)(d:Nat):Int:=u.v a b c d
theorem a1{Z:V}{a:Bool}{b:R}{c d:Nat}{e:Nat}(f:b4 bR Z b c (D.z e))(g:d=(D.z e).length)(h:(D.z e).length≤700000){i:Bool}{j:R}{l m:Nat}{n:Nat}(t:b4 bR Z j l (D.z n))(E:m=(D.z n).length)(G:(D.z n).length≤700000):aG id #[.agg #[.bool a,.slice b d c],.agg #[.bool i,.slice j m l]] Z fun b c=>a2 Z c∧(lB .i64) Z c b (v a e i n):=
 ok (u.a1 (a2.refl _) f g h t E G fun v K U F=>⟨U,F⟩)
end iA
theorem FT(T M:Int):eJ (T - M) 0=eJ T M:=by
 unfold eJ
 rcases Int.lt_trichotomy T M with Z | Z | Z
 ·rw [if_pos (by omega),if_pos Z]
 ·rw [if_neg (by omega),if_pos (by omega),if_neg (by omega),if_pos Z]
 ·rw [if_neg (by omega),if_neg (by omega),if_neg (by omega),if_neg (by omega)]
theorem FU(N c:Bool)(aH aY:Nat):iA.v N aH c aY=eJ (bF (N,aH)) (bF (c,aY)):=by
 unfold iA.v iA.u.v
 simp only [dD]
 rw [show bF ((bV (bF (N,aH) - bF (c,aY))).1,(bV (bF (N,aH) - bF (c,aY))).2)=bF (N,aH) - bF (c,aY) from oA _,FT]
section
variable {a N:R} {c aB l m aH aY:Nat} {S w:List Nat} {Z:V} {Q k:Int} {y x:Bool}
theorem iA.aZ(C:b4 bR Z a c (D.z aH))(O:l=(D.z aH).length)(F:b4 bR Z N aB (D.z aY))(a3:m=(D.z aY).length)(b:(D.z aH).length≤700000)(d:(D.z aY).length≤700000):aG iA.id #[.agg #[.bool y,.slice a l c],.agg #[.bool x,.slice N m aB]] Z fun v K=>a2 Z K∧lB .i64 Z K v (eJ (bF (y,aH)) (bF (x,aY))):=by rw [← FU];exact iA.a1 C O b F a3 d
end
namespace lJ
def u.v(a:Bool)(b:Nat)(c:Bool)(d:Nat):(Bool × Nat):=
 dD (kZ (bF (a,b)) (bF (c,d))) fun a=>
 dD (bV (bF (a.2.1,a.2.2)*2 ^ (Int.toNat (1:Int)))) fun b=>
 bif (decide (((eJ (bF (b.1,b.2)) (bF (c,d)))) > (0:Int))) then
  dD (bV (1:Int)) fun e=>
  dD (bV (bF (a.1.1,a.1.2)+bF (e.1,e.2))) fun e=>
  (e.1,e.2)
 else
  bif (((eJ (bF (b.1,b.2)) (bF (c,d)))) == (0:Int)) then
   bif (!(decide (a.1.2 % 2=0))) then
    dD (bV (1:Int)) fun b=>
    dD (bV (bF (a.1.1,a.1.2)+bF (b.1,b.2))) fun b=>
    (b.1,b.2)
   else
    (a.1.1,a.1.2)
  else
   (a.1.1,a.1.2)
theorem u.a1{Y:J}{o Z:V}(a:a2 o Z){I0:Bool}{Jq:R}{Jr Js:Nat}{II:Nat}(JJ:b4 bR Z Jq Jr (D.z II))(JK:Js=(D.z II).length)(J2:(D.z II).length≤300000){I1:Bool}{Jt:R}{Ju Jv:Nat}{IJ:Nat}(Jw:b4 bR Z Jt Ju (D.z IJ))(JL:Jv=(D.z IJ).length)(J3:(D.z IJ).length≤300000)(g:fE eH o Y (u.v I0 II I1 IJ)):u.t Y I0 Jq Js Jr I1 Jt Jv Ju Z:=by
 subst JK JL
 have c:=a2.refl Z
 have J4:(D.z 0).length=0:=by simp [D.cP]
 unfold u.v at g
 unfold u.t
 refine dH fun IS d Ja=>?_
 have J5:o.size≤Z.size:=a.le
 have J6:Z.size≤Z.size:=c.le
 have J7:=d.lt
 have Jb:=Ja.aS
 have a:=a.trans Ja
 have c:=c.trans Ja
 refine dH fun IK e I3=>?_
 have J8:Z.size ≠ IS.size:=Nat.ne_of_lt d.lt
 have J9:o.size≤IS.size:=a.le
 have Ka:Z.size≤IS.size:=c.le
 have JM:=e.lt
 have Jc:=I3.aS
 have d:=d.I I3
 have a:=a.trans I3
 have c:=c.trans I3
 refine dH fun JN b I2=>?_
 have IB:Z.size ≠ IK.size:=Nat.ne_of_lt d.lt
 have IC:IS.size ≠ IK.size:=Nat.ne_of_lt e.lt
 have b:cY JN (IK.size) [.bool false,.slice none (D.z 0).length 0]:=by rw [D.cP];exact b
 have ID:o.size≤IK.size:=a.le
 have IE:Z.size≤IK.size:=c.le
 have Kb:=b.lt
 have I4:=I2.aS
 have d:=d.I I2
 have e:=e.I I2
 have a:=a.trans I2
 have c:=c.trans I2
 refine bQ d (aT _ _) rfl ?_
 refine bK rfl ?_
 refine bQ d (aT _ _) rfl ?_
 refine aQ rfl ?_
 refine bQ e (aT _ _) rfl ?_
 refine bK rfl ?_
 refine bQ e (aT _ _) rfl ?_
 refine aQ rfl ?_
 refine bE (lH.aZ (JJ.aS (Jb.trans (Jc.trans I4))) rfl (Jw.aS (Jb.trans (Jc.trans I4))) rfl (by first | assumption | decide | omega) (by first | assumption | decide | omega)) fun v IL ⟨IT,F⟩=>?_
 obtain⟨n,I5⟩:∃ y,y=kZ (bF (I0,II)) (bF (I1,IJ)):=⟨_,rfl⟩
 rw [← I5] at F
 replace g:=cZ I5 g
 have JO:=FH I0 II I1 IJ
 rw [← I5] at JO
 have JP:=FI I0 II I1 IJ
 rw [← I5] at JP
 obtain⟨_,_,rfl,⟨Kc,Kd,rfl,IM⟩,⟨Ke,Kf,rfl,Jd⟩⟩:=F
 refine fR rfl (a9 (cF rfl (a9 (bK rfl (a9 (aQ rfl (b3 (a9 (cF rfl (a9 (bK rfl (a9 (aQ rfl (b3 (b3 (?_))))))))))))))))
 have IM:=IM.from a.le
 have Jd:=Jd.from a.le
 have Jx:=IT.aS
 have d:=d.I IT
 have e:=e.I IT
 have b:=b.I IT
 have a:=a.trans IT
 have c:=c.trans IT
 refine dH fun IF f IU=>?_
 have Jy:Z.size ≠ IL.size:=Nat.ne_of_lt d.lt
 have Jz:IS.size ≠ IL.size:=Nat.ne_of_lt e.lt
 have Iv:IK.size ≠ IL.size:=Nat.ne_of_lt b.lt
 have f:cY IF (IL.size) [.bool false,.slice none (D.z 0).length 0]:=by rw [D.cP];exact f
 have JA:o.size≤IL.size:=a.le
 have JB:Z.size≤IL.size:=c.le
 have JC:=f.lt
 have IG:=IU.aS
 have d:=d.I IU
 have e:=e.I IU
 have b:=b.I IU
 have a:=a.trans IU
 have c:=c.trans IU
 refine dH fun JQ h IN=>?_
 have JD:Z.size ≠ IF.size:=Nat.ne_of_lt d.lt
 have JE:IS.size ≠ IF.size:=Nat.ne_of_lt e.lt
 have Iw:IK.size ≠ IF.size:=Nat.ne_of_lt b.lt
 have I6:IL.size ≠ IF.size:=Nat.ne_of_lt f.lt
 have h:cY JQ (IF.size) [.bool false,.slice none (D.z 0).length 0]:=by rw [D.cP];exact h
 have JF:o.size≤IF.size:=a.le
 have JG:Z.size≤IF.size:=c.le
 have JR:=h.lt
 have Ix:=IN.aS
 have d:=d.I IN
 have e:=e.I IN
 have b:=b.I IN
 have f:=f.I IN
 have a:=a.trans IN
 have c:=c.trans IN
 refine b2 f (aT _ _) rfl fun Kg f IV E=>?_
 have d:=d.aJ Jy IV
 have e:=e.aJ Jz IV
 have b:=b.aJ Iv IV
 have h:=h.aJ (Ne.symm I6) IV
 have a:=aV.I a IV JA
 have c:=aV.I c IV JB
 refine b2 f (aT _ _) rfl fun Kh f IW G=>?_
 have d:=d.aJ Jy IW
 have e:=e.aJ Jz IW
 have b:=b.aJ Iv IW
 have h:=h.aJ (Ne.symm I6) IW
 have a:=aV.I a IW JA
 have c:=aV.I c IW JB
 refine b2 h (aT _ _) rfl fun Ki h IX H=>?_
 have d:=d.aJ JD IX
 have e:=e.aJ JE IX
 have b:=b.aJ Iw IX
 have f:=f.aJ I6 IX
 have a:=aV.I a IX JF
 have c:=aV.I c IX JG
 refine b2 h (aT _ _) rfl fun Kj h IY P=>?_
 have d:=d.aJ JD IY
 have e:=e.aJ JE IY
 have b:=b.aJ Iw IY
 have f:=f.aJ I6 IY
 have a:=aV.I a IY JF
 have c:=aV.I c IY JG
 refine⟨eO rfl ((E.trans (G.trans (H.trans P))).lt JR),?_⟩
 refine bQ h (aT _ _) rfl ?_
 refine bK rfl ?_
 refine bQ h (aT _ _) rfl ?_
 refine aQ rfl ?_
 refine bE (fZ.aZ (Jd.aS (IG.trans (Ix.trans (E.trans (G.trans (H.trans P)))))).rd rfl (show In .i64 (1:Int) by decide) (by first | assumption | decide | omega) (by first | assumption | decide | omega) (by first | assumption | decide | omega)) fun v Kk ⟨Iy,F⟩=>?_
 obtain⟨Kl,Je⟩:∃ y,y=bV (bF (n.2.1,n.2.2)*2 ^ (Int.toNat (1:Int))):=⟨_,rfl⟩
 rw [← Je] at F
 replace g:=cZ Je g
 have JS:=FF n.2.1 n.2.2
 rw [← Je] at JS
 obtain⟨Km,Kn,rfl,Jf⟩:=F
 refine cF rfl (a9 (bK rfl (a9 (aQ rfl (b3 (?_))))))
 have Jf:=Jf.from a.le
 have Iz:=Iy.aS
 have d:=d.I Iy
 have e:=e.I Iy
 have b:=b.I Iy
 have f:=f.I Iy
 have h:=h.I Iy
 have a:=a.trans Iy
 have c:=c.trans Iy
 refine⟨Iy.cM (Nat.le_refl _),?_⟩
 refine⟨eO rfl ((I4.trans (Jx.trans (IG.trans (Ix.trans (E.trans (G.trans (H.trans P))))))).lt JM),?_⟩
 refine bQ e (aT _ _) rfl ?_
 refine bK rfl ?_
 refine bQ e (aT _ _) rfl ?_
 refine aQ rfl ?_
 refine bE (iA.aZ Jf.rd rfl (Jw.aS (Jb.trans (Jc.trans (I4.trans (Jx.trans (IG.trans (Ix.trans (E.trans (G.trans (H.trans (P.trans Iz))))))))))) rfl (by first | assumption | decide | omega) (by first | assumption | decide | omega)) fun v Ko ⟨IA,F⟩=>?_
 obtain⟨rfl,Kp⟩:=F
 refine bJ rfl (?_)
 have IP:=IA.aS
 have d:=d.I IA
 have e:=e.I IA
 have b:=b.I IA
 have f:=f.I IA
 have h:=h.I IA
 have a:=a.trans IA
 have c:=c.trans IA
 refine⟨IA.cM (Iz).le,?_⟩
 refine mR g (fun JT g=>?_) (fun JT g=>?_)
 ·refine⟨eO rfl ((Ix.trans (E.trans (G.trans (H.trans (P.trans (Iz.trans IP)))))).lt JC),?_⟩
  refine bQ f (aT _ _) rfl ?_
  refine bK rfl ?_
  refine bQ f (aT _ _) rfl ?_
  refine aQ rfl ?_
  refine bE (hI.aZ (show In .i64 (1:Int) by decide)) fun v JH ⟨j,F⟩=>?_
  obtain⟨I7,Jg⟩:∃ y,y=bV (1:Int):=⟨_,rfl⟩
  rw [← Jg] at F
  replace g:=cZ Jg g
  have JU:=oB (show In .i64 (1:Int) by decide)
  rw [← Jg] at JU
  obtain⟨Kq,Kr,rfl,Jh⟩:=F
  refine cF rfl (a9 (bK rfl (a9 (aQ rfl (b3 (?_))))))
  have Jh:=Jh.from a.le
  have IH:=j.aS
  have d:=d.I j
  have e:=e.I j
  have b:=b.I j
  have f:=f.I j
  have h:=h.I j
  have a:=a.trans j
  have c:=c.trans j
  refine⟨j.cM (Nat.le_refl _),?_⟩
  refine bE (hQ.aZ (IM.aS (IG.trans (Ix.trans (E.trans (G.trans (H.trans (P.trans (Iz.trans (IP.trans IH))))))))).rd rfl Jh.rd rfl (by first | assumption | decide | omega) (by first | assumption | decide | omega)) fun v Ji ⟨i,F⟩=>?_
  obtain⟨Ks,Jj⟩:∃ y,y=bV (bF (n.1.1,n.1.2)+bF (I7.1,I7.2)):=⟨_,rfl⟩
  rw [← Jj] at F
  replace g:=cZ Jj g
  have JV:=pO n.1.1 n.1.2 I7.1 I7.2
  rw [← Jj] at JV
  obtain⟨Kt,Ku,rfl,Jk⟩:=F
  refine cF rfl (a9 (bK rfl (a9 (aQ rfl (b3 (?_))))))
  have Jk:=Jk.from a.le
  have IQ:=i.aS
  have d:=d.I i
  have e:=e.I i
  have b:=b.I i
  have f:=f.I i
  have h:=h.I i
  have a:=a.trans i
  have c:=c.trans i
  refine⟨i.cM (IH).le,?_⟩
  refine b2 b (aT _ _) rfl fun JI b l I8=>?_
  have d:=d.aJ IB l
  have e:=e.aJ IC l
  have f:=f.aJ (Ne.symm Iv) l
  have h:=h.aJ (Ne.symm Iw) l
  have a:=aV.I a l ID
  have c:=aV.I c l IE
  refine b2 b (aT _ _) rfl fun JW b m Jl=>?_
  have d:=d.aJ IB m
  have e:=e.aJ IC m
  have f:=f.aJ (Ne.symm Iv) m
  have h:=h.aJ (Ne.symm Iw) m
  have a:=aV.I a m ID
  have c:=aV.I c m IE
  refine bQ b (aT _ _) rfl ?_
  refine bK rfl ?_
  refine bQ b (aT _ _) rfl ?_
  refine aQ rfl ?_
  exact g _ _ a ⟨_,_,rfl,(Jk.aS (I8.trans Jl))⟩
 ·refine r3 g (fun JX g=>?_) (fun JX g=>?_)
  ·refine bQ f (aT _ _) rfl ?_
   refine bK rfl ?_
   refine bQ f (aT _ _) rfl ?_
   refine aQ rfl ?_
   refine bE (lI.aZ (IM.aS (IG.trans (Ix.trans (E.trans (G.trans (H.trans (P.trans (Iz.trans IP)))))))).rd rfl) fun v JH ⟨j,F⟩=>?_
   obtain rfl:=F
   refine bK rfl (?_)
   have IH:=j.aS
   have d:=d.I j
   have e:=e.I j
   have b:=b.I j
   have f:=f.I j
   have h:=h.I j
   have a:=a.trans j
   have c:=c.trans j
   refine Ae g (fun JY g=>?_) (fun JY g=>?_)
   ·refine⟨eO rfl ((Ix.trans (E.trans (G.trans (H.trans (P.trans (Iz.trans (IP.trans IH))))))).lt JC),?_⟩
    refine bQ f (aT _ _) rfl ?_
    refine bK rfl ?_
    refine bQ f (aT _ _) rfl ?_
    refine aQ rfl ?_
    refine bE (hI.aZ (show In .i64 (1:Int) by decide)) fun v Ji ⟨i,F⟩=>?_
    obtain⟨I9,Jm⟩:∃ y,y=bV (1:Int):=⟨_,rfl⟩
    rw [← Jm] at F
    replace g:=cZ Jm g
    have JZ:=oB (show In .i64 (1:Int) by decide)
    rw [← Jm] at JZ
    obtain⟨Kv,Kw,rfl,Jn⟩:=F
    refine cF rfl (a9 (bK rfl (a9 (aQ rfl (b3 (?_))))))
    have Jn:=Jn.from a.le
    have IQ:=i.aS
    have d:=d.I i
    have e:=e.I i
    have b:=b.I i
    have f:=f.I i
    have h:=h.I i
    have a:=a.trans i
    have c:=c.trans i
    refine⟨i.cM (Nat.le_refl _),?_⟩
    refine bE (hQ.aZ (IM.aS (IG.trans (Ix.trans (E.trans (G.trans (H.trans (P.trans (Iz.trans (IP.trans (IH.trans IQ)))))))))).rd rfl Jn.rd rfl (by first | assumption | decide | omega) (by first | assumption | decide | omega)) fun v JI ⟨l,F⟩=>?_
    obtain⟨Kx,Jo⟩:∃ y,y=bV (bF (n.1.1,n.1.2)+bF (I9.1,I9.2)):=⟨_,rfl⟩
    rw [← Jo] at F
    replace g:=cZ Jo g
    have J0:=pO n.1.1 n.1.2 I9.1 I9.2
    rw [← Jo] at J0
    obtain⟨Ky,Kz,rfl,Jp⟩:=F
    refine cF rfl (a9 (bK rfl (a9 (aQ rfl (b3 (?_))))))
    have Jp:=Jp.from a.le
    have I8:=l.aS
    have d:=d.I l
    have e:=e.I l
    have b:=b.I l
    have f:=f.I l
    have h:=h.I l
    have a:=a.trans l
    have c:=c.trans l
    refine⟨l.cM (IQ).le,?_⟩
    refine b2 b (aT _ _) rfl fun JW b m Jl=>?_
    have d:=d.aJ IB m
    have e:=e.aJ IC m
    have f:=f.aJ (Ne.symm Iv) m
    have h:=h.aJ (Ne.symm Iw) m
    have a:=aV.I a m ID
    have c:=aV.I c m IE
    refine b2 b (aT _ _) rfl fun KA b IZ J1=>?_
    have d:=d.aJ IB IZ
    have e:=e.aJ IC IZ
    have f:=f.aJ (Ne.symm Iv) IZ
    have h:=h.aJ (Ne.symm Iw) IZ
    have a:=aV.I a IZ ID
    have c:=aV.I c IZ IE
    refine bQ b (aT _ _) rfl ?_
    refine bK rfl ?_
    refine bQ b (aT _ _) rfl ?_
    refine aQ rfl ?_
    exact g _ _ a ⟨_,_,rfl,(Jp.aS (Jl.trans J1))⟩
   ·refine bQ f (aT _ _) rfl ?_
    refine bK rfl ?_
    refine bQ f (aT _ _) rfl ?_
    refine aQ rfl ?_
    refine b2 b (aT _ _) rfl fun Ji b i IQ=>?_
    have d:=d.aJ IB i
    have e:=e.aJ IC i
    have f:=f.aJ (Ne.symm Iv) i
    have h:=h.aJ (Ne.symm Iw) i
    have a:=aV.I a i ID
    have c:=aV.I c i IE
    refine b2 b (aT _ _) rfl fun JI b l I8=>?_
    have d:=d.aJ IB l
    have e:=e.aJ IC l
    have f:=f.aJ (Ne.symm Iv) l
    have h:=h.aJ (Ne.symm Iw) l
    have a:=aV.I a l ID
    have c:=aV.I c l IE
    refine bQ b (aT _ _) rfl ?_
    refine bK rfl ?_
    refine bQ b (aT _ _) rfl ?_
    refine aQ rfl ?_
    exact g _ _ a ⟨_,_,rfl,(IM.aS (IG.trans (Ix.trans (E.trans (G.trans (H.trans (P.trans (Iz.trans (IP.trans (IH.trans (IQ.trans I8)))))))))))⟩
  ·refine bQ f (aT _ _) rfl ?_
   refine bK rfl ?_
   refine bQ f (aT _ _) rfl ?_
   refine aQ rfl ?_
   refine b2 b (aT _ _) rfl fun JH b j IH=>?_
   have d:=d.aJ IB j
   have e:=e.aJ IC j
   have f:=f.aJ (Ne.symm Iv) j
   have h:=h.aJ (Ne.symm Iw) j
   have a:=aV.I a j ID
   have c:=aV.I c j IE
   refine b2 b (aT _ _) rfl fun Ji b i IQ=>?_
   have d:=d.aJ IB i
   have e:=e.aJ IC i
   have f:=f.aJ (Ne.symm Iv) i
   have h:=h.aJ (Ne.symm Iw) i
   have a:=aV.I a i ID
   have c:=aV.I c i IE
   refine bQ b (aT _ _) rfl ?_
   refine bK rfl ?_
   refine bQ b (aT _ _) rfl ?_
   refine aQ rfl ?_
   exact g _ _ a ⟨_,_,rfl,(IM.aS (IG.trans (Ix.trans (E.trans (G.trans (H.trans (P.trans (Iz.trans (IP.trans (IH.trans IQ))))))))))⟩
def v(a:Bool)(b:Nat)(c:Bool)(d:Nat):(Bool × Nat):=u.v a b c d
theorem a1{Z:V}{a:Bool}{b:R}{c d:Nat}{e:Nat}(f:b4 bR Z b c (D.z e))(g:d=(D.z e).length)(h:(D.z e).length≤300000){i:Bool}{j:R}{l m:Nat}{n:Nat}(t:b4 bR Z j l (D.z n))(E:m=(D.z n).length)(G:(D.z n).length≤300000):aG id #[.agg #[.bool a,.slice b d c],.agg #[.bool i,.slice j m l]] Z fun b c=>a2 Z c∧eH Z c b (v a e i n):=
 ok (u.a1 (a2.refl _) f g h t E G fun v K U F=>⟨U,F⟩)
end lJ
theorem q6(T:Int):bF ((bV T).1,(bV T).2)=T:=oA T
theorem Bn{T M:Int}:decide (eJ T M > 0)=decide (M < T):=by rw [FB]
theorem Bo{T M:Int}:(eJ T M == 0)=decide (T=M):=by
 unfold eJ
 rcases Int.lt_trichotomy T M with Z | Z | Z
 ·rw [if_pos Z];have:T ≠ M:=by omega
  simp [this]
 ·subst Z;simp
 ·rw [if_neg (by omega),if_neg (by omega)];have:T ≠ M:=by omega
  simp [this]
theorem FV{y:Bool}{a a7:Nat}(b:a7 ≠ 0)(d:y=true→a ≠ 0):
  jL (cB y a) (cB false a7)=if (a7:Int) < nI (cB y a) (cB false a7)*2∨(nI (cB y a) (cB false a7)*2=(a7:Int)∧(jY (cB y a) (cB false a7)).natAbs % 2=1) then jY (cB y a) (cB false a7)+1 else jY (cB y a) (cB false a7):=by
 rw [Fv b d,uW b d,Bf b d,Bool.xor_false,mW]
 unfold gZ
 have f:=Nat.mod_lt a (show 0 < a7 by omega)
 generalize a % a7=C at *
 generalize a / a7=b6 at *
 cases y
 ·simp only [Bool.false_eq_true,false_and,if_false,xA]
  by_cases c:a7 < 2*C∨(2*C=a7∧b6 % 2=1)
  ·rw [if_pos c,if_pos (by omega)];omega
  ·rw [if_neg c,if_neg (by omega)]
 ·by_cases e:C=0
  ·subst e
   simp only [ne_eq,not_true_eq_false,and_false,if_false,nJ]
   rw [if_neg (by omega),if_neg (by omega)]
  ·simp only [ne_eq,e,not_false_eq_true,and_self,if_true,xA]
   have O:cB true (b6+1)+1=cB true b6:=by unfold cB;simp only [if_true];omega
   by_cases c:a7 < 2*C∨(2*C=a7∧b6 % 2=1)
   ·rw [if_pos c,if_neg (by omega)]
   ·rw [if_neg c,if_pos (by omega),O]
theorem FW(N c:Bool)(aH aY:Nat):lJ.v N aH c aY=k0 (bF (N,aH)) (bF (c,aY)):=by
 unfold lJ.v lJ.u.v
 by_cases Z:bF (c,aY)≤0
 ·have O:kZ (bF (N,aH)) (bF (c,aY))=((false,0),(false,0)):=by unfold kZ;rw [if_pos Z]
  rw [O]
  simp only [dD]
  have a:bF (false,0)*2 ^ Int.toNat 1=0:=by rw [kH,nJ,Int.zero_mul]
  rw [a,q6,Bn,Bo]
  unfold k0
  by_cases b:bF (c,aY) < 0
  ·simp only [b,decide_true,cond_true,if_true];rfl
  ·have d:(0:Int)=bF (c,aY):=by omega
   rw [if_neg b,if_pos d.symm]
   simp only [b,d.symm,decide_false,decide_true,cond_false,cond_true];rfl
 ·have g:c=false:=by
   cases c
   ·rfl
   ·exfalso;apply Z;rw [kH];unfold cB;simp
  subst g
  rw [Bm (by omega)]
  simp only [dD]
  have a:(2:Int) ^ Int.toNat 1=2:=rfl
  rw [q6,a,q6,Bn,Bo]
  have h:k0 (bF (N,aH)) (bF (false,aY))=bV (jL (bF (N,aH)) (bF (false,aY))):=by unfold k0;rw [if_neg (by omega),if_neg (by omega)]
  rw [h]
  have i:aY ≠ 0:=fun O=>Z (by subst O;rw [kH,nJ];exact Int.le_refl _)
  obtain⟨y,e,j,l,_⟩:=xB (bF (N,aH))
  have m:bF (false,aY)=cB false aY:=rfl
  rw [j,m,FV i l]
  generalize nI (cB y e) (cB false aY)=bW
  generalize jY (cB y e) (cB false aY)=lK
  have n:bF ((bV lK).1,(bV lK).2)+bF ((bV 1).1,(bV 1).2)=lK+1:=by rw [q6,q6]
  have t:decide ((bV lK).2 % 2=0)=decide (lK.natAbs % 2=0):=rfl
  have D:cB false aY=(aY:Int):=rfl
  simp only [n,t,D]
  by_cases f:(aY:Int) < bW*2
  ·simp only [f,decide_true,cond_true,true_or,if_true]
  ·simp only [f,decide_false,cond_false,false_or]
   by_cases bA:bW*2=(aY:Int)
   ·simp only [bA,decide_true,cond_true,true_and]
    rcases Nat.mod_two_eq_zero_or_one lK.natAbs with O | O
    ·simp only [O];rfl
    ·simp only [O];rfl
   ·simp only [bA,decide_false,cond_false,false_and,if_false]
section
variable {a N:R} {c aB l m aH aY:Nat} {S w:List Nat} {Z:V} {Q k:Int} {y x:Bool}
theorem lJ.aZ(C:b4 bR Z a c (D.z aH))(O:l=(D.z aH).length)(F:b4 bR Z N aB (D.z aY))(a3:m=(D.z aY).length)(b:(D.z aH).length≤300000)(d:(D.z aY).length≤300000):aG lJ.id #[.agg #[.bool y,.slice a l c],.agg #[.bool x,.slice N m aB]] Z fun v K=>a2 Z K∧eH Z K v (k0 (bF (y,aH)) (bF (x,aY))):=by rw [← FW];exact lJ.a1 C O b F a3 d
end
namespace hZ
def aD.v(a:Bool)(b:Nat)(c:Bool)(d:Nat)(e:Bool)(e:Nat):(Bool × Nat):=
 dD (k0 (bF (a,b)) (bF (c,d))) fun a=>
 (a.1,a.2)
theorem aD.a1{Y:J}{o Z:V}(d:a2 o Z){l:Bool}{Iv:R}{Iw:Nat}{e:Nat}(IG:b4 bR Z Iv Iw (D.z e))(IL:(D.z e).length≤300000){i:Nat}(a:cY Z i [.bool l,.slice Iv (D.z e).length Iw])(IM:o.size≤i){m:Bool}{Ix:R}{Iy:Nat}{f:Nat}(IH:b4 bR Z Ix Iy (D.z f))(IN:(D.z f).length≤300000){j:Nat}(b:cY Z j [.bool m,.slice Ix (D.z f).length Iy])(IP:o.size≤j){Iz:Bool}{IA:R}{IB:Nat}{n:Nat}(IQ:b4 bR Z IA IB (D.z n))(IS:(D.z n).length≤300000){eV:Nat}(c:cY Z eV [.bool Iz,.slice IA (D.z n).length IB])(IC:o.size≤eV)(IT:i ≠ j)(ID:i ≠ eV)(IE:j ≠ eV)(g:fE eH o Y (aD.v l e m f Iz n)):aD.t Y (⟨i,0,none⟩:Addr) (⟨j,0,none⟩:Addr) (⟨eV,0,none⟩:Addr) Z:=by
 have IF:=a2.refl Z
 have IU:=a.lt
 have IV:=b.lt
 have IW:=c.lt
 have IX:(D.z 0).length=0:=by simp [D.cP]
 unfold aD.v at g
 unfold aD.t
 refine bQ a (aT _ _) rfl ?_
 refine bK rfl ?_
 refine bQ a (aT _ _) rfl ?_
 refine aQ rfl ?_
 refine bQ b (aT _ _) rfl ?_
 refine bK rfl ?_
 refine bQ b (aT _ _) rfl ?_
 refine aQ rfl ?_
 refine bE (lJ.aZ IG rfl IH rfl (by first | assumption | decide | omega) (by first | assumption | decide | omega)) fun v IY ⟨h,F⟩=>?_
 obtain⟨IZ,E⟩:∃ y,y=k0 (bF (l,e)) (bF (m,f)):=⟨_,rfl⟩
 rw [← E] at F
 replace g:=cZ E g
 have II:=FJ l e m f
 rw [← E] at II
 obtain⟨I0,I1,rfl,G⟩:=F
 refine cF rfl (a9 (bK rfl (a9 (aQ rfl (b3 (?_))))))
 have G:=G.from d.le
 have I2:=h.aS
 have a:=a.I h
 have b:=b.I h
 have c:=c.I h
 have d:=d.trans h
 have IF:=IF.trans h
 refine b2 c (aT _ _) rfl fun I3 c H IJ=>?_
 have a:=a.aJ ID H
 have b:=b.aJ IE H
 have d:=aV.I d H IC
 refine b2 c (aT _ _) rfl fun I4 c P IK=>?_
 have a:=a.aJ ID P
 have b:=b.aJ IE P
 have d:=aV.I d P IC
 refine bQ c (aT _ _) rfl ?_
 refine bK rfl ?_
 refine bQ c (aT _ _) rfl ?_
 refine aQ rfl ?_
 exact g _ _ d ⟨_,_,rfl,(G.aS (IJ.trans IK))⟩
def u.v(a:Bool)(b:Nat)(c:Bool)(d:Nat):(Bool × Nat):=
 bif c then
  dD (bV (-bF (a,b))) fun e=>
  dD (bV (-bF (c,d))) fun f=>
  aD.v e.1 e.2 f.1 f.2 false 0
 else
  aD.v a b c d false 0
theorem u.a1{Y:J}{o Z:V}(a:a2 o Z){H:Bool}{IL:R}{IM IN:Nat}{i:Nat}(IP:b4 bR Z IL IM (D.z i))(I3:IN=(D.z i).length)(Jc:(D.z i).length≤150000){P:Bool}{IQ:R}{IS IT:Nat}{j:Nat}(IU:b4 bR Z IQ IS (D.z j))(I4:IT=(D.z j).length)(Jd:(D.z j).length≤150000)(g:fE eH o Y (u.v H i P j)):u.t Y H IL IN IM P IQ IT IS Z:=by
 subst I3 I4
 have c:=a2.refl Z
 have Je:(D.z 0).length=0:=by simp [D.cP]
 unfold u.v at g
 unfold u.t
 refine dH fun Iv b IG=>?_
 have Iw:o.size≤Z.size:=a.le
 have IV:Z.size≤Z.size:=c.le
 have I5:=b.lt
 have Ix:=IG.aS
 have a:=a.trans IG
 have c:=c.trans IG
 refine dH fun n d Iy=>?_
 have l:Z.size ≠ Iv.size:=Nat.ne_of_lt b.lt
 have Iz:o.size≤Iv.size:=a.le
 have IW:Z.size≤Iv.size:=c.le
 have I6:=d.lt
 have E:=Iy.aS
 have b:=b.I Iy
 have a:=a.trans Iy
 have c:=c.trans Iy
 refine dH fun I7 e G=>?_
 have IA:Z.size ≠ n.size:=Nat.ne_of_lt b.lt
 have IB:Iv.size ≠ n.size:=Nat.ne_of_lt d.lt
 have e:cY I7 (n.size) [.bool false,.slice none (D.z 0).length 0]:=by rw [D.cP];exact e
 have IX:o.size≤n.size:=a.le
 have Jf:Z.size≤n.size:=c.le
 have Jg:=e.lt
 have m:=G.aS
 have b:=b.I G
 have d:=d.I G
 have a:=a.trans G
 have c:=c.trans G
 refine bQ d (aT _ _) rfl ?_
 refine bK rfl ?_
 refine uD g (fun I8 g=>?_) (fun I8 g=>?_)
 ·refine⟨eO rfl ((E.trans m).lt I5),?_⟩
  refine bQ b (aT _ _) rfl ?_
  refine bK rfl ?_
  refine bQ b (aT _ _) rfl ?_
  refine aQ rfl ?_
  refine bE (iT.aZ (IP.aS (Ix.trans (E.trans m))) rfl) fun v Jh ⟨f,F⟩=>?_
  obtain⟨Ji,IH⟩:∃ y,y=bV (-bF (H,i)):=⟨_,rfl⟩
  rw [← IH] at F
  replace g:=cZ IH g
  have I9:=pN H i
  rw [← IH] at I9
  obtain⟨Jj,Jk,rfl,II⟩:=F
  refine cF rfl (a9 (bK rfl (a9 (aQ rfl (b3 (?_))))))
  have II:=II.from a.le
  have IY:=f.aS
  have b:=b.I f
  have d:=d.I f
  have e:=e.I f
  have a:=a.trans f
  have c:=c.trans f
  refine⟨f.cM (Nat.le_refl _),?_⟩
  refine⟨eO rfl ((m).lt I6),?_⟩
  refine bQ d (aT _ _) rfl ?_
  refine bK rfl ?_
  refine bQ d (aT _ _) rfl ?_
  refine aQ rfl ?_
  refine bE (iT.aZ (IU.aS (Ix.trans (E.trans (m.trans IY)))) rfl) fun v Jl ⟨h,F⟩=>?_
  obtain⟨Jm,IJ⟩:∃ y,y=bV (-bF (P,j)):=⟨_,rfl⟩
  rw [← IJ] at F
  replace g:=cZ IJ g
  have Ja:=pN P j
  rw [← IJ] at Ja
  obtain⟨Jn,Jo,rfl,IK⟩:=F
  refine cF rfl (a9 (bK rfl (a9 (aQ rfl (b3 (?_))))))
  have IK:=IK.from a.le
  have Jb:=h.aS
  have b:=b.I h
  have d:=d.I h
  have e:=e.I h
  have a:=a.trans h
  have c:=c.trans h
  refine⟨h.cM (IY).le,?_⟩
  refine b2 b (aT _ _) rfl fun Jp b IC IZ=>?_
  have d:=d.aJ (Ne.symm l) IC
  have e:=e.aJ (Ne.symm IA) IC
  have a:=aV.I a IC Iw
  have c:=aV.I c IC IV
  refine b2 b (aT _ _) rfl fun Jq b ID I0=>?_
  have d:=d.aJ (Ne.symm l) ID
  have e:=e.aJ (Ne.symm IA) ID
  have a:=aV.I a ID Iw
  have c:=aV.I c ID IV
  refine b2 d (aT _ _) rfl fun Jr d IE I1=>?_
  have b:=b.aJ l IE
  have e:=e.aJ (Ne.symm IB) IE
  have a:=aV.I a IE Iz
  have c:=aV.I c IE IW
  refine b2 d (aT _ _) rfl fun Js d IF I2=>?_
  have b:=b.aJ l IF
  have e:=e.aJ (Ne.symm IB) IF
  have a:=aV.I a IF Iz
  have c:=aV.I c IF IW
  exact aD.a1 a (II.aS (Jb.trans (IZ.trans (I0.trans (I1.trans I2))))).rd (by first | assumption | decide | omega) b Iw (IK.aS (IZ.trans (I0.trans (I1.trans I2)))).rd (by first | assumption | decide | omega) d Iz (Bi _ _ _) (by first | assumption | decide | omega) e IX l IA IB g
 ·exact aD.a1 a (IP.aS (Ix.trans (E.trans m))) (by first | assumption | decide | omega) b Iw (IU.aS (Ix.trans (E.trans m))) (by first | assumption | decide | omega) d Iz (Bi _ _ _) (by first | assumption | decide | omega) e IX l IA IB g
def v(a:Bool)(b:Nat)(c:Bool)(d:Nat):(Bool × Nat):=u.v a b c d
theorem a1{Z:V}{a:Bool}{b:R}{c d:Nat}{e:Nat}(f:b4 bR Z b c (D.z e))(g:d=(D.z e).length)(h:(D.z e).length≤150000){i:Bool}{j:R}{l m:Nat}{n:Nat}(t:b4 bR Z j l (D.z n))(E:m=(D.z n).length)(G:(D.z n).length≤150000):aG id #[.agg #[.bool a,.slice b d c],.agg #[.bool i,.slice j m l]] Z fun b c=>a2 Z c∧eH Z c b (v a e i n):=
 ok (u.a1 (a2.refl _) f g h t E G fun v K U F=>⟨U,F⟩)
end hZ
theorem FX{a N:Int}(c:N ≠ 0):jL (-a) (-N)=jL a N:=by
 rw [FA]
 unfold jL
 rw [w7,Int.natAbs_neg]
 have:decide (-N < 0)=!decide (N < 0):=by
  by_cases b:N < 0
  ·simp [b];omega
  ·simp [b];omega
 rw [this];congr 1
 cases decide (a < 0) <;> cases decide (N < 0) <;> rfl
theorem FY(N c:Bool)(aH aY:Nat):hZ.v N aH c aY=jZ (bF (N,aH)) (bF (c,aY)):=by
 unfold hZ.v hZ.u.v hZ.aD.v
 simp only [dD,q6]
 cases c
 ·rw [cond_false]
  have Z:¬ bF (false,aY) < 0:=by rw [kH];unfold cB;simp
  show k0 (bF (N,aH)) (bF (false,aY))=_
  unfold k0 jZ;rw [if_neg Z]
 ·rw [cond_true]
  have Z:¬ -bF (true,aY) < 0:=by rw [kH];unfold cB;simp
  show k0 (-bF (N,aH)) (-bF (true,aY))=_
  unfold k0 jZ;rw [if_neg Z]
  by_cases o:bF (true,aY)=0
  ·rw [if_pos (by omega),if_pos o]
  ·rw [if_neg (by omega),if_neg o,FX o]
section
variable {a N:R} {c aB l m aH aY:Nat} {S w:List Nat} {Z:V} {Q k:Int} {y x:Bool}
theorem hZ.aZ(C:b4 bR Z a c (D.z aH))(O:l=(D.z aH).length)(F:b4 bR Z N aB (D.z aY))(a3:m=(D.z aY).length)(b:(D.z aH).length≤150000)(d:(D.z aY).length≤150000):aG hZ.id #[.agg #[.bool y,.slice a l c],.agg #[.bool x,.slice N m aB]] Z fun v K=>a2 Z K∧eH Z K v (jZ (bF (y,aH)) (bF (x,aY))):=by rw [← FY];exact hZ.a1 C O b F a3 d
end
theorem lL(N:Bool)(aH:Nat)(n:Int):(D.z (bV (bF (N,aH)*2 ^ (Int.toNat n))).2).length≤(D.z aH).length+Int.toNat n / 32+1:=by
 refine Nat.le_trans (l6 (n:=aH*2 ^ (Int.toNat n)) ?_) (Nat.le_trans (q2 aH _) ?_)
 ·rw [Int.natAbs_mul,jM,Int.natAbs_pow];exact Nat.le_refl _
 ·have Z:(D.z (2 ^ (Int.toNat n))).length≤Int.toNat n / 32+1:=D.e2.mpr (Nat.pow_lt_pow_right (by decide) (by omega))
  omega
end Go.Proofs.Ytelmicicapbgeaa.G
