import Derived.Test.YtjijdlkpmngolaaGreatKC0
import Derived.Test.YtjijdlkpmngolaaGreatKC1
import Derived.Test.YtjijdlkpmngolaaGreatKC2
import Derived.Test.YtjijdlkpmngolaaGreatKC3
set_option linter.unusedVariables false
namespace Go.Proofs.YtjijdlkpmngolaaGreat.G
open Go.Gv
set_option linter.unusedVariables false
set_option maxRecDepth 100000
theorem NI(m R aE:Nat):∃ aV aF,q5 m R aE aV aF:=by
 by_cases Z:hQ (m*2 ^ (R+(aE+(eB m+R - 64+4)) - 64)*2 ^ 1) (dG (aE+(eB m+R - 64+4)))=0
 ·exact⟨_,1,_,_,Or.inr ⟨rfl,rfl⟩,Or.inr ⟨by rw [Z];rfl,rfl,rfl⟩⟩
 ·exact⟨_,_,_,_,Or.inr ⟨rfl,rfl⟩,Or.inl ⟨fun aX=>Z (Int.ofNat.inj aX),rfl,rfl⟩⟩
theorem NJ{N aP:Nat}(Z:aP < N):fA N aP=1:=by unfold fA;rw [if_neg (by omega),if_neg (by omega)]
theorem NK{L R m S:Nat}{up:Bool}{aX f:U}{aE:Nat}{x y:Value}(bC:oG L R m S up)(G:L < 7)(g:R < 1036)(p:2 ^ L≤m)(q:m≤2 ^ (L+1) - 1)(aN:eC f aE [.int .u64 (m:Int),x,y])(z:bA aX f):
  ∀ (n O fZ aV:Nat) {bR:M} {bT:Nat} {Z:U},O+n=2 ^ (L+1)→bA f Z→2 ^ L≤fZ→fZ < O→(m < O→fZ=m)→(∃ aF,q5 fZ R 400 aV aF)→cH b6 Z bR bT (D.aK aV)→
   mY.dW.t (fun v K=>bA aX K∧v=.bool true) (n+1) ((L+1:Nat):Int) ((R:Int) - 64) ⟨aE,0,none⟩ 0 (fZ:Int) bR (D.aK aV).length bT (O:Int) Z:=by
 obtain⟨e6,eM,gN⟩:=oE (show L < 53 by omega)
 intro n
 induction n with
 | zero=>
  intro O fZ aV bR bT Z a4 d h A e b i
  unfold mY.dW.t mY.c8.t
  refine⟨by omega,a5.mk ?_⟩
  rw [tX (L+1) (by omega)]
  refine b9 (fun n=>by omega) fun _=>?_
  unfold mY.bF.t
  refine eY (fun _=>?_) fun R=>absurd rfl R
  refine e3 (aN.aR d) rfl ?_
  rw [e (by omega)]
  exact⟨z.trans d,by rw [beq_self_eq_true]⟩
 | succ n bU=>
  intro O fZ aV bR bT Z a4 d h A e b i
  unfold mY.dW.t mY.c8.t
  refine⟨by omega,a5.mk ?_⟩
  rw [tX (L+1) (by omega)]
  refine b9 (fun _=>?_) fun n=>by omega
  obtain⟨aF,b⟩:=b
  have j:2 ^ L≤O:=by omega
  have r:O≤2 ^ (L+1) - 1:=by omega
  obtain⟨aM,B⟩:=wK (show L < 53 by omega) j r
  refine wG (aE:=400) rfl B g (by decide) (by decide) aM rfl rfl fun k cS a c H dF aZ l b3 s I=>?_
  refine pT s rfl (i.aR b3) rfl ?_
  refine b9 (fun u=>?_) fun w=>?_
  ·have u:=p3.mp u
   refine dB (O+1) (by omega) (by omega) ?_
   refine bU (O+1) O k (by omega) (d.trans b3) j (by omega) (fun C=>?_) ⟨_,l⟩ s
   refine Nat.le_antisymm ?_ (by omega)
   refine Nat.le_of_not_lt fun o=>?_
   have E:=e o
   subst E
   have:=(wJ bC (by omega) g (by decide) (by decide) p q b).2 O k cS j r (by omega) l
   omega
  ·have w:¬ k < aV:=fun F=>w (p3.mpr F)
   refine dB (O+1) (by omega) (by omega) ?_
   refine bU (O+1) fZ aV (by omega) (d.trans b3) h (by omega) (fun C=>?_) ⟨_,b⟩ (i.aR b3)
   by_cases o:m < O
   ·exact e o
   ·have R:O=m:=by omega
    subst R
    have:=(wJ bC (by omega) g (by decide) (by decide) p q l).2 fZ aV aF h (by omega) (by omega) b
    omega
theorem NL{N aP:Int}{Z:U}(n:-9223372036854775808≤N∧N < 9223372036854775808)(o:-9223372036854775808≤aP∧aP < 9223372036854775808):
  aY mY.id #[.int .i64 N,.int .i64 aP] Z fun v K=>bA Z K∧v=.bool true:=by
 refine mY.ok ?_
 unfold mY.t mY.aL.t
 refine yA fun aZ b3=>?_
 refine jL (fun R=>by cases R) fun _=>?_
 refine b9 (fun _=>⟨b3,rfl⟩) fun dY=>?_
 refine b9 (fun _=>⟨b3,rfl⟩) fun p=>?_
 refine b9 (fun _=>⟨b3,rfl⟩) fun q=>?_
 refine b9 (fun _=>⟨b3,rfl⟩) fun r=>?_
 obtain⟨L,rfl⟩:∃ L:Nat,N=((L+1:Nat):Int):=⟨(N - 1).toNat,by omega⟩
 obtain⟨R,rfl⟩:∃ R:Nat,aP=(R:Int) - 64:=⟨(aP+64).toNat,by omega⟩
 have d:L < 7:=by omega
 have b:R < 1036:=by omega
 obtain⟨m,S,up,bC⟩:=bin (show L < 53 by omega) b
 obtain⟨d0,fZ⟩:=bC.fZ
 have e:=fZ.l4
 have f:=fZ.l5
 obtain⟨e6,eM,gN⟩:=oE (show L < 53 by omega)
 unfold mY.a0.t
 refine AO bC (by omega) b rfl rfl rfl fun aE a c s g u h w=>?_
 refine cO (L:Int) (by omega) (by omega) (by omega) ?_
 refine⟨by omega,a5.mk ?_⟩
 rw [tX L (by omega)]
 obtain⟨aM,i⟩:=wK (show L < 53 by omega) (Nat.le_refl (2 ^ L)) (show 2 ^ L≤2 ^ (L+1) - 1 by omega)
 refine wG (aE:=400) rfl i b (by decide) (by decide) aM rfl rfl fun aV aF c3 cR eA eF x j k l y=>?_
 unfold mY.cE.t
 refine dB (2 ^ L+1) (by omega) (by omega) ?_
 refine⟨2 ^ (L+1) - (2 ^ L+1)+1,NK bC d b e f h (b3.trans g) _ (2 ^ L+1) (2 ^ L) aV (by omega) k (Nat.le_refl _) (by omega) (fun z=>by omega) ⟨aF,j⟩ l⟩
theorem Hg{Z:U}{aE:Nat}{bV:List Value}(aN:eC Z aE bV)(l:bV.length=6){a b c d e f:Value}{aF:U→Prop}(g:∀ K,eC K aE [a,b,c,d,e,f]→cD aE Z K→aF K):
  cC Z ((⟨aE,0,none⟩:Addr).add 0) a fun aZ=>cC aZ ((⟨aE,0,none⟩:Addr).add 1) b fun h=>cC h ((⟨aE,0,none⟩:Addr).add 2) c fun i=>cC i ((⟨aE,0,none⟩:Addr).add 3) d fun j=>cC j ((⟨aE,0,none⟩:Addr).add 4) e fun k=>cC k ((⟨aE,0,none⟩:Addr).add 5) f aF:=by
 match bV,l with
 | [y,aJ,bJ,c3,eA,bP],_=>
  refine j4 aN (by exact(by decide:0 < 6)) fun aZ m b3=>?_
  refine j4 m (by exact(by decide:1 < 6)) fun h n o=>?_
  refine j4 n (by exact(by decide:2 < 6)) fun i p q=>?_
  refine j4 p (by exact(by decide:3 < 6)) fun j r s=>?_
  refine j4 r (by exact(by decide:4 < 6)) fun k t u=>?_
  refine j4 t (by exact(by decide:5 < 6)) fun v w x=>?_
  exact g v w (((((b3.trans o).trans q).trans s).trans u).trans x)
theorem NM(Z:U):aY uJ.id #[.int .i64 64] Z fun v K=>bA Z K∧v=.tuple #[.agg #[.int .u64 9223372036854775808,.int .i64 53,.int .i64 (-1074),.int .i64 971,.int .u64 9218868437227405312,.int .u64 9221120237041090561],.bool true]:=by
 refine uJ.ok ?_
 unfold uJ.t uJ.aL.t
 refine eZ fun aZ b b3=>?_
 refine eY (fun R=>absurd R (by decide)) fun _=>?_
 refine eY (fun _=>?_) fun R=>absurd rfl R
 refine Hg b rfl fun d a c=>?_
 exact e3 a rfl (e3 a rfl (e3 a rfl (e3 a rfl (e3 a rfl (e3 a rfl ⟨cD.aR b3 c (Nat.le_refl _),rfl⟩)))))
theorem NN{n:Nat}(Z:U){aM b c d e:Int}:aY uK.id #[.agg #[.int .u64 9223372036854775808,.int .i64 aM,.int .i64 b,.int .i64 c,.int .u64 d,.int .u64 e],.int .u64 (n:Int)] Z fun v K=>bA Z K∧∃ p,v=.tuple #[.bool p,.int .u64 ((n % 9223372036854775808:Nat):Int)]:=by
 refine uK.ok ?_
 unfold uK.t uK.aL.t
 refine eZ fun aZ a b3=>?_
 refine e3 a rfl ?_
 refine e3 a rfl ?_
 refine⟨by decide,a5.mk ?_⟩
 refine⟨b3,decide ((n:Int)≥9223372036854775808),?_⟩
 have R:Int.tmod (n:Int) 9223372036854775808=((n % 9223372036854775808:Nat):Int):=(Int.ofNat_tmod n 9223372036854775808).symm
 rw [R]
theorem NO:h4 .u64 1 52=4503599627370496:=by decide
theorem NP{n:Nat}(Z:U)(aZ:4503599627370496≤n)(h:n < 9218868437227405312){aS b c d:Int}:aY uL.id #[.agg #[.int .u64 aS,.int .i64 53,.int .i64 (-1074),.int .i64 b,.int .u64 c,.int .u64 d],.int .u64 (n:Int)] Z fun v K=>bA Z K∧v=.tuple #[.int .u64 ((4503599627370496+n % 4503599627370496:Nat):Int),.int .i64 (((n / 4503599627370496:Nat):Int) - 1075)]:=by
 refine uL.ok ?_
 unfold uL.t uL.aL.t
 refine eZ fun i a e=>?_
 refine e3 a rfl ?_
 refine cO 52 (by decide) (by decide) (by decide) ?_
 refine⟨by decide,a5.mk ?_⟩
 rw [NO]
 refine⟨by decide,?_⟩
 have f:Int.tdiv (n:Int) 4503599627370496=((n / 4503599627370496:Nat):Int):=by rw [Int.ofNat_tdiv];rfl
 have g:Int.tmod (n:Int) 4503599627370496=((n % 4503599627370496:Nat):Int):=by rw [Int.ofNat_tmod];rfl
 refine dB (n / 4503599627370496) f (by omega) ?_
 refine⟨by decide,a5.mk ?_⟩
 rw [g]
 refine eY (fun R=>by omega) fun _=>?_
 refine dB (4503599627370496+n % 4503599627370496) (by omega) (by omega) ?_
 refine e3 a rfl ?_
 refine cO ((n / 4503599627370496:Nat):Int) rfl (by omega) (by omega) ?_
 refine cO (((n / 4503599627370496:Nat):Int) - 1074) (by omega) (by omega) (by omega) ?_
 refine cO (((n / 4503599627370496:Nat):Int) - 1075) (by omega) (by omega) (by omega) ?_
 exact⟨e,rfl⟩
theorem NQ{Y:aD}{b:U}{aH aE:Nat}{N:Int}(B:N=(aH:Int))(bM:aH < 9223372036854775808)(d:eC b aE [.int .u64 9223372036854775808,.int .i64 53,.int .i64 (-1074),.int .i64 971,.int .u64 9218868437227405312,.int .u64 9221120237041090561])(h:∀ K,bA b K→Y (.bool true) K):
  fG b ((⟨aE,0,none⟩:Addr).add 4) fun C=>aW .u64 C fun D=>cond (decide (N≥D)) (Y (.bool true) b) (cond (decide (N < 4503599627370496)) (Y (.bool true) b) (q8.a0.t Y ⟨aE,0,none⟩ N b)):=by
 refine e3 d rfl ?_
 refine b9 (fun _=>h _ (bA.refl _)) fun E=>?_
 refine b9 (fun _=>h _ (bA.refl _)) fun s2=>?_
 subst B
 unfold q8.a0.t
 refine e3 d rfl (e3 d rfl (e3 d rfl (e3 d rfl (e3 d rfl (e3 d rfl ?_)))))
 refine cA (NP (n:=aH) b (by omega) (by omega)) fun v Px ⟨o,cW⟩=>?_
 subst cW
 refine gE rfl (cF (bQ rfl (cF (bQ rfl (dR ?_)))))
 refine b9 (fun _=>h _ o) fun hN=>?_
 obtain⟨R,p⟩:∃ R:Nat,((aH / 4503599627370496:Nat):Int) - 1075=(R:Int) - 64:=⟨(((aH / 4503599627370496:Nat):Int) - 1011).toNat,by omega⟩
 have f:R < 1036:=by omega
 rw [p]
 have dY:2 ^ 52≤4503599627370496+aH % 4503599627370496:=by rw [show(2:Nat) ^ 52=4503599627370496 by decide];omega
 have q:4503599627370496+aH % 4503599627370496≤2 ^ (52+1) - 1:=by rw [show(2:Nat) ^ (52+1)=9007199254740992 by decide];omega
 generalize 4503599627370496+aH % 4503599627370496=n at *
 clear p E s2 hN bM
 obtain⟨m,S,up,bC⟩:=bin (L:=52) (by decide) f
 obtain⟨d0,fZ⟩:=bC.fZ
 have k:=fZ.l4
 have l:=fZ.l5
 obtain⟨aV,aF,r⟩:=NI m R 400
 obtain⟨_,lt⟩:=wJ bC (by decide) f (aE:=400) (by decide) (by decide) k l r
 obtain⟨g,s,Py,Pz,PA,F,PB,i,G,PC⟩:=AN bC (by decide) f (aE:=400) (by decide) (by decide) k l r
 refine AO bC (by decide) f rfl rfl rfl fun aE a c PD H PE j PF=>?_
 rw [i] at j
 have I:∀ e:Nat,nN 1400 (m*2 ^ (R+1337)) S=1401 - (e:Int)→e=g:=fun e u=>by
  have:(1401:Int) - (g:Int)=1401 - (e:Int):=i.symm.trans u
  clear u i;omega
 clear i
 refine jK (fun R=>absurd rfl R) fun _=>?_
 refine e3 j rfl ?_
 refine b9 (fun n=>by omega) fun _=>?_
 refine e3 j rfl ?_
 refine b9 (fun n=>by omega) fun _=>?_
 unfold q8.bF.t
 obtain⟨aM,J⟩:=wK (L:=52) (by decide) dY q
 refine wG (aE:=400) rfl J f (by decide) (by decide) aM rfl rfl fun w P c3 cR eA eF PG x y Q PH=>?_
 refine e3 (j.aR y) rfl ?_
 refine cO ((s:Nat):Int) (by omega) (by omega) (by omega) ?_
 refine p1 rfl (by omega) fun a7 a9 PI z T=>?_
 refine pT (Q.aR z) rfl T.rd rfl ?_
 have V:2 ^ s < w:=by
  by_cases A:n=m
  ·subst A
   obtain⟨e,PJ,PK,PL,PM,Pt,PN,Pu,Pv,PO⟩:=AN bC (by decide) f (aE:=400) (by decide) (by decide) k l x
   have Pw:e=g:=I e Pu
   rw [F,← Pw,← Pt];exact Pv
  ·exact Nat.lt_trans G (lt n w P dY q A x)
 rw [NJ V]
 exact h _ (o.trans (H.trans (y.trans z)))
theorem NR{bI:Int}{Z:U}(k:0≤bI∧bI < 18446744073709551616):aY q8.id #[.int .u64 bI] Z fun v K=>bA Z K∧v=.bool true:=by
 refine q8.ok ?_
 unfold q8.t q8.aL.t
 obtain⟨bI,rfl⟩:∃ n:Nat,bI=(n:Int):=⟨bI.toNat,by omega⟩
 refine yA fun aZ b3=>?_
 refine jL (fun R=>by cases R) fun _=>?_
 refine cA (NM aZ) fun v d ⟨e,cW⟩=>?_
 subst cW
 refine gE rfl (cF (e5 rfl (cF (bQ rfl (cF (bQ rfl (cF (bQ rfl (cF (bQ rfl (cF (bQ rfl (cF (bQ rfl (dR (cF (c5 rfl (dR ?_))))))))))))))))))
 refine eZ fun l f g=>?_
 refine Hg f rfl fun b a h=>?_
 have i:bA d b:=cD.aR g h (Nat.le_refl _)
 refine e3 a rfl (e3 a rfl (e3 a rfl (e3 a rfl (e3 a rfl (e3 a rfl ?_)))))
 refine cA (NN (n:=bI) b) fun v m ⟨c,p,cW⟩=>?_
 subst cW
 refine gE rfl (cF (c5 rfl (cF (bQ rfl (dR ?_)))))
 exact NQ (Y:=fun v K=>bA Z K∧v=.bool true) rfl (Nat.mod_lt _ (by decide)) (a.aR c) fun o j=>⟨b3.trans (e.trans (i.trans (c.trans j))),rfl⟩
end Go.Proofs.YtjijdlkpmngolaaGreat.G
