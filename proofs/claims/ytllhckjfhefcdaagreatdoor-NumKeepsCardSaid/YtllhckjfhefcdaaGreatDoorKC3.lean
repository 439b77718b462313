import Derived.Test.YtllhckjfhefcdaaGreatDoorKB
import Derived.Test.YtllhckjfhefcdaaGreatDoorKC0
import Derived.Test.YtllhckjfhefcdaaGreatDoorKC1
import Derived.Test.YtllhckjfhefcdaaGreatDoorKC2
namespace Go.Proofs.YtllhckjfhefcdaaGreatDoor.G
open Go.Gv
set_option linter.unusedVariables false
set_option maxRecDepth 100000
namespace n2
def aC.v(cU:Bool)(a:Nat)(b:Bool)(c:Nat)(d:Bool)(d:Nat):(Bool × Nat):=
 bY (lM (bL (cU,a)) (bL (b,c))) fun a=>
 (a.1,a.2)
theorem aC.aU{Y:K}{aB Z:V}(aR:a4 aB Z){cU:Bool}{n:U}{E:Nat}{b:Nat}(K8:cB b2 Z n E (D.aE b))(Lg:(D.aE b).length≤300000){d:Nat}(i:cR Z d [.bool cU,.slice n (D.aE b).length E])(Lh:aB.size≤d){f:Bool}{G:U}{H:Nat}{c:Nat}(K9:cB b2 Z G H (D.aE c))(Li:(D.aE c).length≤300000){e:Nat}(j:cR Z e [.bool f,.slice G (D.aE c).length H])(Lj:aB.size≤e){P:Bool}{K5:U}{K6:Nat}{h:Nat}(Lk:cB b2 Z K5 K6 (D.aE h))(Ll:(D.aE h).length≤300000){dT:Nat}(a:cR Z dT [.bool P,.slice K5 (D.aE h).length K6])(K7:aB.size≤dT)(Lm:d ≠ e)(Ln:d ≠ dT)(Lo:e ≠ dT)(g:dS fC aB Y (aC.v cU b f c P h)):aC.t Y (⟨d,0,none⟩:Addr) (⟨e,0,none⟩:Addr) (⟨dT,0,none⟩:Addr) Z:=by
 have Lp:=i.lt
 have Lq:=j.lt
 have Lr:=a.lt
 have Ls:(D.aE 0).length=0:=by simp [D.dM]
 unfold aC.v at g
 unfold aC.t
 refine aI i (w _ _) rfl (aO rfl ?_)
 refine aI i (w _ _) rfl (k rfl ?_)
 refine aI j (w _ _) rfl (aO rfl ?_)
 refine aI j (w _ _) rfl (k rfl ?_)
 refine bF (nI.aY K8 rfl K9 rfl (by first | assumption | decide | omega) (by first | assumption | decide | omega)) fun v Lt ⟨l,O⟩=>?_
 obtain⟨Lu,m⟩:∃ z,z=lM (bL (cU,b)) (bL (f,c)):=⟨_,rfl⟩
 rw [← m] at O
 replace g:=cC m g
 have La:=DW cU b f c
 rw [← m] at La
 obtain⟨Lv,Lw,rfl,Lb⟩:=O
 refine bZ rfl (aM (aO rfl (aM (k rfl (bP (?_))))))
 have Lx:=l.aD
 have a:=(a.B l)
 refine bK a (w _ _) rfl fun Ly a Lc Ld=>?_
 refine bK a (w _ _) rfl fun Lz a Le Lf=>?_
 refine aI a (w _ _) rfl (aO rfl ?_)
 refine aI a (w _ _) rfl (k rfl ?_)
 exact g _ _ (a1.B (a1.B (aR.trans l) Lc K7) Le K7) ⟨_,_,rfl,((Lb.aD (Ld.trans Lf)).from aR.le)⟩
def F.v(a:Bool)(b:Nat)(aT:Bool)(c:Nat):(Bool × Nat):=
 bif aT then
  bY (b5 (-bL (a,b))) fun d=>
  bY (b5 (-bL (aT,c))) fun e=>
  aC.v d.1 d.2 e.1 e.2 false 0
 else
  aC.v a b aT c false 0
theorem F.aU{Y:K}{aB Z:V}(aR:a4 aB Z){H:Bool}{Ld:U}{Le Lf:Nat}{f:Nat}(Lg:cB b2 Z Ld Le (D.aE f))(Lr:Lf=(D.aE f).length)(LB:(D.aE f).length≤150000){aT:Bool}{Lh:U}{Li Lj:Nat}{h:Nat}(Lk:cB b2 Z Lh Li (D.aE h))(Ls:Lj=(D.aE h).length)(LC:(D.aE h).length≤150000)(g:dS fC aB Y (F.v H f aT h)):F.t Y H Ld Lf Le aT Lh Lj Li Z:=by
 subst Lr Ls
 have LD:(D.aE 0).length=0:=by simp [D.dM]
 unfold F.v at g
 unfold F.t
 refine cK fun LF a E=>?_
 have P:=aR.le
 have c:=a.lt
 have K5:=E.aD
 refine cK fun Lt b i=>?_
 have K6:=(aR.trans E).le
 have G:=b.lt
 have d:=i.aD
 refine cK fun Lu e j=>?_
 have e:cR Lu (Lt.size) [.bool false,.slice none (D.aE 0).length 0]:=by rw [D.dM];exact e
 have Ll:=((aR.trans E).trans i).le
 have LG:=e.lt
 have l:=j.aD
 have b:=(b.B j)
 refine aI b (w _ _) rfl (aO rfl ?_)
 refine iR g (fun Lv g=>?_) (fun Lv g=>?_)
 ·have a:=((a.B i).B j)
  refine⟨eY rfl ((d.trans l).lt c),?_⟩
  refine aI a (w _ _) rfl (aO rfl ?_)
  refine aI a (w _ _) rfl (k rfl ?_)
  refine bF (h2.aY (Lg.aD (K5.trans (d.trans l))) rfl) fun v LH ⟨m,O⟩=>?_
  obtain⟨LI,K7⟩:∃ z,z=b5 (-bL (H,f)):=⟨_,rfl⟩
  rw [← K7] at O
  replace g:=cC K7 g
  have Lw:=qN H f
  rw [← K7] at Lw
  obtain⟨LJ,LK,rfl,Lx⟩:=O
  refine bZ rfl (aM (aO rfl (aM (k rfl (bP (?_))))))
  have Lm:=m.aD
  refine⟨m.c1 (Nat.le_refl _),?_⟩
  have b:=(b.B m)
  refine⟨eY rfl ((l).lt G),?_⟩
  refine aI b (w _ _) rfl (aO rfl ?_)
  refine aI b (w _ _) rfl (k rfl ?_)
  refine bF (h2.aY (Lk.aD (K5.trans (d.trans (l.trans Lm)))) rfl) fun v LL ⟨n,O⟩=>?_
  obtain⟨LM,K8⟩:∃ z,z=b5 (-bL (aT,h)):=⟨_,rfl⟩
  rw [← K8] at O
  replace g:=cC K8 g
  have Ly:=qN aT h
  rw [← K8] at Ly
  obtain⟨LN,LO,rfl,Lz⟩:=O
  refine bZ rfl (aM (aO rfl (aM (k rfl (bP (?_))))))
  have LA:=n.aD
  refine⟨n.c1 (Lm).le,?_⟩
  have a:=((a.B m).B n)
  refine bK a (w _ _) rfl fun LP a K9 Ln=>?_
  refine bK a (w _ _) rfl fun LQ a La Lo=>?_
  have b:=(((b.B n).bT (Ne.symm (Nat.ne_of_lt c)) K9).bT (Ne.symm (Nat.ne_of_lt c)) La)
  refine bK b (w _ _) rfl fun LR b Lb Lp=>?_
  refine bK b (w _ _) rfl fun LS b Lc Lq=>?_
  have a:=((a.bT (Nat.ne_of_lt c) Lb).bT (Nat.ne_of_lt c) Lc)
  have e:=((((((e.B m).B n).bT (Ne.symm (Nat.ne_of_lt ((d).lt c))) K9).bT (Ne.symm (Nat.ne_of_lt ((d).lt c))) La).bT (Ne.symm (Nat.ne_of_lt G)) Lb).bT (Ne.symm (Nat.ne_of_lt G)) Lc)
  exact aC.aU (a1.B (a1.B (a1.B (a1.B (((((aR.trans E).trans i).trans j).trans m).trans n) K9 P) La P) Lb K6) Lc K6) (Lx.aD (LA.trans (Ln.trans (Lo.trans (Lp.trans Lq))))).rd (by first | assumption | decide | omega) a P (Lz.aD (Ln.trans (Lo.trans (Lp.trans Lq)))).rd (by first | assumption | decide | omega) b K6 (yZ _ _ _) (by first | assumption | decide | omega) e Ll (Nat.ne_of_lt c) (Nat.ne_of_lt ((d).lt c)) (Nat.ne_of_lt G) g
 have a:=((a.B i).B j)
 exact aC.aU (((aR.trans E).trans i).trans j) (Lg.aD (K5.trans (d.trans l))) (by first | assumption | decide | omega) a P (Lk.aD (K5.trans (d.trans l))) (by first | assumption | decide | omega) b K6 (yZ _ _ _) (by first | assumption | decide | omega) e Ll (Nat.ne_of_lt c) (Nat.ne_of_lt ((d).lt c)) (Nat.ne_of_lt G) g
def v(a:Bool)(b:Nat)(aT:Bool)(c:Nat):(Bool × Nat):=F.v a b aT c
theorem aU{Z:V}{a:Bool}{b:U}{c d:Nat}{e:Nat}(f:cB b2 Z b c (D.aE e))(g:d=(D.aE e).length)(h:(D.aE e).length≤150000){aT:Bool}{i:U}{j l:Nat}{m:Nat}(n:cB b2 Z i j (D.aE m))(t:l=(D.aE m).length)(E:(D.aE m).length≤150000):aF id #[.agg #[.bool a,.slice b d c],.agg #[.bool aT,.slice i l j]] Z fun b c=>a4 Z c∧fC Z c b (v a e aT m):=
 ok (F.aU (a4.refl _) f g h n t E fun v A M O=>⟨M,O⟩)
end n2
namespace oS
def F.v(a:Bool)(b:Nat)(aQ:Int):(Bool × Nat):=
 bif (decide (aQ≤(0:Int))) then
  bY (b5 (cE a b)) fun c=>
  (c.1,c.2)
 else
  bif (decide (aQ > ((((eU b:Nat):Int))))) then
   (false,0)
  else
   bY (2 ^ (Int.toNat aQ)) fun c=>
   bY (b5 (cE false c)) fun c=>
   bY (lM (bL (a,b)) (bL (c.1,c.2))) fun a=>
   (a.1,a.2)
theorem F.aU{Y:K}{aB Z:V}(aR:a4 aB Z){j:Bool}{Lb:U}{Lc Ld:Nat}{d:Nat}(P:cB b2 Z Lb Lc (D.aE d))(Lh:Ld=(D.aE d).length)(LB:(D.aE d).length≤100000){aQ:Int}(Li:In .i64 aQ)(g:dS fC aB Y (F.v j d aQ)):F.t Y j Lb Ld Lc aQ Z:=by
 subst Lh
 have LC:(D.aE 0).length=0:=by simp [D.dM]
 unfold F.v at g
 unfold F.t
 refine cK fun Lj b i=>?_
 have LD:=aR.le
 have Lk:=b.lt
 have K5:=i.aD
 refine cK fun Ll a h=>?_
 have a:cR Ll (Lj.size) [.bool false,.slice none (D.aE 0).length 0]:=by rw [D.dM];exact a
 have l:=(aR.trans i).le
 have LF:=a.lt
 have E:=h.aD
 refine jC g (fun Lm g=>?_) (fun Lm g=>?_)
 ·have b:=(b.B h)
  refine aI b (w _ _) rfl (aO rfl ?_)
  refine aI b (w _ _) rfl (k rfl ?_)
  refine bF (fK.aY (P.aD (K5.trans E)) rfl) fun v Ln ⟨c,O⟩=>?_
  obtain⟨LG,K6⟩:∃ z,z=b5 (cE j d):=⟨_,rfl⟩
  rw [← K6] at O
  replace g:=cC K6 g
  have Lo:=k0 j d
  rw [← K6] at Lo
  obtain⟨LH,LI,rfl,Lp⟩:=O
  refine bZ rfl (aM (aO rfl (aM (k rfl (bP (?_))))))
  have K7:=c.aD
  have a:=(a.B c)
  refine bK a (w _ _) rfl fun Le a e m=>?_
  refine bK a (w _ _) rfl fun Lf a f n=>?_
  refine aI a (w _ _) rfl (aO rfl ?_)
  refine aI a (w _ _) rfl (k rfl ?_)
  exact g _ _ (a1.B (a1.B (((aR.trans i).trans h).trans c) e l) f l) ⟨_,_,rfl,((Lp.aD (m.trans n)).from ((aR.trans i).trans h).le)⟩
 have b:=(b.B h)
 refine aI b (w _ _) rfl (k rfl ?_)
 refine bF (kA.aU (P.aD (K5.trans E)) rfl) fun v Ln ⟨c,O⟩=>?_
 have LJ:=DS d
 obtain⟨rfl,LK⟩:=O
 refine bI rfl (?_)
 have K7:=c.aD
 refine jC g (fun Lq g=>?_) (fun Lq g=>?_)
 ·have a:=(a.B c)
  refine bK a (w _ _) rfl fun Le a e m=>?_
  refine bK a (w _ _) rfl fun Lf a f n=>?_
  have a:=a.AX
  refine aI a (w _ _) rfl (aO rfl ?_)
  refine aI a (w _ _) rfl (k rfl ?_)
  exact g _ _ (a1.B (a1.B (((aR.trans i).trans h).trans c) e l) f l) ⟨_,_,rfl,(sF _ _)⟩
 have b:=(b.B c)
 refine⟨eY rfl ((E.trans K7).lt Lk),?_⟩
 refine aI b (w _ _) rfl (aO rfl ?_)
 refine aI b (w _ _) rfl (k rfl ?_)
 refine bF (qP.aU Li (by first | assumption | decide | omega) (by first | assumption | decide | omega)) fun v Le ⟨e,O⟩=>?_
 obtain⟨Lg,K8⟩:∃ z,z=2 ^ (Int.toNat aQ):=⟨_,rfl⟩
 rw [← K8] at O
 replace g:=cC K8 g
 have Lr:=Io aQ
 rw [← K8] at Lr
 obtain⟨LL,LM,rfl,Ls⟩:=O
 refine k rfl (?_)
 have m:=e.aD
 refine⟨e.c1 (Nat.le_refl _),?_⟩
 refine bF (fK.aY Ls.rd rfl) fun v Lf ⟨f,O⟩=>?_
 obtain⟨G,K9⟩:∃ z,z=b5 (cE false Lg):=⟨_,rfl⟩
 rw [← K9] at O
 replace g:=cC K9 g
 have Lt:=k0 false Lg
 rw [← K9] at Lt
 obtain⟨LN,LO,rfl,Lu⟩:=O
 refine bZ rfl (aM (aO rfl (aM (k rfl (bP (?_))))))
 have n:=f.aD
 refine⟨f.c1 (m).le,?_⟩
 refine bF (nI.aY (P.aD (K5.trans (E.trans (K7.trans (m.trans n))))) rfl Lu.rd rfl (by first | assumption | decide | omega) (by first | assumption | decide | omega)) fun v LP ⟨H,O⟩=>?_
 obtain⟨LQ,La⟩:∃ z,z=lM (bL (j,d)) (bL (G.1,G.2)):=⟨_,rfl⟩
 rw [← La] at O
 replace g:=cC La g
 have Lv:=DW j d G.1 G.2
 rw [← La] at Lv
 obtain⟨LR,LS,rfl,Lw⟩:=O
 refine bZ rfl (aM (aO rfl (aM (k rfl (bP (?_))))))
 have LU:=H.aD
 refine⟨H.c1 (m.trans n).le,?_⟩
 have a:=((((a.B c).B e).B f).B H)
 refine bK a (w _ _) rfl fun LV a Lx Ly=>?_
 refine bK a (w _ _) rfl fun LW a Lz LA=>?_
 refine aI a (w _ _) rfl (aO rfl ?_)
 refine aI a (w _ _) rfl (k rfl ?_)
 exact g _ _ (a1.B (a1.B ((((((aR.trans i).trans h).trans c).trans e).trans f).trans H) Lx l) Lz l) ⟨_,_,rfl,((Lw.aD (Ly.trans LA)).from (((((aR.trans i).trans h).trans c).trans e).trans f).le)⟩
def v(a:Bool)(b:Nat)(aQ:Int):(Bool × Nat):=F.v a b aQ
theorem aU{Z:V}{a:Bool}{b:U}{c d:Nat}{e:Nat}(f:cB b2 Z b c (D.aE e))(g:d=(D.aE e).length)(h:(D.aE e).length≤100000){aQ:Int}(i:In .i64 aQ):aF id #[.agg #[.bool a,.slice b d c],.int .i64 aQ] Z fun b c=>a4 Z c∧fC Z c b (v a e aQ):=
 ok (F.aU (a4.refl _) f g h i fun v A M O=>⟨M,O⟩)
end oS
namespace oT
def F.v(a:Bool)(b:List Nat):((Bool × List Nat) × Int):=
 bY (decide (eJ (a,b))) fun c=>
 bif (!c) then
  ((false,([]:List Nat)),(2:Int))
 else
  bY (b5 (eV (a,b))) fun a=>
  bY (b5 (-bL (a.1,a.2))) fun a=>
  bY (fP (bL (a.1,a.2))) fun a=>
  ((a.1.1,a.1.2),a.2)
theorem F.aU{Y:K}{aB Z:V}(aR:a4 aB Z){d:Bool}{K7:U}{K8 K9:Nat}{e:List Nat}(n:bJ Z K7 K8 e)(Lf:K9=e.length)(g:dS (s2 dZ (c3 .i64)) aB Y (F.v d e)):F.t Y d K7 K9 K8 Z:=by
 subst Lf
 have Lu:(D.aE 0).length=0:=by simp [D.dM]
 unfold F.v at g
 unfold F.t
 refine cK fun Lv b i=>?_
 have Lw:=aR.le
 have Lx:=b.lt
 have E:=i.aD
 refine cK fun Ly a j=>?_
 have l:=(aR.trans i).le
 have Lz:=a.lt
 have G:=j.aD
 have b:=(b.B j)
 refine aI b (w _ _) rfl (aO rfl ?_)
 refine aI b (w _ _) rfl (k rfl ?_)
 refine bF (iW.aY (n.aD (E.trans G)) rfl) fun v LA ⟨c,O⟩=>?_
 obtain⟨LB,H⟩:∃ z,z=decide (eJ (d,e)):=⟨_,rfl⟩
 rw [← H] at O
 replace g:=cC H g
 have La:=sG d e
 rw [← H] at La
 obtain rfl:=O
 refine aO rfl (?_)
 have Lb:=c.aD
 refine hH g (fun Lc g=>?_) (fun Lc g=>?_)
 ·have a:=(a.B c)
  refine bK a (w _ _) rfl fun Lg a f Lh=>?_
  refine bK a (w _ _) rfl fun Li a h Lj=>?_
  refine aI a (w _ _) rfl (aO rfl ?_)
  refine aI a (w _ _) rfl (k rfl ?_)
  exact g _ _ (a1.B (a1.B (((aR.trans i).trans j).trans c) f l) h l) ⟨_,_,rfl,⟨_,_,rfl,(cN.nil _ _)⟩,⟨rfl,(show In .i64 (2:Int) by decide)⟩⟩
 have LC:=La Lc
 have b:=(b.B c)
 refine aI b (w _ _) rfl (aO rfl ?_)
 refine aI b (w _ _) rfl (k rfl ?_)
 refine bF (fN.aY (n.aD (E.trans (G.trans Lb))) rfl) fun v Lg ⟨f,O⟩=>?_
 obtain⟨m,P⟩:∃ z,z=b5 (eV (d,e)):=⟨_,rfl⟩
 rw [← P] at O
 replace g:=cC P g
 have Lk:=jU d ((n.aD (E.trans (G.trans Lb)))).words
 rw [← P] at Lk
 obtain⟨LD,LF,rfl,Ll⟩:=O
 refine bZ rfl (aM (aO rfl (aM (k rfl (bP (?_))))))
 have Lh:=f.aD
 refine bF (h2.aY Ll.rd rfl) fun v Li ⟨h,O⟩=>?_
 obtain⟨Ld,K5⟩:∃ z,z=b5 (-bL (m.1,m.2)):=⟨_,rfl⟩
 rw [← K5] at O
 replace g:=cC K5 g
 have Lm:=qN m.1 m.2
 rw [← K5] at Lm
 obtain⟨LG,LH,rfl,Ln⟩:=O
 refine bZ rfl (aM (aO rfl (aM (k rfl (bP (?_))))))
 have Lj:=h.aD
 refine bF (gZ.aY Ln.rd rfl) fun v LI ⟨K6,O⟩=>?_
 obtain⟨LJ,Le⟩:∃ z,z=fP (bL (Ld.1,Ld.2)):=⟨_,rfl⟩
 rw [← Le] at O
 replace g:=cC Le g
 obtain⟨_,_,rfl,⟨LK,LL,rfl,Lo⟩,⟨rfl,Lp⟩⟩:=O
 refine dP rfl (aM (bZ rfl (aM (aO rfl (aM (k rfl (bP (aM (bI rfl (bP (?_)))))))))))
 have LM:=K6.aD
 have a:=((((a.B c).B f).B h).B K6)
 refine bK a (w _ _) rfl fun LN a Lq Lr=>?_
 refine bK a (w _ _) rfl fun LO a Ls Lt=>?_
 refine aI a (w _ _) rfl (aO rfl ?_)
 refine aI a (w _ _) rfl (k rfl ?_)
 exact g _ _ (a1.B (a1.B ((((((aR.trans i).trans j).trans c).trans f).trans h).trans K6) Lq l) Ls l) ⟨_,_,rfl,⟨_,_,rfl,((Lo.aD (Lr.trans Lt)).from (((((aR.trans i).trans j).trans c).trans f).trans h).le)⟩,⟨rfl,Lp⟩⟩
def v(a:Bool)(b:List Nat):((Bool × List Nat) × Int):=F.v a b
theorem aU{Z:V}{a:Bool}{b:U}{c d:Nat}{e:List Nat}(f:bJ Z b c e)(g:d=e.length):aF id #[.agg #[.bool a,.slice b d c]] Z fun b c=>a4 Z c∧(s2 dZ (c3 .i64)) Z c b (v a e):=
 ok (F.aU (a4.refl _) f g fun v A M O=>⟨M,O⟩)
end oT
namespace n3
def aC.v(cU:Bool)(a:List Nat)(b:Bool)(c:List Nat):(Int × Int):=
 bY (b5 (eV (cU,a))) fun a=>
 bY (b5 (eV (b,c))) fun b=>
 ((gA (bL (a.1,a.2)) (bL (b.1,b.2))),(0:Int))
theorem aC.aU{Y:K}{aB Z:V}(aR:a4 aB Z){cU:Bool}{G:U}{H:Nat}{a:List Nat}(P:bJ Z G H a){d:Nat}(j:cR Z d [.bool cU,.slice G a.length H])(Lg:aB.size≤d){e:Bool}{K5:U}{K6:Nat}{b:List Nat}(K7:bJ Z K5 K6 b){f:Nat}(c:cR Z f [.bool e,.slice K5 b.length K6])(Lh:aB.size≤f)(Li:d ≠ f)(Lj:a.length≤8192)(Lk:b.length≤8192)(g:dS (s2 (c3 .i64) (c3 .i64)) aB Y (aC.v cU a e b)):aC.t Y (⟨d,0,none⟩:Addr) (⟨f,0,none⟩:Addr) Z:=by
 have K9:=j.lt
 have La:=c.lt
 have Ll:(D.aE 0).length=0:=by simp [D.dM]
 unfold aC.v at g
 unfold aC.t
 refine⟨eY rfl (K9),?_⟩
 refine aI j (w _ _) rfl (aO rfl ?_)
 refine aI j (w _ _) rfl (k rfl ?_)
 refine bF (fN.aY P rfl) fun v Lm ⟨h,O⟩=>?_
 obtain⟨Ln,l⟩:∃ z,z=b5 (eV (cU,a)):=⟨_,rfl⟩
 rw [← l] at O
 replace g:=cC l g
 have Lb:=jU cU (P).words
 rw [← l] at Lb
 obtain⟨Lo,Lp,rfl,Lc⟩:=O
 refine bZ rfl (aM (aO rfl (aM (k rfl (bP (?_))))))
 have i:=h.aD
 refine⟨h.c1 (Nat.le_refl _),?_⟩
 have c:=(c.B h)
 refine⟨eY rfl (La),?_⟩
 refine aI c (w _ _) rfl (aO rfl ?_)
 refine aI c (w _ _) rfl (k rfl ?_)
 refine bF (fN.aY (K7.aD (i)) rfl) fun v Lq ⟨m,O⟩=>?_
 obtain⟨Lr,n⟩:∃ z,z=b5 (eV (e,b)):=⟨_,rfl⟩
 rw [← n] at O
 replace g:=cC n g
 have Ld:=jU e ((K7.aD (i))).words
 rw [← n] at Ld
 obtain⟨Ls,Lt,rfl,Le⟩:=O
 refine bZ rfl (aM (aO rfl (aM (k rfl (bP (?_))))))
 have K8:=m.aD
 refine⟨m.c1 (i).le,?_⟩
 refine bF (nH.aY (Lc.aD (K8)).rd rfl Le.rd rfl (by first | assumption | decide | omega) (by first | assumption | decide | omega)) fun v Lu ⟨E,O⟩=>?_
 obtain⟨rfl,Lf⟩:=O
 refine bI rfl (?_)
 have Lv:=E.aD
 refine⟨E.c1 (i.trans K8).le,?_⟩
 exact g _ _ (((aR.trans h).trans m).trans E) ⟨_,_,rfl,⟨rfl,Lf⟩,⟨rfl,(show In .i64 (0:Int) by decide)⟩⟩
def F.v(a:Bool)(b:List Nat)(aT:Bool)(c:List Nat):(Int × Int):=
 bY (decide (eJ (a,b))) fun d=>
 bif (!d) then
  ((0:Int),(2:Int))
 else
  bY (decide (eJ (aT,c))) fun d=>
  bif (!d) then
   ((0:Int),(2:Int))
  else
   aC.v a b aT c
theorem F.aU{Y:K}{aB Z:V}(aR:a4 aB Z){j:Bool}{H:U}{P K5:Nat}{d:List Nat}(K6:bJ Z H P d)(Lg:K5=d.length){aT:Bool}{K7:U}{K8 K9:Nat}{e:List Nat}(La:bJ Z K7 K8 e)(Lh:K9=e.length)(g:dS (s2 (c3 .i64) (c3 .i64)) aB Y (F.v j d aT e)):F.t Y j H K5 P aT K7 K9 K8 Z:=by
 subst Lg Lh
 have Ll:(D.aE 0).length=0:=by simp [D.dM]
 unfold F.v at g
 unfold F.t
 refine cK fun Lm a f=>?_
 have Li:=aR.le
 have Lj:=a.lt
 have l:=f.aD
 refine cK fun Ln b h=>?_
 have Lk:=(aR.trans f).le
 have Lo:=b.lt
 have m:=h.aD
 have a:=(a.B h)
 refine aI a (w _ _) rfl (aO rfl ?_)
 refine aI a (w _ _) rfl (k rfl ?_)
 refine bF (iW.aY (K6.aD (l.trans m)) rfl) fun v Lp ⟨c,O⟩=>?_
 obtain⟨Lq,n⟩:∃ z,z=decide (eJ (j,d)):=⟨_,rfl⟩
 rw [← n] at O
 replace g:=cC n g
 have Lb:=sG j d
 rw [← n] at Lb
 obtain rfl:=O
 refine aO rfl (?_)
 have E:=c.aD
 refine hH g (fun Lc g=>?_) (fun Lc g=>?_)
 ·exact g _ _ (((aR.trans f).trans h).trans c) ⟨_,_,rfl,⟨rfl,(show In .i64 (0:Int) by decide)⟩,⟨rfl,(show In .i64 (2:Int) by decide)⟩⟩
 have Lr:=Lb Lc
 have b:=(b.B c)
 refine aI b (w _ _) rfl (aO rfl ?_)
 refine aI b (w _ _) rfl (k rfl ?_)
 refine bF (iW.aY (La.aD (l.trans (m.trans E))) rfl) fun v Ls ⟨i,O⟩=>?_
 obtain⟨Lt,G⟩:∃ z,z=decide (eJ (aT,e)):=⟨_,rfl⟩
 rw [← G] at O
 replace g:=cC G g
 have Ld:=sG aT e
 rw [← G] at Ld
 obtain rfl:=O
 refine aO rfl (?_)
 have Le:=i.aD
 refine hH g (fun Lf g=>?_) (fun Lf g=>?_)
 ·exact g _ _ ((((aR.trans f).trans h).trans c).trans i) ⟨_,_,rfl,⟨rfl,(show In .i64 (0:Int) by decide)⟩,⟨rfl,(show In .i64 (2:Int) by decide)⟩⟩
 have Lu:=Ld Lf
 have a:=((a.B c).B i)
 have b:=(b.B i)
 exact aC.aU ((((aR.trans f).trans h).trans c).trans i) (K6.aD (l.trans (m.trans (E.trans Le)))) a Li (La.aD (l.trans (m.trans (E.trans Le)))) b Lk (Nat.ne_of_lt Lj) (by first | assumption | decide | omega) (by first | assumption | decide | omega) g
def v(a:Bool)(b:List Nat)(aT:Bool)(c:List Nat):(Int × Int):=F.v a b aT c
theorem aU{Z:V}{a:Bool}{b:U}{c d:Nat}{e:List Nat}(f:bJ Z b c e)(g:d=e.length){aT:Bool}{h:U}{i j:Nat}{l:List Nat}(m:bJ Z h i l)(n:j=l.length):aF id #[.agg #[.bool a,.slice b d c],.agg #[.bool aT,.slice h j i]] Z fun b c=>a4 Z c∧(s2 (c3 .i64) (c3 .i64)) Z c b (v a e aT l):=
 ok (F.aU (a4.refl _) f g m n fun v A M O=>⟨M,O⟩)
end n3
namespace oU
def F.v(a:Bool)(b:List Nat):(Int × Int):=
 bY (decide (eJ (a,b))) fun c=>
 bif (!c) then
  ((0:Int),(2:Int))
 else
  bY (b5 (eV (a,b))) fun a=>
  bY (vN (bL (a.1,a.2))) fun a=>
  bif (!a.2) then
   ((0:Int),(5:Int))
  else
   (a.1,(0:Int))
theorem F.aU{Y:K}{aB Z:V}(aR:a4 aB Z){b:Bool}{n:U}{E G:Nat}{c:List Nat}(f:bJ Z n E c)(K8:G=c.length)(g:dS (s2 (c3 .i64) (c3 .i64)) aB Y (F.v b c)):F.t Y b n G E Z:=by
 subst K8
 have Ld:(D.aE 0).length=0:=by simp [D.dM]
 unfold F.v at g
 unfold F.t
 refine cK fun Le a e=>?_
 have Lf:=aR.le
 have Lg:=a.lt
 have h:=e.aD
 refine aI a (w _ _) rfl (aO rfl ?_)
 refine aI a (w _ _) rfl (k rfl ?_)
 refine bF (iW.aY (f.aD (h)) rfl) fun v Lh ⟨d,O⟩=>?_
 obtain⟨Li,i⟩:∃ z,z=decide (eJ (b,c)):=⟨_,rfl⟩
 rw [← i] at O
 replace g:=cC i g
 have H:=sG b c
 rw [← i] at H
 obtain rfl:=O
 refine aO rfl (?_)
 have P:=d.aD
 refine hH g (fun K5 g=>?_) (fun K5 g=>?_)
 ·exact g _ _ ((aR.trans e).trans d) ⟨_,_,rfl,⟨rfl,(show In .i64 (0:Int) by decide)⟩,⟨rfl,(show In .i64 (2:Int) by decide)⟩⟩
 have Lj:=H K5
 have a:=(a.B d)
 refine aI a (w _ _) rfl (aO rfl ?_)
 refine aI a (w _ _) rfl (k rfl ?_)
 refine bF (fN.aY (f.aD (h.trans P)) rfl) fun v Lk ⟨j,O⟩=>?_
 obtain⟨K6,l⟩:∃ z,z=b5 (eV (b,c)):=⟨_,rfl⟩
 rw [← l] at O
 replace g:=cC l g
 have K9:=jU b ((f.aD (h.trans P))).words
 rw [← l] at K9
 obtain⟨Ll,Lm,rfl,La⟩:=O
 refine bZ rfl (aM (aO rfl (aM (k rfl (bP (?_))))))
 have Ln:=j.aD
 refine bF (n1.aY La.rd rfl) fun v Lo ⟨m,O⟩=>?_
 obtain⟨Lp,K7⟩:∃ z,z=vN (bL (K6.1,K6.2)):=⟨_,rfl⟩
 rw [← K7] at O
 replace g:=cC K7 g
 obtain⟨_,_,rfl,⟨rfl,Lb⟩,rfl⟩:=O
 refine dP rfl (aM (bI rfl (aM (aO rfl (bP (?_))))))
 have Lq:=m.aD
 refine hH g (fun Lc g=>?_) (fun Lc g=>?_)
 ·exact g _ _ ((((aR.trans e).trans d).trans j).trans m) ⟨_,_,rfl,⟨rfl,(show In .i64 (0:Int) by decide)⟩,⟨rfl,(show In .i64 (5:Int) by decide)⟩⟩
 exact g _ _ ((((aR.trans e).trans d).trans j).trans m) ⟨_,_,rfl,⟨rfl,Lb⟩,⟨rfl,(show In .i64 (0:Int) by decide)⟩⟩
def v(a:Bool)(b:List Nat):(Int × Int):=F.v a b
theorem aU{Z:V}{a:Bool}{b:U}{c d:Nat}{e:List Nat}(f:bJ Z b c e)(g:d=e.length):aF id #[.agg #[.bool a,.slice b d c]] Z fun b c=>a4 Z c∧(s2 (c3 .i64) (c3 .i64)) Z c b (v a e):=
 ok (F.aU (a4.refl _) f g fun v A M O=>⟨M,O⟩)
end oU
namespace oV
def F.v(a:Bool)(b:List Nat):Int:=
 bY (b5 (eV (a,b))) fun a=>
 (gA (bL (a.1,a.2)) 0)
theorem F.aU{Y:K}{aB Z:V}(aR:a4 aB Z){a:Bool}{e:U}{f h:Nat}{b:List Nat}(i:bJ Z e f b)(E:h=b.length)(g:dS (c3 .i64) aB Y (F.v a b)):F.t Y a e h f Z:=by
 subst E
 have K5:(D.aE 0).length=0:=by simp [D.dM]
 unfold F.v at g
 unfold F.t
 refine cK fun K6 c j=>?_
 have K7:=aR.le
 have K8:=c.lt
 have l:=j.aD
 refine aI c (w _ _) rfl (aO rfl ?_)
 refine aI c (w _ _) rfl (k rfl ?_)
 refine bF (fN.aY (i.aD (l)) rfl) fun v K9 ⟨m,O⟩=>?_
 obtain⟨La,d⟩:∃ z,z=b5 (eV (a,b)):=⟨_,rfl⟩
 rw [← d] at O
 replace g:=cC d g
 have G:=jU a ((i.aD (l))).words
 rw [← d] at G
 obtain⟨Lb,Lc,rfl,H⟩:=O
 refine bZ rfl (aM (aO rfl (aM (k rfl (bP (?_))))))
 have Ld:=m.aD
 refine bF (jV.aY H.rd rfl) fun v Le ⟨n,O⟩=>?_
 obtain⟨rfl,P⟩:=O
 refine bI rfl (?_)
 have Lf:=n.aD
 exact g _ _ (((aR.trans j).trans m).trans n) ⟨rfl,P⟩
def v(a:Bool)(b:List Nat):Int:=F.v a b
theorem aU{Z:V}{a:Bool}{b:U}{c d:Nat}{e:List Nat}(f:bJ Z b c e)(g:d=e.length):aF id #[.agg #[.bool a,.slice b d c]] Z fun b c=>a4 Z c∧(c3 .i64) Z c b (v a e):=
 ok (F.aU (a4.refl _) f g fun v A M O=>⟨M,O⟩)
end oV
theorem IT{a N:Int}(aP:N ≠ 0):gY (-a) (-N)=gY a N:=by
 rw [Ic]
 unfold gY
 rw [tX,Int.natAbs_neg]
 have:decide (-N < 0)=!decide (N < 0):=by
  by_cases b:N < 0
  ·simp [b];omega
  ·simp [b];omega
 rw [this];congr 1
 cases decide (a < 0) <;> cases decide (N < 0) <;> rfl
theorem IU(N L:Bool)(aL bA:Nat):n2.v N aL L bA=qO (bL (N,aL)) (bL (L,bA)):=by
 unfold n2.v n2.F.v n2.aC.v
 simp only [bY,lO]
 cases L
 ·rw [cond_false]
  have Z:¬ bL (false,bA) < 0:=by rw [k3];unfold cE;simp
  show lM (bL (N,aL)) (bL (false,bA))=_
  unfold lM qO;rw [if_neg Z]
 ·rw [cond_true]
  have Z:¬ -bL (true,bA) < 0:=by rw [k3];unfold cE;simp
  show lM (-bL (N,aL)) (-bL (true,bA))=_
  unfold lM qO;rw [if_neg Z]
  by_cases aB:bL (true,bA)=0
  ·rw [if_pos (by omega),if_pos aB]
  ·rw [if_neg (by omega),if_neg aB,IT aB]
theorem IV(a:Int):gY a 1=a:=by have:=Ie a 0;simpa using this
theorem IW(N:Bool)(aL:Nat)(M:Int):oS.v N aL M=b5 (gY (bL (N,aL)) (2 ^ M.toNat)):=by
 unfold oS.v oS.F.v
 simp only [bY,lO]
 by_cases a:M≤0
 ·simp only [a,decide_true,cond_true]
  rw [show M.toNat=0 by omega,Int.pow_zero,IV];rfl
 ·simp only [a,decide_false,cond_false]
  by_cases aP:M > ((eU aL:Nat):Int)
  ·simp only [aP,decide_true,cond_true]
   have b:2*aL < 2 ^ M.toNat:=by
    obtain⟨m,c⟩:∃ m,M.toNat=m+1:=⟨M.toNat - 1,by omega⟩
    have:aL < 2 ^ m:=j6.mp (by omega)
    rw [c,Nat.pow_succ];omega
   have:gY (bL (N,aL)) (2 ^ M.toNat)=0:=by
    unfold gY
    rw [kF,sE,kO,HD b,lJ]
   rw [this];rfl
  ·simp only [aP,decide_false,cond_false]
   have d:=DQ M.toNat
   have J:cE false (2 ^ M.toNat)=(2:Int) ^ M.toNat:=(sE _).symm
   rw [J]
   show lM (bL (N,aL)) (2 ^ M.toNat)=_
   unfold lM
   rw [if_neg (by omega),if_neg (by omega)]
theorem IX(N:Bool)(T:List Nat):oT.v N T=oJ (N,T):=by
 unfold oT.v oT.F.v oJ
 simp only [bY,lO]
 by_cases a9:eJ (N,T)
 ·simp only [a9,decide_true,Bool.not_true,cond_false,if_true]
 ·simp only [a9,decide_false,Bool.not_false,cond_true,if_false];rfl
theorem IY(N L:Bool)(T u:List Nat):n3.v N T L u=qL (N,T) (L,u):=by
 unfold n3.v n3.F.v n3.aC.v qL
 simp only [bY,lO]
 by_cases a9:eJ (N,T)
 ·by_cases a:eJ (L,u)
  ·simp only [a9,a,decide_true,Bool.not_true,cond_false,and_self,if_true]
  ·simp only [a9,a,decide_true,decide_false,Bool.not_true,Bool.not_false,cond_false,cond_true,and_false,if_false]
 ·simp only [a9,decide_false,Bool.not_false,cond_true,false_and,if_false]
theorem IZ(N:Bool)(T:List Nat):oU.v N T=nA (N,T):=by
 unfold oU.v oU.F.v nA
 simp only [bY,lO]
 by_cases a9:eJ (N,T)
 ·simp only [a9,decide_true,Bool.not_true,cond_false,if_true]
  unfold vN
  split
  ·rename_i Z;rfl
  ·rename_i Z;rfl
 ·simp only [a9,decide_false,Bool.not_false,cond_true,if_false]
theorem I0(N:Bool)(T:List Nat):oV.v N T=gA (eV (N,T)) 0:=by
 unfold oV.v oV.F.v
 simp only [bY,lO]
section
variable {a N:U} {L bH l m aL bA:Nat} {T u:List Nat} {Z:V} {I aN:Int} {z o:Bool}
theorem n2.aY(s:cB b2 Z a L (D.aE aL))(J:l=(D.aE aL).length)(O:cB b2 Z N bH (D.aE bA))(a9:m=(D.aE bA).length)(b:(D.aE aL).length≤150000)(c:(D.aE bA).length≤150000):aF n2.id #[.agg #[.bool z,.slice a l L],.agg #[.bool o,.slice N m bH]] Z fun v A=>a4 Z A∧fC Z A v (qO (bL (z,aL)) (bL (o,bA))):=by rw [← IU];exact n2.aU s J b O a9 c
theorem oS.aY(s:cB b2 Z a L (D.aE aL))(J:l=(D.aE aL).length)(Q:In .i64 I)(b:(D.aE aL).length≤100000):aF oS.id #[.agg #[.bool z,.slice a l L],.int .i64 I] Z fun v A=>a4 Z A∧fC Z A v (b5 (gY (bL (z,aL)) (2 ^ I.toNat))):=by rw [← IW];exact oS.aU s J b Q
theorem oT.aY(s:bJ Z a L T)(J:l=T.length):aF oT.id #[.agg #[.bool z,.slice a l L]] Z fun v A=>a4 Z A∧s2 dZ (c3 .i64) Z A v (oJ (z,T)):=by rw [← IX];exact oT.aU s J
theorem n3.aY(s:bJ Z a L T)(J:l=T.length)(O:bJ Z N bH u)(a9:m=u.length):aF n3.id #[.agg #[.bool z,.slice a l L],.agg #[.bool o,.slice N m bH]] Z fun v A=>a4 Z A∧s2 (c3 .i64) (c3 .i64) Z A v (qL (z,T) (o,u)):=by rw [← IY];exact n3.aU s J O a9
theorem oU.aY(s:bJ Z a L T)(J:l=T.length):aF oU.id #[.agg #[.bool z,.slice a l L]] Z fun v A=>a4 Z A∧s2 (c3 .i64) (c3 .i64) Z A v (nA (z,T)):=by rw [← IZ];exact oU.aU s J
theorem oV.aY(s:bJ Z a L T)(J:l=T.length):aF oV.id #[.agg #[.bool z,.slice a l L]] Z fun v A=>a4 Z A∧c3 .i64 Z A v (gA (eV (z,T)) 0):=by rw [← I0];exact oV.aU s J
end
namespace h3
def cA.v(a3:Int)(a:Bool)(a:List Nat)(a:Bool)(b:Nat)(c:Bool)(d:Nat):((Bool × List Nat) × Int):=
 bif (a3 == (0:Int)) then
  bY (b5 (bL (a,b)+bL (c,d))) fun e=>
  bY (fP (bL (e.1,e.2))) fun e=>
  ((e.1.1,e.1.2),e.2)
 else
  bif (a3 == (1:Int)) then
   bY (b5 (bL (a,b) - bL (c,d))) fun e=>
   bY (fP (bL (e.1,e.2))) fun e=>
   ((e.1.1,e.1.2),e.2)
  else
   bif (a3 == (2:Int)) then
    bY (b5 (bL (a,b)*bL (c,d))) fun e=>
    bY (fP (bL (e.1,e.2))) fun e=>
    ((e.1.1,e.1.2),e.2)
   else
    bif (a3 == (3:Int)) then
     bY (b5 (e4 (bL (a,b)) (bL (c,d)))) fun e=>
     bY (fP (bL (e.1,e.2))) fun e=>
     ((e.1.1,e.1.2),e.2)
    else
     bif (a3 == (4:Int)) then
      bY (b5 (iL (bL (a,b)) (bL (c,d)))) fun e=>
      bY (fP (bL (e.1,e.2))) fun e=>
      ((e.1.1,e.1.2),e.2)
     else
      bif (a3 == (5:Int)) then
       bY (qO (bL (a,b)) (bL (c,d))) fun e=>
       bY (fP (bL (e.1,e.2))) fun e=>
       ((e.1.1,e.1.2),e.2)
      else
       bY (b5 (iV (bL (a,b)) (bL (c,d)))) fun a=>
       bY (fP (bL (a.1,a.2))) fun a=>
       ((a.1.1,a.1.2),a.2)
theorem cA.aU{Y:K}{aB Z:V}(aR:a4 aB Z){a3:Int}(Me:In .i64 a3){Lj:Bool}{Lk:U}{Ll:Nat}{Lb:List Nat}(Mf:cN dQ aB Z Lk Ll Lb){eP:Nat}(a:cR Z eP [.bool Lj,.slice Lk Lb.length Ll])(l:aB.size≤eP){f:Bool}{Lm:U}{Ln:Nat}{d:Nat}(H:cN b2 aB Z Lm Ln (D.aE d))(Mg:(D.aE d).length≤20000){n4:Nat}(i:cR Z n4 [.bool f,.slice Lm (D.aE d).length Ln])(Mh:aB.size≤n4){h:Bool}{Lo:U}{Lp:Nat}{e:Nat}(P:cN b2 aB Z Lo Lp (D.aE e))(Mi:(D.aE e).length≤20000){lP:Nat}(j:cR Z lP [.bool h,.slice Lo (D.aE e).length Lp])(Mj:aB.size≤lP)(Mk:eP ≠ n4)(Ml:eP ≠ lP)(Mm:n4 ≠ lP)(g:dS (s2 dZ (c3 .i64)) aB Y (cA.v a3 Lj Lb f d h e)):cA.t Y a3 (⟨eP,0,none⟩:Addr) (⟨n4,0,none⟩:Addr) (⟨lP,0,none⟩:Addr) Z:=by
 have Mn:=a.lt
 have Mo:=i.lt
 have Mp:=j.lt
 have Mq:(D.aE 0).length=0:=by simp [D.dM]
 unfold cA.v at g
 unfold cA.t
 refine fB g (fun LF g=>?_) (fun LF g=>?_)
 ·refine aI i (w _ _) rfl (aO rfl ?_)
  refine aI i (w _ _) rfl (k rfl ?_)
  refine aI j (w _ _) rfl (aO rfl ?_)
  refine aI j (w _ _) rfl (k rfl ?_)
  refine bF (k2.aY H.rd rfl P.rd rfl (by first | assumption | decide | omega) (by first | assumption | decide | omega)) fun v K5 ⟨b,O⟩=>?_
  obtain⟨Lq,Lc⟩:∃ z,z=b5 (bL (f,d)+bL (h,e)):=⟨_,rfl⟩
  rw [← Lc] at O
  replace g:=cC Lc g
  have LG:=y1 f d h e
  rw [← Lc] at LG
  obtain⟨Mr,Ms,rfl,LH⟩:=O
  refine bZ rfl (aM (aO rfl (aM (k rfl (bP (?_))))))
  have K6:=b.aD
  refine bF (gZ.aY LH.rd rfl) fun v K7 ⟨c,O⟩=>?_
  obtain⟨Mt,Lr⟩:∃ z,z=fP (bL (Lq.1,Lq.2)):=⟨_,rfl⟩
  rw [← Lr] at O
  replace g:=cC Lr g
  obtain⟨_,_,rfl,⟨Mu,Mv,rfl,LI⟩,⟨rfl,LJ⟩⟩:=O
  refine dP rfl (aM (bZ rfl (aM (aO rfl (aM (k rfl (bP (aM (bI rfl (bP (?_)))))))))))
  have K8:=c.aD
  have a:=((a.B b).B c)
  refine bK a (w _ _) rfl fun K9 a m n=>?_
  refine bK a (w _ _) rfl fun La a E G=>?_
  refine aI a (w _ _) rfl (aO rfl ?_)
  refine aI a (w _ _) rfl (k rfl ?_)
  exact g _ _ (a1.B (a1.B ((aR.trans b).trans c) m l) E l) ⟨_,_,rfl,⟨_,_,rfl,((LI.aD (n.trans G)).from (aR.trans b).le)⟩,⟨rfl,LJ⟩⟩
 refine fB g (fun LK g=>?_) (fun LK g=>?_)
 ·refine aI i (w _ _) rfl (aO rfl ?_)
  refine aI i (w _ _) rfl (k rfl ?_)
  refine aI j (w _ _) rfl (aO rfl ?_)
  refine aI j (w _ _) rfl (k rfl ?_)
  refine bF (k4.aY H.rd rfl P.rd rfl (by first | assumption | decide | omega) (by first | assumption | decide | omega)) fun v K5 ⟨b,O⟩=>?_
  obtain⟨Ls,Ld⟩:∃ z,z=b5 (bL (f,d) - bL (h,e)):=⟨_,rfl⟩
  rw [← Ld] at O
  replace g:=cC Ld g
  have LL:=y2 f d h e
  rw [← Ld] at LL
  obtain⟨Mw,Mx,rfl,LM⟩:=O
  refine bZ rfl (aM (aO rfl (aM (k rfl (bP (?_))))))
  have K6:=b.aD
  refine bF (gZ.aY LM.rd rfl) fun v K7 ⟨c,O⟩=>?_
  obtain⟨My,Lt⟩:∃ z,z=fP (bL (Ls.1,Ls.2)):=⟨_,rfl⟩
  rw [← Lt] at O
  replace g:=cC Lt g
  obtain⟨_,_,rfl,⟨Mz,MA,rfl,LN⟩,⟨rfl,LO⟩⟩:=O
  refine dP rfl (aM (bZ rfl (aM (aO rfl (aM (k rfl (bP (aM (bI rfl (bP (?_)))))))))))
  have K8:=c.aD
  have a:=((a.B b).B c)
  refine bK a (w _ _) rfl fun K9 a m n=>?_
  refine bK a (w _ _) rfl fun La a E G=>?_
  refine aI a (w _ _) rfl (aO rfl ?_)
  refine aI a (w _ _) rfl (k rfl ?_)
  exact g _ _ (a1.B (a1.B ((aR.trans b).trans c) m l) E l) ⟨_,_,rfl,⟨_,_,rfl,((LN.aD (n.trans G)).from (aR.trans b).le)⟩,⟨rfl,LO⟩⟩
 refine fB g (fun LP g=>?_) (fun LP g=>?_)
 ·refine aI i (w _ _) rfl (aO rfl ?_)
  refine aI i (w _ _) rfl (k rfl ?_)
  refine aI j (w _ _) rfl (aO rfl ?_)
  refine aI j (w _ _) rfl (k rfl ?_)
  refine bF (oN.aY H.rd rfl P.rd rfl (by first | assumption | decide | omega) (by first | assumption | decide | omega)) fun v K5 ⟨b,O⟩=>?_
  obtain⟨Lu,Le⟩:∃ z,z=b5 (bL (f,d)*bL (h,e)):=⟨_,rfl⟩
  rw [← Le] at O
  replace g:=cC Le g
  have LQ:=DT f d h e
  rw [← Le] at LQ
  obtain⟨MB,MC,rfl,LR⟩:=O
  refine bZ rfl (aM (aO rfl (aM (k rfl (bP (?_))))))
  have K6:=b.aD
  refine bF (gZ.aY LR.rd rfl) fun v K7 ⟨c,O⟩=>?_
  obtain⟨MD,Lv⟩:∃ z,z=fP (bL (Lu.1,Lu.2)):=⟨_,rfl⟩
  rw [← Lv] at O
  replace g:=cC Lv g
  obtain⟨_,_,rfl,⟨ME,MF,rfl,LS⟩,⟨rfl,LU⟩⟩:=O
  refine dP rfl (aM (bZ rfl (aM (aO rfl (aM (k rfl (bP (aM (bI rfl (bP (?_)))))))))))
  have K8:=c.aD
  have a:=((a.B b).B c)
  refine bK a (w _ _) rfl fun K9 a m n=>?_
  refine bK a (w _ _) rfl fun La a E G=>?_
  refine aI a (w _ _) rfl (aO rfl ?_)
  refine aI a (w _ _) rfl (k rfl ?_)
  exact g _ _ (a1.B (a1.B ((aR.trans b).trans c) m l) E l) ⟨_,_,rfl,⟨_,_,rfl,((LS.aD (n.trans G)).from (aR.trans b).le)⟩,⟨rfl,LU⟩⟩
 refine fB g (fun LV g=>?_) (fun LV g=>?_)
 ·refine aI i (w _ _) rfl (aO rfl ?_)
  refine aI i (w _ _) rfl (k rfl ?_)
  refine aI j (w _ _) rfl (aO rfl ?_)
  refine aI j (w _ _) rfl (k rfl ?_)
  refine bF (lN.aY H.rd rfl P.rd rfl (by first | assumption | decide | omega) (by first | assumption | decide | omega)) fun v K5 ⟨b,O⟩=>?_
  obtain⟨Lw,Lf⟩:∃ z,z=b5 (e4 (bL (f,d)) (bL (h,e))):=⟨_,rfl⟩
  rw [← Lf] at O
  replace g:=cC Lf g
  have LW:=A1 f d h e
  rw [← Lf] at LW
  obtain⟨MG,MH,rfl,LX⟩:=O
  refine bZ rfl (aM (aO rfl (aM (k rfl (bP (?_))))))
  have K6:=b.aD
  refine bF (gZ.aY LX.rd rfl) fun v K7 ⟨c,O⟩=>?_
  obtain⟨MI,Lx⟩:∃ z,z=fP (bL (Lw.1,Lw.2)):=⟨_,rfl⟩
  rw [← Lx] at O
  replace g:=cC Lx g
  obtain⟨_,_,rfl,⟨MJ,MK,rfl,LY⟩,⟨rfl,LZ⟩⟩:=O
  refine dP rfl (aM (bZ rfl (aM (aO rfl (aM (k rfl (bP (aM (bI rfl (bP (?_)))))))))))
  have K8:=c.aD
  have a:=((a.B b).B c)
  refine bK a (w _ _) rfl fun K9 a m n=>?_
  refine bK a (w _ _) rfl fun La a E G=>?_
  refine aI a (w _ _) rfl (aO rfl ?_)
  refine aI a (w _ _) rfl (k rfl ?_)
  exact g _ _ (a1.B (a1.B ((aR.trans b).trans c) m l) E l) ⟨_,_,rfl,⟨_,_,rfl,((LY.aD (n.trans G)).from (aR.trans b).le)⟩,⟨rfl,LZ⟩⟩
 refine fB g (fun L0 g=>?_) (fun L0 g=>?_)
 ·refine aI i (w _ _) rfl (aO rfl ?_)
  refine aI i (w _ _) rfl (k rfl ?_)
  refine aI j (w _ _) rfl (aO rfl ?_)
  refine aI j (w _ _) rfl (k rfl ?_)
  refine bF (oP.aY H.rd rfl P.rd rfl (by first | assumption | decide | omega) (by first | assumption | decide | omega)) fun v K5 ⟨b,O⟩=>?_
  obtain⟨Ly,Lg⟩:∃ z,z=b5 (iL (bL (f,d)) (bL (h,e))):=⟨_,rfl⟩
  rw [← Lg] at O
  replace g:=cC Lg g
  have L1:=Ir f d h e
  rw [← Lg] at L1
  obtain⟨ML,MM,rfl,L2⟩:=O
  refine bZ rfl (aM (aO rfl (aM (k rfl (bP (?_))))))
  have K6:=b.aD
  refine bF (gZ.aY L2.rd rfl) fun v K7 ⟨c,O⟩=>?_
  obtain⟨MN,Lz⟩:∃ z,z=fP (bL (Ly.1,Ly.2)):=⟨_,rfl⟩
  rw [← Lz] at O
  replace g:=cC Lz g
  obtain⟨_,_,rfl,⟨MO,MP,rfl,L3⟩,⟨rfl,L4⟩⟩:=O
  refine dP rfl (aM (bZ rfl (aM (aO rfl (aM (k rfl (bP (aM (bI rfl (bP (?_)))))))))))
  have K8:=c.aD
  have a:=((a.B b).B c)
  refine bK a (w _ _) rfl fun K9 a m n=>?_
  refine bK a (w _ _) rfl fun La a E G=>?_
  refine aI a (w _ _) rfl (aO rfl ?_)
  refine aI a (w _ _) rfl (k rfl ?_)
  exact g _ _ (a1.B (a1.B ((aR.trans b).trans c) m l) E l) ⟨_,_,rfl,⟨_,_,rfl,((L3.aD (n.trans G)).from (aR.trans b).le)⟩,⟨rfl,L4⟩⟩
 refine fB g (fun L5 g=>?_) (fun L5 g=>?_)
 ·refine aI i (w _ _) rfl (aO rfl ?_)
  refine aI i (w _ _) rfl (k rfl ?_)
  refine aI j (w _ _) rfl (aO rfl ?_)
  refine aI j (w _ _) rfl (k rfl ?_)
  refine bF (n2.aY H.rd rfl P.rd rfl (by first | assumption | decide | omega) (by first | assumption | decide | omega)) fun v K5 ⟨b,O⟩=>?_
  obtain⟨LA,Lh⟩:∃ z,z=qO (bL (f,d)) (bL (h,e)):=⟨_,rfl⟩
  rw [← Lh] at O
  replace g:=cC Lh g
  have L6:=Iq f d h e
  rw [← Lh] at L6
  obtain⟨MQ,MR,rfl,L7⟩:=O
  refine bZ rfl (aM (aO rfl (aM (k rfl (bP (?_))))))
  have K6:=b.aD
  refine bF (gZ.aY L7.rd rfl) fun v K7 ⟨c,O⟩=>?_
  obtain⟨MS,LB⟩:∃ z,z=fP (bL (LA.1,LA.2)):=⟨_,rfl⟩
  rw [← LB] at O
  replace g:=cC LB g
  obtain⟨_,_,rfl,⟨MT,MU,rfl,L8⟩,⟨rfl,L9⟩⟩:=O
  refine dP rfl (aM (bZ rfl (aM (aO rfl (aM (k rfl (bP (aM (bI rfl (bP (?_)))))))))))
  have K8:=c.aD
  have a:=((a.B b).B c)
  refine bK a (w _ _) rfl fun K9 a m n=>?_
  refine bK a (w _ _) rfl fun La a E G=>?_
  refine aI a (w _ _) rfl (aO rfl ?_)
  refine aI a (w _ _) rfl (k rfl ?_)
  exact g _ _ (a1.B (a1.B ((aR.trans b).trans c) m l) E l) ⟨_,_,rfl,⟨_,_,rfl,((L8.aD (n.trans G)).from (aR.trans b).le)⟩,⟨rfl,L9⟩⟩
 refine aI i (w _ _) rfl (aO rfl ?_)
 refine aI i (w _ _) rfl (k rfl ?_)
 refine aI j (w _ _) rfl (aO rfl ?_)
 refine aI j (w _ _) rfl (k rfl ?_)
 refine bF (oQ.aY H.rd rfl P.rd rfl (by first | assumption | decide | omega) (by first | assumption | decide | omega)) fun v K5 ⟨b,O⟩=>?_
 obtain⟨LC,Li⟩:∃ z,z=b5 (iV (bL (f,d)) (bL (h,e))):=⟨_,rfl⟩
 rw [← Li] at O
 replace g:=cC Li g
 have Ma:=Is f d h e
 rw [← Li] at Ma
 obtain⟨MV,MW,rfl,Mb⟩:=O
 refine bZ rfl (aM (aO rfl (aM (k rfl (bP (?_))))))
 have K6:=b.aD
 refine bF (gZ.aY Mb.rd rfl) fun v K7 ⟨c,O⟩=>?_
 obtain⟨MX,LD⟩:∃ z,z=fP (bL (LC.1,LC.2)):=⟨_,rfl⟩
 rw [← LD] at O
 replace g:=cC LD g
 obtain⟨_,_,rfl,⟨MY,MZ,rfl,Mc⟩,⟨rfl,Md⟩⟩:=O
 refine dP rfl (aM (bZ rfl (aM (aO rfl (aM (k rfl (bP (aM (bI rfl (bP (?_)))))))))))
 have K8:=c.aD
 have a:=((a.B b).B c)
 refine bK a (w _ _) rfl fun K9 a m n=>?_
 refine bK a (w _ _) rfl fun La a E G=>?_
 refine aI a (w _ _) rfl (aO rfl ?_)
 refine aI a (w _ _) rfl (k rfl ?_)
 exact g _ _ (a1.B (a1.B ((aR.trans b).trans c) m l) E l) ⟨_,_,rfl,⟨_,_,rfl,((Mc.aD (n.trans G)).from (aR.trans b).le)⟩,⟨rfl,Md⟩⟩
def a7.v(a3:Int)(a:Bool)(b:List Nat)(c:Bool)(d:Nat)(e:Bool)(f:Nat):((Bool × List Nat) × Int):=
 bif (decide (a3≥(3:Int))) then
  bif (((gA (bL (e,f)) 0)) == (0:Int)) then
   ((false,([]:List Nat)),(4:Int))
  else
   cA.v a3 a b c d e f
 else
  cA.v a3 a b c d e f
theorem a7.aU{Y:K}{aB Z:V}(aR:a4 aB Z){a3:Int}(m:In .i64 a3){n:Bool}{E:U}{G:Nat}{i:List Nat}(H:cN dQ aB Z E G i){eP:Nat}(a:cR Z eP [.bool n,.slice E i.length G])(e:aB.size≤eP){P:Bool}{K5:U}{K6:Nat}{f:Nat}(K7:cN b2 aB Z K5 K6 (D.aE f))(Lk:(D.aE f).length≤20000){n4:Nat}(d:cR Z n4 [.bool P,.slice K5 (D.aE f).length K6])(K8:aB.size≤n4){K9:Bool}{La:U}{Lb:Nat}{h:Nat}(j:cN b2 aB Z La Lb (D.aE h))(Ll:(D.aE h).length≤20000){lP:Nat}(b:cR Z lP [.bool K9,.slice La (D.aE h).length Lb])(Lc:aB.size≤lP)(Ld:eP ≠ n4)(Le:eP ≠ lP)(Lf:n4 ≠ lP)(g:dS (s2 dZ (c3 .i64)) aB Y (a7.v a3 n i P f K9 h)):a7.t Y a3 (⟨eP,0,none⟩:Addr) (⟨n4,0,none⟩:Addr) (⟨lP,0,none⟩:Addr) Z:=by
 have Lm:=a.lt
 have Ln:=d.lt
 have Lo:=b.lt
 have Lp:(D.aE 0).length=0:=by simp [D.dM]
 unfold a7.v at g
 unfold a7.t
 refine jC g (fun Lg g=>?_) (fun Lg g=>?_)
 ·refine aI b (w _ _) rfl (aO rfl ?_)
  refine aI b (w _ _) rfl (k rfl ?_)
  refine bF (jV.aY j.rd rfl) fun v Lq ⟨c,O⟩=>?_
  obtain⟨rfl,Lr⟩:=O
  refine bI rfl (?_)
  have l:=c.aD
  refine fB g (fun Lh g=>?_) (fun Lh g=>?_)
  ·have a:=(a.B c)
   refine bK a (w _ _) rfl fun Ls a Li Lt=>?_
   refine bK a (w _ _) rfl fun Lu a Lj Lv=>?_
   refine aI a (w _ _) rfl (aO rfl ?_)
   refine aI a (w _ _) rfl (k rfl ?_)
   exact g _ _ (a1.B (a1.B (aR.trans c) Li e) Lj e) ⟨_,_,rfl,⟨_,_,rfl,(cN.nil _ _)⟩,⟨rfl,(show In .i64 (4:Int) by decide)⟩⟩
  have a:=(a.B c)
  have d:=(d.B c)
  have b:=(b.B c)
  exact cA.aU (aR.trans c) m (H.aD (l)) a e (K7.aD (l)) (by first | assumption | decide | omega) d K8 (j.aD (l)) (by first | assumption | decide | omega) b Lc Ld Le Lf g
 exact cA.aU aR m H a e K7 (by first | assumption | decide | omega) d K8 j (by first | assumption | decide | omega) b Lc Ld Le Lf g
def aC.v(a3:Int)(a:Bool)(b:List Nat)(c:Bool)(d:List Nat)(e:Bool)(f:List Nat):((Bool × List Nat) × Int):=
 bY (b5 (eV (a,b))) fun a=>
 bY (b5 (eV (c,d))) fun b=>
 a7.v a3 e f a.1 a.2 b.1 b.2
theorem aC.aU{Y:K}{aB Z:V}(aR:a4 aB Z){a3:Int}(Lj:In .i64 a3){Lk:Bool}{Mq:U}{Mr:Nat}{LJ:List Nat}(Lv:bJ Z Mq Mr LJ){dT:Nat}(LS:cR Z dT [.bool Lk,.slice Mq LJ.length Mr])(M4:aB.size≤dT){K8:Bool}{Ms:U}{Mt:Nat}{Lg:List Nat}(Lb:bJ Z Ms Mt Lg){gT:Nat}(LU:cR Z gT [.bool K8,.slice Ms Lg.length Mt])(M5:aB.size≤gT){Mu:Bool}{Mv:U}{Mw:Nat}{LV:List Nat}(Ll:cN dQ aB Z Mv Mw LV){eP:Nat}(K6:cR Z eP [.bool Mu,.slice Mv LV.length Mw])(Lm:aB.size≤eP)(M6:dT ≠ gT)(M7:dT ≠ eP)(M8:gT ≠ eP)(M9:LJ.length≤8192)(Na:Lg.length≤8192)(g:dS (s2 dZ (c3 .i64)) aB Y (aC.v a3 Lk LJ K8 Lg Mu LV)):aC.t Y a3 (⟨dT,0,none⟩:Addr) (⟨gT,0,none⟩:Addr) (⟨eP,0,none⟩:Addr) Z:=by
 have MA:=LS.lt
 have MB:=LU.lt
 have h:=K6.lt
 have Nb:(D.aE 0).length=0:=by simp [D.dM]
 unfold aC.v at g
 unfold aC.t
 refine⟨eY rfl (MA),?_⟩
 refine aI LS (w _ _) rfl (aO rfl ?_)
 refine aI LS (w _ _) rfl (k rfl ?_)
 refine⟨eY rfl (MB),?_⟩
 refine aI LU (w _ _) rfl (aO rfl ?_)
 refine aI LU (w _ _) rfl (k rfl ?_)
 refine⟨?_,?_,?_⟩
 ·refine bF (fN.aY Lv rfl) fun v LM ⟨i,O⟩=>?_
  obtain⟨Nc,LW⟩:∃ z,z=b5 (eV (Lk,LJ)):=⟨_,rfl⟩
  rw [← LW] at O
  replace g:=cC LW g
  have MC:=jU Lk (Lv).words
  rw [← LW] at MC
  obtain⟨Nd,Nf,rfl,LN⟩:=O
  refine bZ rfl (aM (aO rfl (aM (k rfl (bP (?_))))))
  have a:=i.aD
  refine⟨i.c1 (Nat.le_refl _),?_⟩
  refine⟨?_,?_,?_⟩
  ·refine bF (fN.aY (Lb.aD (a)) rfl) fun v Lf ⟨f,O⟩=>?_
   obtain⟨Ng,LX⟩:∃ z,z=b5 (eV (K8,Lg)):=⟨_,rfl⟩
   rw [← LX] at O
   replace g:=cC LX g
   have MD:=jU K8 ((Lb.aD (a))).words
   rw [← LX] at MD
   obtain⟨Nh,Ni,rfl,Mx⟩:=O
   refine bZ rfl (aM (aO rfl (aM (k rfl (bP (?_))))))
   have b:=f.aD
   refine⟨f.c1 (a).le,?_⟩
   refine⟨?_,?_⟩
   ·refine cK fun La Ln d=>?_
    have Ln:cR La (Lf.size) [.bool false,.slice none (D.aE 0).length 0]:=by rw [D.dM];exact Ln
    have LY:=((aR.trans i).trans f).le
    have LQ:=Ln.lt
    have c:=d.aD
    refine⟨d.c1 (a.trans b).le,?_⟩
    refine cK fun Ld Lw e=>?_
    have Lw:cR Ld (La.size) [.bool false,.slice none (D.aE 0).length 0]:=by rw [D.dM];exact Lw
    have LZ:=(((aR.trans i).trans f).trans d).le
    have Nj:=Lw.lt
    have K5:=e.aD
    refine⟨e.c1 (a.trans (b.trans c)).le,?_⟩
    have Ln:=(Ln.B e)
    refine bK Ln (w _ _) rfl fun Lr Ln j l=>?_
    refine bK Ln (w _ _) rfl fun Ls Ln m n=>?_
    have Lw:=((Lw.bT (Ne.symm (Nat.ne_of_lt LQ)) j).bT (Ne.symm (Nat.ne_of_lt LQ)) m)
    refine bK Lw (w _ _) rfl fun Lt Lw E G=>?_
    refine bK Lw (w _ _) rfl fun Lu Lw H P=>?_
    have K6:=((((((((K6.B i).B f).B d).B e).bT (Nat.ne_of_lt ((a.trans b).lt h)) j).bT (Nat.ne_of_lt ((a.trans b).lt h)) m).bT (Nat.ne_of_lt ((a.trans (b.trans c)).lt h)) E).bT (Nat.ne_of_lt ((a.trans (b.trans c)).lt h)) H)
    have Ln:=((Ln.bT (Nat.ne_of_lt LQ) E).bT (Nat.ne_of_lt LQ) H)
    exact a7.aU (a1.B (a1.B (a1.B (a1.B ((((aR.trans i).trans f).trans d).trans e) j LY) m LY) E LZ) H LZ) Lj (Ll.aD (a.trans (b.trans (c.trans (K5.trans (l.trans (n.trans (G.trans P)))))))) K6 Lm ((LN.aD (b.trans (c.trans (K5.trans (l.trans (n.trans (G.trans P))))))).from aR.le) (by first | assumption | decide | omega) Ln LY ((Mx.aD (c.trans (K5.trans (l.trans (n.trans (G.trans P)))))).from (aR.trans i).le) (by first | assumption | decide | omega) Lw LZ (Nat.ne_of_lt ((a.trans b).lt h)) (Nat.ne_of_lt ((a.trans (b.trans c)).lt h)) (Nat.ne_of_lt LQ) g
   refine cK fun La Lx d=>?_
   have Lx:cR La (Lf.size) [.bool false,.slice none (D.aE 0).length 0]:=by rw [D.dM];exact Lx
   have L0:=((aR.trans i).trans f).le
   have LR:=Lx.lt
   have c:=d.aD
   refine⟨d.c1 (a.trans b).le,?_⟩
   refine cK fun Ld Ly e=>?_
   have Ly:cR Ld (La.size) [.bool false,.slice none (D.aE 0).length 0]:=by rw [D.dM];exact Ly
   have L1:=(((aR.trans i).trans f).trans d).le
   have Nk:=Ly.lt
   have K5:=e.aD
   refine⟨e.c1 (a.trans (b.trans c)).le,?_⟩
   refine bK Ly (w _ _) rfl fun Lr Ly j l=>?_
   refine bK Ly (w _ _) rfl fun Ls Ly m n=>?_
   have Lx:=(((Lx.B e).bT (Nat.ne_of_lt LR) j).bT (Nat.ne_of_lt LR) m)
   refine bK Lx (w _ _) rfl fun Lt Lx E G=>?_
   refine bK Lx (w _ _) rfl fun Lu Lx H P=>?_
   have K6:=((((((((K6.B i).B f).B d).B e).bT (Nat.ne_of_lt ((a.trans (b.trans c)).lt h)) j).bT (Nat.ne_of_lt ((a.trans (b.trans c)).lt h)) m).bT (Nat.ne_of_lt ((a.trans b).lt h)) E).bT (Nat.ne_of_lt ((a.trans b).lt h)) H)
   have Ly:=((Ly.bT (Ne.symm (Nat.ne_of_lt LR)) E).bT (Ne.symm (Nat.ne_of_lt LR)) H)
   exact a7.aU (a1.B (a1.B (a1.B (a1.B ((((aR.trans i).trans f).trans d).trans e) j L1) m L1) E L0) H L0) Lj (Ll.aD (a.trans (b.trans (c.trans (K5.trans (l.trans (n.trans (G.trans P)))))))) K6 Lm ((LN.aD (b.trans (c.trans (K5.trans (l.trans (n.trans (G.trans P))))))).from aR.le) (by first | assumption | decide | omega) Ly L1 ((Mx.aD (c.trans (K5.trans (l.trans (n.trans (G.trans P)))))).from (aR.trans i).le) (by first | assumption | decide | omega) Lx L0 (Nat.ne_of_lt ((a.trans (b.trans c)).lt h)) (Nat.ne_of_lt ((a.trans b).lt h)) (Ne.symm (Nat.ne_of_lt LR)) g
  ·refine cK fun Lf Lc f=>?_
   have Lc:cR Lf (LM.size) [.bool false,.slice none (D.aE 0).length 0]:=by rw [D.dM];exact Lc
   have LO:=(aR.trans i).le
   have Lz:=Lc.lt
   have b:=f.aD
   refine⟨f.c1 (a).le,?_⟩
   refine⟨?_,?_⟩
   ·refine bF (fN.aY (Lb.aD (a.trans b)) rfl) fun v La ⟨d,O⟩=>?_
    obtain⟨Nl,L2⟩:∃ z,z=b5 (eV (K8,Lg)):=⟨_,rfl⟩
    rw [← L2] at O
    replace g:=cC L2 g
    have ME:=jU K8 ((Lb.aD (a.trans b))).words
    rw [← L2] at ME
    obtain⟨Nm,Nn,rfl,MF⟩:=O
    refine bZ rfl (aM (aO rfl (aM (k rfl (bP (?_))))))
    have c:=d.aD
    refine⟨d.c1 (a.trans b).le,?_⟩
    refine cK fun Ld LA e=>?_
    have LA:cR Ld (La.size) [.bool false,.slice none (D.aE 0).length 0]:=by rw [D.dM];exact LA
    have L3:=(((aR.trans i).trans f).trans d).le
    have No:=LA.lt
    have K5:=e.aD
    refine⟨e.c1 (a.trans (b.trans c)).le,?_⟩
    have Lc:=((Lc.B d).B e)
    refine bK Lc (w _ _) rfl fun Lr Lc j l=>?_
    refine bK Lc (w _ _) rfl fun Ls Lc m n=>?_
    have LA:=((LA.bT (Ne.symm (Nat.ne_of_lt ((c).lt Lz))) j).bT (Ne.symm (Nat.ne_of_lt ((c).lt Lz))) m)
    refine bK LA (w _ _) rfl fun Lt LA E G=>?_
    refine bK LA (w _ _) rfl fun Lu LA H P=>?_
    have K6:=((((((((K6.B i).B f).B d).B e).bT (Nat.ne_of_lt ((a).lt h)) j).bT (Nat.ne_of_lt ((a).lt h)) m).bT (Nat.ne_of_lt ((a.trans (b.trans c)).lt h)) E).bT (Nat.ne_of_lt ((a.trans (b.trans c)).lt h)) H)
    have Lc:=((Lc.bT (Nat.ne_of_lt ((c).lt Lz)) E).bT (Nat.ne_of_lt ((c).lt Lz)) H)
    exact a7.aU (a1.B (a1.B (a1.B (a1.B ((((aR.trans i).trans f).trans d).trans e) j LO) m LO) E L3) H L3) Lj (Ll.aD (a.trans (b.trans (c.trans (K5.trans (l.trans (n.trans (G.trans P)))))))) K6 Lm ((LN.aD (b.trans (c.trans (K5.trans (l.trans (n.trans (G.trans P))))))).from aR.le) (by first | assumption | decide | omega) Lc LO ((MF.aD (K5.trans (l.trans (n.trans (G.trans P))))).from ((aR.trans i).trans f).le) (by first | assumption | decide | omega) LA L3 (Nat.ne_of_lt ((a).lt h)) (Nat.ne_of_lt ((a.trans (b.trans c)).lt h)) (Nat.ne_of_lt ((c).lt Lz)) g
   refine cK fun La LB d=>?_
   have LB:cR La (Lf.size) [.bool false,.slice none (D.aE 0).length 0]:=by rw [D.dM];exact LB
   have L4:=((aR.trans i).trans f).le
   have Np:=LB.lt
   have c:=d.aD
   refine⟨d.c1 (a.trans b).le,?_⟩
   refine bF (fN.aY (Lb.aD (a.trans (b.trans c))) rfl) fun v Ld ⟨e,O⟩=>?_
   obtain⟨Nq,L5⟩:∃ z,z=b5 (eV (K8,Lg)):=⟨_,rfl⟩
   rw [← L5] at O
   replace g:=cC L5 g
   have MG:=jU K8 ((Lb.aD (a.trans (b.trans c)))).words
   rw [← L5] at MG
   obtain⟨Nr,Ns,rfl,MH⟩:=O
   refine bZ rfl (aM (aO rfl (aM (k rfl (bP (?_))))))
   have K5:=e.aD
   refine⟨e.c1 (a.trans (b.trans c)).le,?_⟩
   have Lc:=((Lc.B d).B e)
   refine bK Lc (w _ _) rfl fun Lr Lc j l=>?_
   refine bK Lc (w _ _) rfl fun Ls Lc m n=>?_
   have LB:=(((LB.B e).bT (Ne.symm (Nat.ne_of_lt Lz)) j).bT (Ne.symm (Nat.ne_of_lt Lz)) m)
   refine bK LB (w _ _) rfl fun Lt LB E G=>?_
   refine bK LB (w _ _) rfl fun Lu LB H P=>?_
   have K6:=((((((((K6.B i).B f).B d).B e).bT (Nat.ne_of_lt ((a).lt h)) j).bT (Nat.ne_of_lt ((a).lt h)) m).bT (Nat.ne_of_lt ((a.trans b).lt h)) E).bT (Nat.ne_of_lt ((a.trans b).lt h)) H)
   have Lc:=((Lc.bT (Nat.ne_of_lt Lz) E).bT (Nat.ne_of_lt Lz) H)
   exact a7.aU (a1.B (a1.B (a1.B (a1.B ((((aR.trans i).trans f).trans d).trans e) j LO) m LO) E L4) H L4) Lj (Ll.aD (a.trans (b.trans (c.trans (K5.trans (l.trans (n.trans (G.trans P)))))))) K6 Lm ((LN.aD (b.trans (c.trans (K5.trans (l.trans (n.trans (G.trans P))))))).from aR.le) (by first | assumption | decide | omega) Lc LO ((MH.aD (l.trans (n.trans (G.trans P)))).from (((aR.trans i).trans f).trans d).le) (by first | assumption | decide | omega) LB L4 (Nat.ne_of_lt ((a).lt h)) (Nat.ne_of_lt ((a.trans b).lt h)) (Nat.ne_of_lt Lz) g
  refine cK fun Lf Le f=>?_
  have Le:cR Lf (LM.size) [.bool false,.slice none (D.aE 0).length 0]:=by rw [D.dM];exact Le
  have LP:=(aR.trans i).le
  have LC:=Le.lt
  have b:=f.aD
  refine⟨f.c1 (a).le,?_⟩
  refine⟨?_,?_⟩
  ·refine bF (fN.aY (Lb.aD (a.trans b)) rfl) fun v La ⟨d,O⟩=>?_
   obtain⟨Nt,L6⟩:∃ z,z=b5 (eV (K8,Lg)):=⟨_,rfl⟩
   rw [← L6] at O
   replace g:=cC L6 g
   have MI:=jU K8 ((Lb.aD (a.trans b))).words
   rw [← L6] at MI
   obtain⟨Nu,Nv,rfl,MJ⟩:=O
   refine bZ rfl (aM (aO rfl (aM (k rfl (bP (?_))))))
   have c:=d.aD
   refine⟨d.c1 (a.trans b).le,?_⟩
   refine cK fun Ld LD e=>?_
   have LD:cR Ld (La.size) [.bool false,.slice none (D.aE 0).length 0]:=by rw [D.dM];exact LD
   have L7:=(((aR.trans i).trans f).trans d).le
   have Nw:=LD.lt
   have K5:=e.aD
   refine⟨e.c1 (a.trans (b.trans c)).le,?_⟩
   refine bK LD (w _ _) rfl fun Lr LD j l=>?_
   refine bK LD (w _ _) rfl fun Ls LD m n=>?_
   have Le:=((((Le.B d).B e).bT (Nat.ne_of_lt ((c).lt LC)) j).bT (Nat.ne_of_lt ((c).lt LC)) m)
   refine bK Le (w _ _) rfl fun Lt Le E G=>?_
   refine bK Le (w _ _) rfl fun Lu Le H P=>?_
   have K6:=((((((((K6.B i).B f).B d).B e).bT (Nat.ne_of_lt ((a.trans (b.trans c)).lt h)) j).bT (Nat.ne_of_lt ((a.trans (b.trans c)).lt h)) m).bT (Nat.ne_of_lt ((a).lt h)) E).bT (Nat.ne_of_lt ((a).lt h)) H)
   have LD:=((LD.bT (Ne.symm (Nat.ne_of_lt ((c).lt LC))) E).bT (Ne.symm (Nat.ne_of_lt ((c).lt LC))) H)
   exact a7.aU (a1.B (a1.B (a1.B (a1.B ((((aR.trans i).trans f).trans d).trans e) j L7) m L7) E LP) H LP) Lj (Ll.aD (a.trans (b.trans (c.trans (K5.trans (l.trans (n.trans (G.trans P)))))))) K6 Lm ((LN.aD (b.trans (c.trans (K5.trans (l.trans (n.trans (G.trans P))))))).from aR.le) (by first | assumption | decide | omega) LD L7 ((MJ.aD (K5.trans (l.trans (n.trans (G.trans P))))).from ((aR.trans i).trans f).le) (by first | assumption | decide | omega) Le LP (Nat.ne_of_lt ((a.trans (b.trans c)).lt h)) (Nat.ne_of_lt ((a).lt h)) (Ne.symm (Nat.ne_of_lt ((c).lt LC))) g
  refine cK fun La Lo d=>?_
  have Lo:cR La (Lf.size) [.bool false,.slice none (D.aE 0).length 0]:=by rw [D.dM];exact Lo
  have L8:=((aR.trans i).trans f).le
  have Nx:=Lo.lt
  have c:=d.aD
  refine⟨d.c1 (a.trans b).le,?_⟩
  refine bF (fN.aY (Lb.aD (a.trans (b.trans c))) rfl) fun v Ld ⟨e,O⟩=>?_
  obtain⟨Ny,L9⟩:∃ z,z=b5 (eV (K8,Lg)):=⟨_,rfl⟩
  rw [← L9] at O
  replace g:=cC L9 g
  have MK:=jU K8 ((Lb.aD (a.trans (b.trans c)))).words
  rw [← L9] at MK
  obtain⟨Nz,NA,rfl,ML⟩:=O
  refine bZ rfl (aM (aO rfl (aM (k rfl (bP (?_))))))
  have K5:=e.aD
  refine⟨e.c1 (a.trans (b.trans c)).le,?_⟩
  have Lo:=(Lo.B e)
  refine bK Lo (w _ _) rfl fun Lr Lo j l=>?_
  refine bK Lo (w _ _) rfl fun Ls Lo m n=>?_
  have Le:=((((Le.B d).B e).bT (Nat.ne_of_lt LC) j).bT (Nat.ne_of_lt LC) m)
  refine bK Le (w _ _) rfl fun Lt Le E G=>?_
  refine bK Le (w _ _) rfl fun Lu Le H P=>?_
  have K6:=((((((((K6.B i).B f).B d).B e).bT (Nat.ne_of_lt ((a.trans b).lt h)) j).bT (Nat.ne_of_lt ((a.trans b).lt h)) m).bT (Nat.ne_of_lt ((a).lt h)) E).bT (Nat.ne_of_lt ((a).lt h)) H)
  have Lo:=((Lo.bT (Ne.symm (Nat.ne_of_lt LC)) E).bT (Ne.symm (Nat.ne_of_lt LC)) H)
  exact a7.aU (a1.B (a1.B (a1.B (a1.B ((((aR.trans i).trans f).trans d).trans e) j L8) m L8) E LP) H LP) Lj (Ll.aD (a.trans (b.trans (c.trans (K5.trans (l.trans (n.trans (G.trans P)))))))) K6 Lm ((LN.aD (b.trans (c.trans (K5.trans (l.trans (n.trans (G.trans P))))))).from aR.le) (by first | assumption | decide | omega) Lo L8 ((ML.aD (l.trans (n.trans (G.trans P)))).from (((aR.trans i).trans f).trans d).le) (by first | assumption | decide | omega) Le LP (Nat.ne_of_lt ((a.trans b).lt h)) (Nat.ne_of_lt ((a).lt h)) (Ne.symm (Nat.ne_of_lt LC)) g
 ·refine cK fun LM K7 i=>?_
  have K7:cR LM (Z.size) [.bool false,.slice none (D.aE 0).length 0]:=by rw [D.dM];exact K7
  have LK:=aR.le
  have Lh:=K7.lt
  have a:=i.aD
  refine⟨i.c1 (Nat.le_refl _),?_⟩
  refine⟨?_,?_⟩
  ·refine bF (fN.aY (Lv.aD (a)) rfl) fun v Lf ⟨f,O⟩=>?_
   obtain⟨NB,Ma⟩:∃ z,z=b5 (eV (Lk,LJ)):=⟨_,rfl⟩
   rw [← Ma] at O
   replace g:=cC Ma g
   have MM:=jU Lk ((Lv.aD (a))).words
   rw [← Ma] at MM
   obtain⟨NC,ND,rfl,My⟩:=O
   refine bZ rfl (aM (aO rfl (aM (k rfl (bP (?_))))))
   have b:=f.aD
   refine⟨f.c1 (a).le,?_⟩
   refine⟨?_,?_⟩
   ·refine bF (fN.aY (Lb.aD (a.trans b)) rfl) fun v La ⟨d,O⟩=>?_
    obtain⟨NE,Mb⟩:∃ z,z=b5 (eV (K8,Lg)):=⟨_,rfl⟩
    rw [← Mb] at O
    replace g:=cC Mb g
    have MN:=jU K8 ((Lb.aD (a.trans b))).words
    rw [← Mb] at MN
    obtain⟨NF,NG,rfl,MO⟩:=O
    refine bZ rfl (aM (aO rfl (aM (k rfl (bP (?_))))))
    have c:=d.aD
    refine⟨d.c1 (a.trans b).le,?_⟩
    refine cK fun Ld LF e=>?_
    have LF:cR Ld (La.size) [.bool false,.slice none (D.aE 0).length 0]:=by rw [D.dM];exact LF
    have Mc:=(((aR.trans i).trans f).trans d).le
    have NH:=LF.lt
    have K5:=e.aD
    refine⟨e.c1 (a.trans (b.trans c)).le,?_⟩
    have K7:=(((K7.B f).B d).B e)
    refine bK K7 (w _ _) rfl fun Lr K7 j l=>?_
    refine bK K7 (w _ _) rfl fun Ls K7 m n=>?_
    have LF:=((LF.bT (Ne.symm (Nat.ne_of_lt ((b.trans c).lt Lh))) j).bT (Ne.symm (Nat.ne_of_lt ((b.trans c).lt Lh))) m)
    refine bK LF (w _ _) rfl fun Lt LF E G=>?_
    refine bK LF (w _ _) rfl fun Lu LF H P=>?_
    have K6:=((((((((K6.B i).B f).B d).B e).bT (Nat.ne_of_lt h) j).bT (Nat.ne_of_lt h) m).bT (Nat.ne_of_lt ((a.trans (b.trans c)).lt h)) E).bT (Nat.ne_of_lt ((a.trans (b.trans c)).lt h)) H)
    have K7:=((K7.bT (Nat.ne_of_lt ((b.trans c).lt Lh)) E).bT (Nat.ne_of_lt ((b.trans c).lt Lh)) H)
    exact a7.aU (a1.B (a1.B (a1.B (a1.B ((((aR.trans i).trans f).trans d).trans e) j LK) m LK) E Mc) H Mc) Lj (Ll.aD (a.trans (b.trans (c.trans (K5.trans (l.trans (n.trans (G.trans P)))))))) K6 Lm ((My.aD (c.trans (K5.trans (l.trans (n.trans (G.trans P)))))).from (aR.trans i).le) (by first | assumption | decide | omega) K7 LK ((MO.aD (K5.trans (l.trans (n.trans (G.trans P))))).from ((aR.trans i).trans f).le) (by first | assumption | decide | omega) LF Mc (Nat.ne_of_lt h) (Nat.ne_of_lt ((a.trans (b.trans c)).lt h)) (Nat.ne_of_lt ((b.trans c).lt Lh)) g
   refine cK fun La LG d=>?_
   have LG:cR La (Lf.size) [.bool false,.slice none (D.aE 0).length 0]:=by rw [D.dM];exact LG
   have Md:=((aR.trans i).trans f).le
   have NI:=LG.lt
   have c:=d.aD
   refine⟨d.c1 (a.trans b).le,?_⟩
   refine bF (fN.aY (Lb.aD (a.trans (b.trans c))) rfl) fun v Ld ⟨e,O⟩=>?_
   obtain⟨NJ,Me⟩:∃ z,z=b5 (eV (K8,Lg)):=⟨_,rfl⟩
   rw [← Me] at O
   replace g:=cC Me g
   have MP:=jU K8 ((Lb.aD (a.trans (b.trans c)))).words
   rw [← Me] at MP
   obtain⟨NK,NL,rfl,MQ⟩:=O
   refine bZ rfl (aM (aO rfl (aM (k rfl (bP (?_))))))
   have K5:=e.aD
   refine⟨e.c1 (a.trans (b.trans c)).le,?_⟩
   have K7:=(((K7.B f).B d).B e)
   refine bK K7 (w _ _) rfl fun Lr K7 j l=>?_
   refine bK K7 (w _ _) rfl fun Ls K7 m n=>?_
   have LG:=(((LG.B e).bT (Ne.symm (Nat.ne_of_lt ((b).lt Lh))) j).bT (Ne.symm (Nat.ne_of_lt ((b).lt Lh))) m)
   refine bK LG (w _ _) rfl fun Lt LG E G=>?_
   refine bK LG (w _ _) rfl fun Lu LG H P=>?_
   have K6:=((((((((K6.B i).B f).B d).B e).bT (Nat.ne_of_lt h) j).bT (Nat.ne_of_lt h) m).bT (Nat.ne_of_lt ((a.trans b).lt h)) E).bT (Nat.ne_of_lt ((a.trans b).lt h)) H)
   have K7:=((K7.bT (Nat.ne_of_lt ((b).lt Lh)) E).bT (Nat.ne_of_lt ((b).lt Lh)) H)
   exact a7.aU (a1.B (a1.B (a1.B (a1.B ((((aR.trans i).trans f).trans d).trans e) j LK) m LK) E Md) H Md) Lj (Ll.aD (a.trans (b.trans (c.trans (K5.trans (l.trans (n.trans (G.trans P)))))))) K6 Lm ((My.aD (c.trans (K5.trans (l.trans (n.trans (G.trans P)))))).from (aR.trans i).le) (by first | assumption | decide | omega) K7 LK ((MQ.aD (l.trans (n.trans (G.trans P)))).from (((aR.trans i).trans f).trans d).le) (by first | assumption | decide | omega) LG Md (Nat.ne_of_lt h) (Nat.ne_of_lt ((a.trans b).lt h)) (Nat.ne_of_lt ((b).lt Lh)) g
  refine cK fun Lf LH f=>?_
  have LH:cR Lf (LM.size) [.bool false,.slice none (D.aE 0).length 0]:=by rw [D.dM];exact LH
  have Mf:=(aR.trans i).le
  have NM:=LH.lt
  have b:=f.aD
  refine⟨f.c1 (a).le,?_⟩
  refine bF (fN.aY (Lv.aD (a.trans b)) rfl) fun v La ⟨d,O⟩=>?_
  obtain⟨NN,Mg⟩:∃ z,z=b5 (eV (Lk,LJ)):=⟨_,rfl⟩
  rw [← Mg] at O
  replace g:=cC Mg g
  have MR:=jU Lk ((Lv.aD (a.trans b))).words
  rw [← Mg] at MR
  obtain⟨NO,NP,rfl,MS⟩:=O
  refine bZ rfl (aM (aO rfl (aM (k rfl (bP (?_))))))
  have c:=d.aD
  refine⟨d.c1 (a.trans b).le,?_⟩
  refine bF (fN.aY (Lb.aD (a.trans (b.trans c))) rfl) fun v Ld ⟨e,O⟩=>?_
  obtain⟨NQ,Mh⟩:∃ z,z=b5 (eV (K8,Lg)):=⟨_,rfl⟩
  rw [← Mh] at O
  replace g:=cC Mh g
  have MT:=jU K8 ((Lb.aD (a.trans (b.trans c)))).words
  rw [← Mh] at MT
  obtain⟨NR,NS,rfl,MU⟩:=O
  refine bZ rfl (aM (aO rfl (aM (k rfl (bP (?_))))))
  have K5:=e.aD
  refine⟨e.c1 (a.trans (b.trans c)).le,?_⟩
  have K7:=(((K7.B f).B d).B e)
  refine bK K7 (w _ _) rfl fun Lr K7 j l=>?_
  refine bK K7 (w _ _) rfl fun Ls K7 m n=>?_
  have LH:=((((LH.B d).B e).bT (Ne.symm (Nat.ne_of_lt Lh)) j).bT (Ne.symm (Nat.ne_of_lt Lh)) m)
  refine bK LH (w _ _) rfl fun Lt LH E G=>?_
  refine bK LH (w _ _) rfl fun Lu LH H P=>?_
  have K6:=((((((((K6.B i).B f).B d).B e).bT (Nat.ne_of_lt h) j).bT (Nat.ne_of_lt h) m).bT (Nat.ne_of_lt ((a).lt h)) E).bT (Nat.ne_of_lt ((a).lt h)) H)
  have K7:=((K7.bT (Nat.ne_of_lt Lh) E).bT (Nat.ne_of_lt Lh) H)
  exact a7.aU (a1.B (a1.B (a1.B (a1.B ((((aR.trans i).trans f).trans d).trans e) j LK) m LK) E Mf) H Mf) Lj (Ll.aD (a.trans (b.trans (c.trans (K5.trans (l.trans (n.trans (G.trans P)))))))) K6 Lm ((MS.aD (K5.trans (l.trans (n.trans (G.trans P))))).from ((aR.trans i).trans f).le) (by first | assumption | decide | omega) K7 LK ((MU.aD (l.trans (n.trans (G.trans P)))).from (((aR.trans i).trans f).trans d).le) (by first | assumption | decide | omega) LH Mf (Nat.ne_of_lt h) (Nat.ne_of_lt ((a).lt h)) (Nat.ne_of_lt Lh) g
 refine cK fun LM K9 i=>?_
 have K9:cR LM (Z.size) [.bool false,.slice none (D.aE 0).length 0]:=by rw [D.dM];exact K9
 have LL:=aR.le
 have Li:=K9.lt
 have a:=i.aD
 refine⟨i.c1 (Nat.le_refl _),?_⟩
 refine⟨?_,?_⟩
 ·refine bF (fN.aY (Lv.aD (a)) rfl) fun v Lf ⟨f,O⟩=>?_
  obtain⟨NT,Mi⟩:∃ z,z=b5 (eV (Lk,LJ)):=⟨_,rfl⟩
  rw [← Mi] at O
  replace g:=cC Mi g
  have MV:=jU Lk ((Lv.aD (a))).words
  rw [← Mi] at MV
  obtain⟨NU,NV,rfl,Mz⟩:=O
  refine bZ rfl (aM (aO rfl (aM (k rfl (bP (?_))))))
  have b:=f.aD
  refine⟨f.c1 (a).le,?_⟩
  refine⟨?_,?_⟩
  ·refine bF (fN.aY (Lb.aD (a.trans b)) rfl) fun v La ⟨d,O⟩=>?_
   obtain⟨NW,Mj⟩:∃ z,z=b5 (eV (K8,Lg)):=⟨_,rfl⟩
   rw [← Mj] at O
   replace g:=cC Mj g
   have MW:=jU K8 ((Lb.aD (a.trans b))).words
   rw [← Mj] at MW
   obtain⟨NX,NY,rfl,MX⟩:=O
   refine bZ rfl (aM (aO rfl (aM (k rfl (bP (?_))))))
   have c:=d.aD
   refine⟨d.c1 (a.trans b).le,?_⟩
   refine cK fun Ld LI e=>?_
   have LI:cR Ld (La.size) [.bool false,.slice none (D.aE 0).length 0]:=by rw [D.dM];exact LI
   have Mk:=(((aR.trans i).trans f).trans d).le
   have NZ:=LI.lt
   have K5:=e.aD
   refine⟨e.c1 (a.trans (b.trans c)).le,?_⟩
   refine bK LI (w _ _) rfl fun Lr LI j l=>?_
   refine bK LI (w _ _) rfl fun Ls LI m n=>?_
   have K9:=(((((K9.B f).B d).B e).bT (Nat.ne_of_lt ((b.trans c).lt Li)) j).bT (Nat.ne_of_lt ((b.trans c).lt Li)) m)
   refine bK K9 (w _ _) rfl fun Lt K9 E G=>?_
   refine bK K9 (w _ _) rfl fun Lu K9 H P=>?_
   have K6:=((((((((K6.B i).B f).B d).B e).bT (Nat.ne_of_lt ((a.trans (b.trans c)).lt h)) j).bT (Nat.ne_of_lt ((a.trans (b.trans c)).lt h)) m).bT (Nat.ne_of_lt h) E).bT (Nat.ne_of_lt h) H)
   have LI:=((LI.bT (Ne.symm (Nat.ne_of_lt ((b.trans c).lt Li))) E).bT (Ne.symm (Nat.ne_of_lt ((b.trans c).lt Li))) H)
   exact a7.aU (a1.B (a1.B (a1.B (a1.B ((((aR.trans i).trans f).trans d).trans e) j Mk) m Mk) E LL) H LL) Lj (Ll.aD (a.trans (b.trans (c.trans (K5.trans (l.trans (n.trans (G.trans P)))))))) K6 Lm ((Mz.aD (c.trans (K5.trans (l.trans (n.trans (G.trans P)))))).from (aR.trans i).le) (by first | assumption | decide | omega) LI Mk ((MX.aD (K5.trans (l.trans (n.trans (G.trans P))))).from ((aR.trans i).trans f).le) (by first | assumption | decide | omega) K9 LL (Nat.ne_of_lt ((a.trans (b.trans c)).lt h)) (Nat.ne_of_lt h) (Ne.symm (Nat.ne_of_lt ((b.trans c).lt Li))) g
  refine cK fun La Lp d=>?_
  have Lp:cR La (Lf.size) [.bool false,.slice none (D.aE 0).length 0]:=by rw [D.dM];exact Lp
  have Ml:=((aR.trans i).trans f).le
  have N0:=Lp.lt
  have c:=d.aD
  refine⟨d.c1 (a.trans b).le,?_⟩
  refine bF (fN.aY (Lb.aD (a.trans (b.trans c))) rfl) fun v Ld ⟨e,O⟩=>?_
  obtain⟨N1,Mm⟩:∃ z,z=b5 (eV (K8,Lg)):=⟨_,rfl⟩
  rw [← Mm] at O
  replace g:=cC Mm g
  have MY:=jU K8 ((Lb.aD (a.trans (b.trans c)))).words
  rw [← Mm] at MY
  obtain⟨N2,N3,rfl,MZ⟩:=O
  refine bZ rfl (aM (aO rfl (aM (k rfl (bP (?_))))))
  have K5:=e.aD
  refine⟨e.c1 (a.trans (b.trans c)).le,?_⟩
  have Lp:=(Lp.B e)
  refine bK Lp (w _ _) rfl fun Lr Lp j l=>?_
  refine bK Lp (w _ _) rfl fun Ls Lp m n=>?_
  have K9:=(((((K9.B f).B d).B e).bT (Nat.ne_of_lt ((b).lt Li)) j).bT (Nat.ne_of_lt ((b).lt Li)) m)
  refine bK K9 (w _ _) rfl fun Lt K9 E G=>?_
  refine bK K9 (w _ _) rfl fun Lu K9 H P=>?_
  have K6:=((((((((K6.B i).B f).B d).B e).bT (Nat.ne_of_lt ((a.trans b).lt h)) j).bT (Nat.ne_of_lt ((a.trans b).lt h)) m).bT (Nat.ne_of_lt h) E).bT (Nat.ne_of_lt h) H)
  have Lp:=((Lp.bT (Ne.symm (Nat.ne_of_lt ((b).lt Li))) E).bT (Ne.symm (Nat.ne_of_lt ((b).lt Li))) H)
  exact a7.aU (a1.B (a1.B (a1.B (a1.B ((((aR.trans i).trans f).trans d).trans e) j Ml) m Ml) E LL) H LL) Lj (Ll.aD (a.trans (b.trans (c.trans (K5.trans (l.trans (n.trans (G.trans P)))))))) K6 Lm ((Mz.aD (c.trans (K5.trans (l.trans (n.trans (G.trans P)))))).from (aR.trans i).le) (by first | assumption | decide | omega) Lp Ml ((MZ.aD (l.trans (n.trans (G.trans P)))).from (((aR.trans i).trans f).trans d).le) (by first | assumption | decide | omega) K9 LL (Nat.ne_of_lt ((a.trans b).lt h)) (Nat.ne_of_lt h) (Ne.symm (Nat.ne_of_lt ((b).lt Li))) g
 refine cK fun Lf Lq f=>?_
 have Lq:cR Lf (LM.size) [.bool false,.slice none (D.aE 0).length 0]:=by rw [D.dM];exact Lq
 have Mn:=(aR.trans i).le
 have N4:=Lq.lt
 have b:=f.aD
 refine⟨f.c1 (a).le,?_⟩
 refine bF (fN.aY (Lv.aD (a.trans b)) rfl) fun v La ⟨d,O⟩=>?_
 obtain⟨N5,Mo⟩:∃ z,z=b5 (eV (Lk,LJ)):=⟨_,rfl⟩
 rw [← Mo] at O
 replace g:=cC Mo g
 have M0:=jU Lk ((Lv.aD (a.trans b))).words
 rw [← Mo] at M0
 obtain⟨N6,N7,rfl,M1⟩:=O
 refine bZ rfl (aM (aO rfl (aM (k rfl (bP (?_))))))
 have c:=d.aD
 refine⟨d.c1 (a.trans b).le,?_⟩
 refine bF (fN.aY (Lb.aD (a.trans (b.trans c))) rfl) fun v Ld ⟨e,O⟩=>?_
 obtain⟨N8,Mp⟩:∃ z,z=b5 (eV (K8,Lg)):=⟨_,rfl⟩
 rw [← Mp] at O
 replace g:=cC Mp g
 have M2:=jU K8 ((Lb.aD (a.trans (b.trans c)))).words
 rw [← Mp] at M2
 obtain⟨N9,Oa,rfl,M3⟩:=O
 refine bZ rfl (aM (aO rfl (aM (k rfl (bP (?_))))))
 have K5:=e.aD
 refine⟨e.c1 (a.trans (b.trans c)).le,?_⟩
 have Lq:=((Lq.B d).B e)
 refine bK Lq (w _ _) rfl fun Lr Lq j l=>?_
 refine bK Lq (w _ _) rfl fun Ls Lq m n=>?_
 have K9:=(((((K9.B f).B d).B e).bT (Nat.ne_of_lt Li) j).bT (Nat.ne_of_lt Li) m)
 refine bK K9 (w _ _) rfl fun Lt K9 E G=>?_
 refine bK K9 (w _ _) rfl fun Lu K9 H P=>?_
 have K6:=((((((((K6.B i).B f).B d).B e).bT (Nat.ne_of_lt ((a).lt h)) j).bT (Nat.ne_of_lt ((a).lt h)) m).bT (Nat.ne_of_lt h) E).bT (Nat.ne_of_lt h) H)
 have Lq:=((Lq.bT (Ne.symm (Nat.ne_of_lt Li)) E).bT (Ne.symm (Nat.ne_of_lt Li)) H)
 exact a7.aU (a1.B (a1.B (a1.B (a1.B ((((aR.trans i).trans f).trans d).trans e) j Mn) m Mn) E LL) H LL) Lj (Ll.aD (a.trans (b.trans (c.trans (K5.trans (l.trans (n.trans (G.trans P)))))))) K6 Lm ((M1.aD (K5.trans (l.trans (n.trans (G.trans P))))).from ((aR.trans i).trans f).le) (by first | assumption | decide | omega) Lq Mn ((M3.aD (l.trans (n.trans (G.trans P)))).from (((aR.trans i).trans f).trans d).le) (by first | assumption | decide | omega) K9 LL (Nat.ne_of_lt ((a).lt h)) (Nat.ne_of_lt h) (Ne.symm (Nat.ne_of_lt Li)) g
def F.v(a3:Int)(aT:Bool)(a:List Nat)(cU:Bool)(b:List Nat):((Bool × List Nat) × Int):=
 bY (decide (eJ (aT,a))) fun c=>
 bif (!c) then
  ((false,([]:List Nat)),(2:Int))
 else
  bY (decide (eJ (cU,b))) fun c=>
  bif (!c) then
   ((false,([]:List Nat)),(2:Int))
  else
   aC.v a3 aT a cU b false ([]:List Nat)
theorem F.aU{Y:K}{aB Z:V}(aR:a4 aB Z){a3:Int}(Ll:In .i64 a3){aT:Bool}{K8:U}{K9 La:Nat}{j:List Nat}(Lb:bJ Z K8 K9 j)(Lm:La=j.length){cU:Bool}{Lc:U}{Ld Le:Nat}{l:List Nat}(Lf:bJ Z Lc Ld l)(Ln:Le=l.length)(g:dS (s2 dZ (c3 .i64)) aB Y (F.v a3 aT j cU l)):F.t Y a3 aT K8 La K9 cU Lc Le Ld Z:=by
 subst Lm Ln
 have Lv:(D.aE 0).length=0:=by simp [D.dM]
 unfold F.v at g
 unfold F.t
 refine cK fun Lw d f=>?_
 have Lo:=aR.le
 have Lg:=d.lt
 have E:=f.aD
 refine cK fun Lx e h=>?_
 have Lp:=(aR.trans f).le
 have Lq:=e.lt
 have m:=h.aD
 refine cK fun Ly a i=>?_
 have n:=((aR.trans f).trans h).le
 have Lz:=a.lt
 have G:=i.aD
 have d:=((d.B h).B i)
 refine aI d (w _ _) rfl (aO rfl ?_)
 refine aI d (w _ _) rfl (k rfl ?_)
 refine bF (iW.aY (Lb.aD (E.trans (m.trans G))) rfl) fun v LA ⟨b,O⟩=>?_
 obtain⟨LB,H⟩:∃ z,z=decide (eJ (aT,j)):=⟨_,rfl⟩
 rw [← H] at O
 replace g:=cC H g
 have Lh:=sG aT j
 rw [← H] at Lh
 obtain rfl:=O
 refine aO rfl (?_)
 have P:=b.aD
 refine hH g (fun Li g=>?_) (fun Li g=>?_)
 ·have a:=(a.B b)
  refine bK a (w _ _) rfl fun Lr a c K5=>?_
  refine bK a (w _ _) rfl fun Ls a K6 Lt=>?_
  refine aI a (w _ _) rfl (aO rfl ?_)
  refine aI a (w _ _) rfl (k rfl ?_)
  exact g _ _ (a1.B (a1.B ((((aR.trans f).trans h).trans i).trans b) c n) K6 n) ⟨_,_,rfl,⟨_,_,rfl,(cN.nil _ _)⟩,⟨rfl,(show In .i64 (2:Int) by decide)⟩⟩
 have LC:=Lh Li
 have e:=((e.B i).B b)
 refine aI e (w _ _) rfl (aO rfl ?_)
 refine aI e (w _ _) rfl (k rfl ?_)
 refine bF (iW.aY (Lf.aD (E.trans (m.trans (G.trans P)))) rfl) fun v Lr ⟨c,O⟩=>?_
 obtain⟨LD,K7⟩:∃ z,z=decide (eJ (cU,l)):=⟨_,rfl⟩
 rw [← K7] at O
 replace g:=cC K7 g
 have Lj:=sG cU l
 rw [← K7] at Lj
 obtain rfl:=O
 refine aO rfl (?_)
 have K5:=c.aD
 refine hH g (fun Lk g=>?_) (fun Lk g=>?_)
 ·have a:=((a.B b).B c)
  refine bK a (w _ _) rfl fun Ls a K6 Lt=>?_
  refine bK a (w _ _) rfl fun LF a Lu LG=>?_
  refine aI a (w _ _) rfl (aO rfl ?_)
  refine aI a (w _ _) rfl (k rfl ?_)
  exact g _ _ (a1.B (a1.B (((((aR.trans f).trans h).trans i).trans b).trans c) K6 n) Lu n) ⟨_,_,rfl,⟨_,_,rfl,(cN.nil _ _)⟩,⟨rfl,(show In .i64 (2:Int) by decide)⟩⟩
 have LH:=Lj Lk
 have d:=((d.B b).B c)
 have e:=(e.B c)
 have a:=((a.B b).B c)
 exact aC.aU (((((aR.trans f).trans h).trans i).trans b).trans c) Ll (Lb.aD (E.trans (m.trans (G.trans (P.trans K5))))) d Lo (Lf.aD (E.trans (m.trans (G.trans (P.trans K5))))) e Lp (cN.nil _ _) a n (Nat.ne_of_lt Lg) (Nat.ne_of_lt ((m).lt Lg)) (Nat.ne_of_lt Lq) (by first | assumption | decide | omega) (by first | assumption | decide | omega) g
def v(a3:Int)(aT:Bool)(a:List Nat)(cU:Bool)(b:List Nat):((Bool × List Nat) × Int):=F.v a3 aT a cU b
theorem aU{Z:V}{a3:Int}(a:In .i64 a3){aT:Bool}{b:U}{c d:Nat}{e:List Nat}(f:bJ Z b c e)(g:d=e.length){cU:Bool}{h:U}{i j:Nat}{l:List Nat}(m:bJ Z h i l)(n:j=l.length):aF id #[.int .i64 a3,.agg #[.bool aT,.slice b d c],.agg #[.bool cU,.slice h j i]] Z fun b c=>a4 Z c∧(s2 dZ (c3 .i64)) Z c b (v a3 aT e cU l):=
 ok (F.aU (a4.refl _) a f g m n fun v A M O=>⟨M,O⟩)
end h3
namespace k5
def F.v(a3:Int)(aT:Bool)(a:List Nat)(b:Int):((Bool × List Nat) × Int):=
 bif (decide (b < (0:Int))) then
  ((false,([]:List Nat)),(1:Int))
 else
  bY (decide (eJ (aT,a))) fun c=>
  bif (!c) then
   ((false,([]:List Nat)),(2:Int))
  else
   bY (b5 (eV (aT,a))) fun a=>
   bif (a3 == (0:Int)) then
    bif (decide (b > (524288:Int))) then
     bif (((gA (bL (a.1,a.2)) 0)) != (0:Int)) then
      ((false,([]:List Nat)),(5:Int))
     else
      bY (b5 (bL (a.1,a.2)*2 ^ (Int.toNat b))) fun c=>
      bY (fP (bL (c.1,c.2))) fun c=>
      ((c.1.1,c.1.2),c.2)
    else
     bY (b5 (bL (a.1,a.2)*2 ^ (Int.toNat b))) fun c=>
     bY (fP (bL (c.1,c.2))) fun c=>
     ((c.1.1,c.1.2),c.2)
   else
    bif (a3 == (1:Int)) then
     bY (b5 (e4 (bL (a.1,a.2)) (2 ^ (Int.toNat b)))) fun c=>
     bY (fP (bL (c.1,c.2))) fun c=>
     ((c.1.1,c.1.2),c.2)
    else
     bif (a3 == (2:Int)) then
      bY (b5 (iL (bL (a.1,a.2)) (2 ^ (Int.toNat b)))) fun c=>
      bY (fP (bL (c.1,c.2))) fun c=>
      ((c.1.1,c.1.2),c.2)
     else
      bY (b5 (gY (bL (a.1,a.2)) (2 ^ (Int.toNat b)))) fun a=>
      bY (fP (bL (a.1,a.2))) fun a=>
      ((a.1.1,a.1.2),a.2)
theorem F.aU{Y:K}{aB Z:V}(aR:a4 aB Z){a3:Int}(Mk:In .i64 a3){aT:Bool}{Lx:U}{Ly Lz:Nat}{Ld:List Nat}(Lo:bJ Z Lx Ly Ld)(LQ:Lz=Ld.length){K7:Int}(Lh:In .i64 K7)(g:dS (s2 dZ (c3 .i64)) aB Y (F.v a3 aT Ld K7)):F.t Y a3 aT Lx Lz Ly K7 Z:=by
 subst LQ
 unfold F.v at g
 unfold F.t
 refine cK fun Ml K8 m=>?_
 have Mm:=aR.le
 have Mn:=K8.lt
 have Lp:=m.aD
 refine cK fun Mo a n=>?_
 have E:=(aR.trans m).le
 have K6:=a.lt
 have Lq:=n.aD
 refine jC g (fun LR g=>?_) (fun LR g=>?_)
 ·refine bK a (w _ _) rfl fun LS a c H=>?_
  refine bK a (w _ _) rfl fun Lr a d P=>?_
  refine aI a (w _ _) rfl (aO rfl ?_)
  refine aI a (w _ _) rfl (k rfl ?_)
  exact g _ _ (a1.B (a1.B ((aR.trans m).trans n) c E) d E) ⟨_,_,rfl,⟨_,_,rfl,(cN.nil _ _)⟩,⟨rfl,(show In .i64 (1:Int) by decide)⟩⟩
 have K8:=(K8.B n)
 refine aI K8 (w _ _) rfl (aO rfl ?_)
 refine aI K8 (w _ _) rfl (k rfl ?_)
 refine bF (iW.aY (Lo.aD (Lp.trans Lq)) rfl) fun v LS ⟨c,O⟩=>?_
 obtain⟨Mp,Ls⟩:∃ z,z=decide (eJ (aT,Ld)):=⟨_,rfl⟩
 rw [← Ls] at O
 replace g:=cC Ls g
 have LA:=sG aT Ld
 rw [← Ls] at LA
 obtain rfl:=O
 refine aO rfl (?_)
 have H:=c.aD
 refine hH g (fun LB g=>?_) (fun LB g=>?_)
 ·have a:=(a.B c)
  refine bK a (w _ _) rfl fun Lr a d P=>?_
  refine bK a (w _ _) rfl fun LC a i Lc=>?_
  refine aI a (w _ _) rfl (aO rfl ?_)
  refine aI a (w _ _) rfl (k rfl ?_)
  exact g _ _ (a1.B (a1.B (((aR.trans m).trans n).trans c) d E) i E) ⟨_,_,rfl,⟨_,_,rfl,(cN.nil _ _)⟩,⟨rfl,(show In .i64 (2:Int) by decide)⟩⟩
 have Mq:=LA LB
 have K8:=(K8.B c)
 refine aI K8 (w _ _) rfl (aO rfl ?_)
 refine aI K8 (w _ _) rfl (k rfl ?_)
 refine bF (fN.aY (Lo.aD (Lp.trans (Lq.trans H))) rfl) fun v Lr ⟨d,O⟩=>?_
 obtain⟨G,Lt⟩:∃ z,z=b5 (eV (aT,Ld)):=⟨_,rfl⟩
 rw [← Lt] at O
 replace g:=cC Lt g
 have LU:=jU aT ((Lo.aD (Lp.trans (Lq.trans H)))).words
 rw [← Lt] at LU
 obtain⟨Mr,Ms,rfl,Le⟩:=O
 refine bZ rfl (aM (aO rfl (aM (k rfl (bP (?_))))))
 have P:=d.aD
 refine cK fun LC h i=>?_
 have h:cR LC (Lr.size) [.bool false,.slice none (D.aE 0).length 0]:=by rw [D.dM];exact h
 have e:=((((aR.trans m).trans n).trans c).trans d).le
 have Mt:=h.lt
 have Lc:=i.aD
 refine bK h (w _ _) rfl fun Mu h j Lf=>?_
 refine bK h (w _ _) rfl fun Mv h l Lg=>?_
 refine fB g (fun LV g=>?_) (fun LV g=>?_)
 ·refine jC g (fun LW g=>?_) (fun LW g=>?_)
  ·refine aI h (w _ _) rfl (aO rfl ?_)
   refine aI h (w _ _) rfl (k rfl ?_)
   refine bF (jV.aY (Le.aD (Lc.trans (Lf.trans Lg))).rd rfl) fun v Lm ⟨b,O⟩=>?_
   obtain⟨rfl,Mw⟩:=O
   refine bI rfl (?_)
   have Li:=b.aD
   refine wI g (fun LX g=>?_) (fun LX g=>?_)
   ·have a:=((((((a.B c).B d).B i).bT (Nat.ne_of_lt ((H.trans P).lt K6)) j).bT (Nat.ne_of_lt ((H.trans P).lt K6)) l).B b)
    refine bK a (w _ _) rfl fun Lj a f Lk=>?_
    refine bK a (w _ _) rfl fun Ll a K5 K9=>?_
    refine aI a (w _ _) rfl (aO rfl ?_)
    refine aI a (w _ _) rfl (k rfl ?_)
    exact g _ _ (a1.B (a1.B ((a1.B (a1.B (((((aR.trans m).trans n).trans c).trans d).trans i) j e) l e).trans b) f E) K5 E) ⟨_,_,rfl,⟨_,_,rfl,(cN.nil _ _)⟩,⟨rfl,(show In .i64 (5:Int) by decide)⟩⟩
   have h:=(h.B b)
   refine aI h (w _ _) rfl (aO rfl ?_)
   refine aI h (w _ _) rfl (k rfl ?_)
   refine bF (nF.aY (Le.aD (Lc.trans (Lf.trans (Lg.trans Li)))).rd rfl Lh (by first | assumption | decide | omega) (by first | assumption | decide | omega) (by first | assumption | decide | omega)) fun v Lj ⟨f,O⟩=>?_
   obtain⟨LD,LF⟩:∃ z,z=b5 (bL (G.1,G.2)*2 ^ (Int.toNat K7)):=⟨_,rfl⟩
   rw [← LF] at O
   replace g:=cC LF g
   obtain⟨Mx,My,rfl,LY⟩:=O
   refine bZ rfl (aM (aO rfl (aM (k rfl (bP (?_))))))
   have Lk:=f.aD
   refine bF (gZ.aY LY.rd rfl) fun v Ll ⟨K5,O⟩=>?_
   obtain⟨Mz,LG⟩:∃ z,z=fP (bL (LD.1,LD.2)):=⟨_,rfl⟩
   rw [← LG] at O
   replace g:=cC LG g
   obtain⟨_,_,rfl,⟨MA,MB,rfl,LZ⟩,⟨rfl,L0⟩⟩:=O
   refine dP rfl (aM (bZ rfl (aM (aO rfl (aM (k rfl (bP (aM (bI rfl (bP (?_)))))))))))
   have K9:=K5.aD
   have a:=((((((((a.B c).B d).B i).bT (Nat.ne_of_lt ((H.trans P).lt K6)) j).bT (Nat.ne_of_lt ((H.trans P).lt K6)) l).B b).B f).B K5)
   refine bK a (w _ _) rfl fun Ln a La Lb=>?_
   refine bK a (w _ _) rfl fun MC a L1 L2=>?_
   refine aI a (w _ _) rfl (aO rfl ?_)
   refine aI a (w _ _) rfl (k rfl ?_)
   exact g _ _ (a1.B (a1.B ((((a1.B (a1.B (((((aR.trans m).trans n).trans c).trans d).trans i) j e) l e).trans b).trans f).trans K5) La E) L1 E) ⟨_,_,rfl,⟨_,_,rfl,((LZ.aD (Lb.trans L2)).from (((a1.B (a1.B (((((aR.trans m).trans n).trans c).trans d).trans i) j e) l e).trans b).trans f).le)⟩,⟨rfl,L0⟩⟩
  refine aI h (w _ _) rfl (aO rfl ?_)
  refine aI h (w _ _) rfl (k rfl ?_)
  refine bF (nF.aY (Le.aD (Lc.trans (Lf.trans Lg))).rd rfl Lh (by first | assumption | decide | omega) (by first | assumption | decide | omega) (by first | assumption | decide | omega)) fun v Lm ⟨b,O⟩=>?_
  obtain⟨LH,LI⟩:∃ z,z=b5 (bL (G.1,G.2)*2 ^ (Int.toNat K7)):=⟨_,rfl⟩
  rw [← LI] at O
  replace g:=cC LI g
  obtain⟨MD,ME,rfl,L3⟩:=O
  refine bZ rfl (aM (aO rfl (aM (k rfl (bP (?_))))))
  have Li:=b.aD
  refine bF (gZ.aY L3.rd rfl) fun v Lj ⟨f,O⟩=>?_
  obtain⟨MF,LJ⟩:∃ z,z=fP (bL (LH.1,LH.2)):=⟨_,rfl⟩
  rw [← LJ] at O
  replace g:=cC LJ g
  obtain⟨_,_,rfl,⟨MG,MH,rfl,L4⟩,⟨rfl,L5⟩⟩:=O
  refine dP rfl (aM (bZ rfl (aM (aO rfl (aM (k rfl (bP (aM (bI rfl (bP (?_)))))))))))
  have Lk:=f.aD
  have a:=(((((((a.B c).B d).B i).bT (Nat.ne_of_lt ((H.trans P).lt K6)) j).bT (Nat.ne_of_lt ((H.trans P).lt K6)) l).B b).B f)
  refine bK a (w _ _) rfl fun Ll a K5 K9=>?_
  refine bK a (w _ _) rfl fun Ln a La Lb=>?_
  refine aI a (w _ _) rfl (aO rfl ?_)
  refine aI a (w _ _) rfl (k rfl ?_)
  exact g _ _ (a1.B (a1.B (((a1.B (a1.B (((((aR.trans m).trans n).trans c).trans d).trans i) j e) l e).trans b).trans f) K5 E) La E) ⟨_,_,rfl,⟨_,_,rfl,((L4.aD (K9.trans Lb)).from ((a1.B (a1.B (((((aR.trans m).trans n).trans c).trans d).trans i) j e) l e).trans b).le)⟩,⟨rfl,L5⟩⟩
 refine fB g (fun L6 g=>?_) (fun L6 g=>?_)
 ·refine aI h (w _ _) rfl (aO rfl ?_)
  refine aI h (w _ _) rfl (k rfl ?_)
  refine bF (mP.aY (Le.aD (Lc.trans (Lf.trans Lg))).rd rfl Lh (by first | assumption | decide | omega)) fun v Lm ⟨b,O⟩=>?_
  obtain⟨LK,Lu⟩:∃ z,z=b5 (e4 (bL (G.1,G.2)) (2 ^ (Int.toNat K7))):=⟨_,rfl⟩
  rw [← Lu] at O
  replace g:=cC Lu g
  have L7:=DX G.1 G.2 K7
  rw [← Lu] at L7
  obtain⟨MI,MJ,rfl,L8⟩:=O
  refine bZ rfl (aM (aO rfl (aM (k rfl (bP (?_))))))
  have Li:=b.aD
  refine bF (gZ.aY L8.rd rfl) fun v Lj ⟨f,O⟩=>?_
  obtain⟨MK,LL⟩:∃ z,z=fP (bL (LK.1,LK.2)):=⟨_,rfl⟩
  rw [← LL] at O
  replace g:=cC LL g
  obtain⟨_,_,rfl,⟨ML,MM,rfl,L9⟩,⟨rfl,Ma⟩⟩:=O
  refine dP rfl (aM (bZ rfl (aM (aO rfl (aM (k rfl (bP (aM (bI rfl (bP (?_)))))))))))
  have Lk:=f.aD
  have a:=(((((((a.B c).B d).B i).bT (Nat.ne_of_lt ((H.trans P).lt K6)) j).bT (Nat.ne_of_lt ((H.trans P).lt K6)) l).B b).B f)
  refine bK a (w _ _) rfl fun Ll a K5 K9=>?_
  refine bK a (w _ _) rfl fun Ln a La Lb=>?_
  refine aI a (w _ _) rfl (aO rfl ?_)
  refine aI a (w _ _) rfl (k rfl ?_)
  exact g _ _ (a1.B (a1.B (((a1.B (a1.B (((((aR.trans m).trans n).trans c).trans d).trans i) j e) l e).trans b).trans f) K5 E) La E) ⟨_,_,rfl,⟨_,_,rfl,((L9.aD (K9.trans Lb)).from ((a1.B (a1.B (((((aR.trans m).trans n).trans c).trans d).trans i) j e) l e).trans b).le)⟩,⟨rfl,Ma⟩⟩
 refine fB g (fun Mb g=>?_) (fun Mb g=>?_)
 ·refine aI h (w _ _) rfl (aO rfl ?_)
  refine aI h (w _ _) rfl (k rfl ?_)
  refine bF (oR.aY (Le.aD (Lc.trans (Lf.trans Lg))).rd rfl Lh (by first | assumption | decide | omega)) fun v Lm ⟨b,O⟩=>?_
  obtain⟨LM,Lv⟩:∃ z,z=b5 (iL (bL (G.1,G.2)) (2 ^ (Int.toNat K7))):=⟨_,rfl⟩
  rw [← Lv] at O
  replace g:=cC Lv g
  have Mc:=It G.1 G.2 K7
  rw [← Lv] at Mc
  obtain⟨MN,MO,rfl,Md⟩:=O
  refine bZ rfl (aM (aO rfl (aM (k rfl (bP (?_))))))
  have Li:=b.aD
  refine bF (gZ.aY Md.rd rfl) fun v Lj ⟨f,O⟩=>?_
  obtain⟨MP,LN⟩:∃ z,z=fP (bL (LM.1,LM.2)):=⟨_,rfl⟩
  rw [← LN] at O
  replace g:=cC LN g
  obtain⟨_,_,rfl,⟨MQ,MR,rfl,Me⟩,⟨rfl,Mf⟩⟩:=O
  refine dP rfl (aM (bZ rfl (aM (aO rfl (aM (k rfl (bP (aM (bI rfl (bP (?_)))))))))))
  have Lk:=f.aD
  have a:=(((((((a.B c).B d).B i).bT (Nat.ne_of_lt ((H.trans P).lt K6)) j).bT (Nat.ne_of_lt ((H.trans P).lt K6)) l).B b).B f)
  refine bK a (w _ _) rfl fun Ll a K5 K9=>?_
  refine bK a (w _ _) rfl fun Ln a La Lb=>?_
  refine aI a (w _ _) rfl (aO rfl ?_)
  refine aI a (w _ _) rfl (k rfl ?_)
  exact g _ _ (a1.B (a1.B (((a1.B (a1.B (((((aR.trans m).trans n).trans c).trans d).trans i) j e) l e).trans b).trans f) K5 E) La E) ⟨_,_,rfl,⟨_,_,rfl,((Me.aD (K9.trans Lb)).from ((a1.B (a1.B (((((aR.trans m).trans n).trans c).trans d).trans i) j e) l e).trans b).le)⟩,⟨rfl,Mf⟩⟩
 refine aI h (w _ _) rfl (aO rfl ?_)
 refine aI h (w _ _) rfl (k rfl ?_)
 refine bF (oS.aY (Le.aD (Lc.trans (Lf.trans Lg))).rd rfl Lh (by first | assumption | decide | omega)) fun v Lm ⟨b,O⟩=>?_
 obtain⟨LO,Lw⟩:∃ z,z=b5 (gY (bL (G.1,G.2)) (2 ^ (Int.toNat K7))):=⟨_,rfl⟩
 rw [← Lw] at O
 replace g:=cC Lw g
 have Mg:=Iu G.1 G.2 K7
 rw [← Lw] at Mg
 obtain⟨MS,MT,rfl,Mh⟩:=O
 refine bZ rfl (aM (aO rfl (aM (k rfl (bP (?_))))))
 have Li:=b.aD
 refine bF (gZ.aY Mh.rd rfl) fun v Lj ⟨f,O⟩=>?_
 obtain⟨MU,LP⟩:∃ z,z=fP (bL (LO.1,LO.2)):=⟨_,rfl⟩
 rw [← LP] at O
 replace g:=cC LP g
 obtain⟨_,_,rfl,⟨MV,MW,rfl,Mi⟩,⟨rfl,Mj⟩⟩:=O
 refine dP rfl (aM (bZ rfl (aM (aO rfl (aM (k rfl (bP (aM (bI rfl (bP (?_)))))))))))
 have Lk:=f.aD
 have a:=(((((((a.B c).B d).B i).bT (Nat.ne_of_lt ((H.trans P).lt K6)) j).bT (Nat.ne_of_lt ((H.trans P).lt K6)) l).B b).B f)
 refine bK a (w _ _) rfl fun Ll a K5 K9=>?_
 refine bK a (w _ _) rfl fun Ln a La Lb=>?_
 refine aI a (w _ _) rfl (aO rfl ?_)
 refine aI a (w _ _) rfl (k rfl ?_)
 exact g _ _ (a1.B (a1.B (((a1.B (a1.B (((((aR.trans m).trans n).trans c).trans d).trans i) j e) l e).trans b).trans f) K5 E) La E) ⟨_,_,rfl,⟨_,_,rfl,((Mi.aD (K9.trans Lb)).from ((a1.B (a1.B (((((aR.trans m).trans n).trans c).trans d).trans i) j e) l e).trans b).le)⟩,⟨rfl,Mj⟩⟩
def v(a3:Int)(aT:Bool)(a:List Nat)(b:Int):((Bool × List Nat) × Int):=F.v a3 aT a b
theorem aU{Z:V}{a3:Int}(a:In .i64 a3){aT:Bool}{b:U}{c d:Nat}{e:List Nat}(f:bJ Z b c e)(g:d=e.length){h:Int}(i:In .i64 h):aF id #[.int .i64 a3,.agg #[.bool aT,.slice b d c],.int .i64 h] Z fun b c=>a4 Z c∧(s2 dZ (c3 .i64)) Z c b (v a3 aT e h):=
 ok (F.aU (a4.refl _) a f g i fun v A M O=>⟨M,O⟩)
end k5
def wV(M:Int):Int→Int→Int:=if M=0 then nZ else if M=1 then vL else if M=2 then oK else if M=3 then e4 else if M=4 then iL else if M=5 then gY else iV
def h4(M:Int)(I aN:fJ):fJ × Int:=if eJ I∧eJ aN then(if 3≤M∧eV aN=0 then(l1,4) else fP (wV M (eV I) (eV aN))) else(l1,2)
def mQ(M:Int)(I:fJ)(n:Int):fJ × Int:=if M=0 then qK I n else iM (if M=1 then e4 else if M=2 then iL else gY) I n
theorem D2(M:Int)(z:Bool)(aK:List Nat){Q C:Int}(Z:M=5→C ≠ 0):h3.cA.v M z aK (b5 Q).1 (b5 Q).2 (b5 C).1 (b5 C).2=fP (wV M Q C):=by
 unfold h3.cA.v wV
 simp only [bY,lO]
 by_cases aB:M=0
 ·subst aB;rfl
 ·have e:(M == 0)=false:=by simp [aB]
  rw [e,cond_false,if_neg aB]
  by_cases a0:M=1
  ·subst a0;rfl
  ·have f:(M == 1)=false:=by simp [a0]
   rw [f,cond_false,if_neg a0]
   by_cases b:M=2
   ·subst b;rfl
   ·have g:(M == 2)=false:=by simp [b]
    rw [g,cond_false,if_neg b]
    by_cases c:M=3
    ·subst c;rfl
    ·have h:(M == 3)=false:=by simp [c]
     rw [h,cond_false,if_neg c]
     by_cases d:M=4
     ·subst d;rfl
     ·have i:(M == 4)=false:=by simp [d]
      rw [i,cond_false,if_neg d]
      by_cases a:M=5
      ·have j:qO Q C=b5 (gY Q C):=by unfold qO;rw [if_neg (Z a)]
       subst a
       rw [j,lO];rfl
      ·have l:(M == 5)=false:=by simp [a]
       rw [l,cond_false,if_neg a]
theorem I1(M:Int)(N L:Bool)(T u:List Nat):h3.v M N T L u=h4 M (N,T) (L,u):=by
 unfold h3.v h3.F.v h4
 simp only [bY]
 by_cases a9:eJ (N,T)
 ·by_cases b:eJ (L,u)
  ·simp only [a9,b,decide_true,Bool.not_true,cond_false,and_self,if_true]
   unfold h3.aC.v h3.a7.v
   simp only [bY,lO,AW]
   by_cases a:M≥3
   ·by_cases aB:eV (L,u)=0
    ·simp only [a,aB,decide_true,cond_true]
     simp only [and_self,if_true];rfl
    ·simp only [a,aB,decide_true,decide_false,cond_true,cond_false]
     simp only [and_false,if_false]
     exact D2 M _ _ fun _=>aB
   ·simp only [a,decide_false,cond_false]
    simp only [false_and,if_false]
    exact D2 M _ _ fun J=>absurd (by omega) a
  ·simp only [a9,b,decide_true,decide_false,Bool.not_true,Bool.not_false,cond_false,cond_true,and_false,if_false];rfl
 ·simp only [a9,decide_false,Bool.not_false,cond_true,false_and,if_false];rfl
theorem I2{Q:Int}{n:Int}(bE:Q ≠ 0)(b:n > 524288):fP (Q*2 ^ n.toNat)=(l1,5):=by
 refine AR fun Z=>?_
 have Z:(aE (Q*2 ^ n.toNat).natAbs).length≤8192:=Z
 rw [Int.natAbs_mul] at Z
 have J:((2:Int) ^ n.toNat).natAbs=2 ^ n.toNat:=by rw [sE,kO]
 rw [J] at Z
 have a:=(Am (v:=Q.natAbs*2 ^ n.toNat)).mpr Z
 rw [wC _ (by omega)] at a
 omega
theorem I3(M:Int)(N:Bool)(T:List Nat)(n:Int):k5.v M N T n=mQ M (N,T) n:=by
 unfold k5.v k5.F.v mQ
 simp only [bY,lO]
 have d:∀ Q:Int,(gA Q 0 != 0)=!decide (Q=0):=fun Q=>by rw [← AW];rfl
 by_cases aB:M=0
 ·subst aB
  rw [if_pos rfl]
  unfold qK
  by_cases a:n < 0
  ·simp only [a,decide_true,cond_true,if_true];rfl
  ·by_cases a9:eJ (N,T)
   ·simp only [a,a9,decide_true,decide_false,Bool.not_true,cond_false,if_true,if_false,beq_self_eq_true,cond_true]
    by_cases aP:n > 524288
    ·simp only [aP,decide_true,cond_true,d]
     by_cases b:eV (N,T)=0
     ·simp only [b,decide_true,Bool.not_true,cond_false]
     ·simp only [b,decide_false,Bool.not_false,cond_true]
      rw [I2 b aP];rfl
    ·simp only [aP,decide_false,cond_false]
   ·simp only [a,a9,decide_false,Bool.not_false,cond_true,cond_false,if_false];rfl
 ·have e:(M == 0)=false:=by simp [aB]
  rw [if_neg aB]
  unfold iM
  by_cases a:n < 0
  ·simp only [a,decide_true,cond_true,if_true];rfl
  ·by_cases a9:eJ (N,T)
   ·simp only [a,a9,e,decide_true,decide_false,Bool.not_true,cond_false,if_true,if_false]
    by_cases a0:M=1
    ·subst a0;rfl
    ·have f:(M == 1)=false:=by simp [a0]
     rw [f,cond_false,if_neg a0]
     by_cases c:M=2
     ·subst c;rfl
     ·have g:(M == 2)=false:=by simp [c]
      rw [g,cond_false,if_neg c]
   ·simp only [a,a9,decide_false,Bool.not_false,cond_true,cond_false,if_false];rfl
section
variable {a N:U} {L bH l m aL bA:Nat} {T u:List Nat} {Z:V} {I aN:Int} {z o:Bool}
theorem h3.aY(Q:In .i64 I)(s:bJ Z a L T)(J:l=T.length)(O:bJ Z N bH u)(a9:m=u.length):aF h3.id #[.int .i64 I,.agg #[.bool z,.slice a l L],.agg #[.bool o,.slice N m bH]] Z fun v A=>a4 Z A∧s2 dZ (c3 .i64) Z A v (h4 I (z,T) (o,u)):=by rw [← I1];exact h3.aU Q s J O a9
theorem k5.aY(Q:In .i64 I)(s:bJ Z a L T)(J:l=T.length)(C:In .i64 aN):aF k5.id #[.int .i64 I,.agg #[.bool z,.slice a l L],.int .i64 aN] Z fun v A=>a4 Z A∧s2 dZ (c3 .i64) Z A v (mQ I (z,T) aN):=by rw [← I3];exact k5.aU Q s J C
end
namespace hC
def F.v(a:Bool)(b:List Nat):(Bool × List Nat):=
 (a,(b))
theorem F.aU{Y:K}{aB Z:V}(aR:a4 aB Z){i:Bool}{j:U}{l m:Nat}{f:List Nat}(E:bJ Z j l f)(G:m=f.length)(g:dS dZ aB Y (F.v i f)):F.t Y i j m l Z:=by
 subst G
 unfold F.v at g
 unfold F.t
 refine cK fun K9 b c=>?_
 have La:=aR.le
 have n:=b.lt
 have H:=c.aD
 refine cK fun Lb a d=>?_
 have D:=(aR.trans c).le
 have Lc:=a.lt
 have h:=d.aD
 have b:=(b.B d)
 refine⟨eY (w _ _) ((h).lt n),?_⟩
 refine aI b (w _ _) rfl (aO rfl ?_)
 refine⟨eY (w _ _) ((h).lt n),?_⟩
 refine aI b (w _ _) rfl (k rfl ?_)
 refine bF (qE.aU (E.aD (H.trans h)) rfl) fun v Ld ⟨e,O⟩=>?_
 obtain⟨Le,Lf,rfl,P⟩:=O
 refine k rfl (?_)
 have Lg:=e.aD
 refine⟨e.c1 (Nat.le_refl _),?_⟩
 have a:=(a.B e)
 refine bK a (w _ _) rfl fun Lh a K5 K6=>?_
 refine bK a (w _ _) rfl fun Li a K7 K8=>?_
 refine aI a (w _ _) rfl (aO rfl ?_)
 refine aI a (w _ _) rfl (k rfl ?_)
 exact g _ _ (a1.B (a1.B (((aR.trans c).trans d).trans e) K5 D) K7 D) ⟨_,_,rfl,((P.aD (K6.trans K8)).from ((aR.trans c).trans d).le)⟩
def v(a:Bool)(b:List Nat):(Bool × List Nat):=F.v a b
theorem aU{Z:V}{a:Bool}{b:U}{c d:Nat}{e:List Nat}(f:bJ Z b c e)(g:d=e.length):aF id #[.agg #[.bool a,.slice b d c]] Z fun b c=>a4 Z c∧dZ Z c b (v a e):=
 ok (F.aU (a4.refl _) f g fun v A M O=>⟨M,O⟩)
end hC
namespace oW
def F.v(a:Int)(eB:Bool)(b:List Nat)(e9:Bool)(c:List Nat)(d:Int):((Bool × List Nat) × Int):=
 bif (a == (1:Int)) then
  bY (fE d) fun e=>
  ((e.1,e.2),(0:Int))
 else
  bif (a == (6:Int)) then
   bY (oJ (eB,b)) fun e=>
   ((e.1.1,e.1.2),e.2)
  else
   bif (a == (7:Int)) then
    bY (h4 ((IntKind.i64.wrap (((IntKind.i64.wrap (a - (7:Int))))+(0:Int)))) (eB,b) (e9,c)) fun e=>
    ((e.1.1,e.1.2),e.2)
   else
    bif (a == (8:Int)) then
     bY (h4 ((IntKind.i64.wrap (((IntKind.i64.wrap (a - (7:Int))))+(0:Int)))) (eB,b) (e9,c)) fun e=>
     ((e.1.1,e.1.2),e.2)
    else
     bif (a == (9:Int)) then
      bY (h4 ((IntKind.i64.wrap (((IntKind.i64.wrap (a - (7:Int))))+(0:Int)))) (eB,b) (e9,c)) fun e=>
      ((e.1.1,e.1.2),e.2)
     else
      bif (a == (10:Int)) then
       bY (mQ ((IntKind.i64.wrap (((IntKind.i64.wrap (a - (10:Int))))+(0:Int)))) (eB,b) d) fun e=>
       ((e.1.1,e.1.2),e.2)
      else
       bif (a == (11:Int)) then
        bY (mQ ((IntKind.i64.wrap (((IntKind.i64.wrap (a - (10:Int))))+(0:Int)))) (eB,b) d) fun e=>
        ((e.1.1,e.1.2),e.2)
       else
        bif (a == (12:Int)) then
         bY (mQ ((IntKind.i64.wrap (((IntKind.i64.wrap (a - (10:Int))))+(0:Int)))) (eB,b) d) fun e=>
         ((e.1.1,e.1.2),e.2)
        else
         bif (a == (13:Int)) then
          bY (mQ ((IntKind.i64.wrap (((IntKind.i64.wrap (a - (10:Int))))+(0:Int)))) (eB,b) d) fun d=>
          ((d.1.1,d.1.2),d.2)
         else
          bif (a == (14:Int)) then
           bY (h4 ((IntKind.i64.wrap (((IntKind.i64.wrap (a - (14:Int))))+(3:Int)))) (eB,b) (e9,c)) fun d=>
           ((d.1.1,d.1.2),d.2)
          else
           bif (a == (15:Int)) then
            bY (h4 ((IntKind.i64.wrap (((IntKind.i64.wrap (a - (14:Int))))+(3:Int)))) (eB,b) (e9,c)) fun d=>
            ((d.1.1,d.1.2),d.2)
           else
            bif (a == (16:Int)) then
             bY (h4 ((IntKind.i64.wrap (((IntKind.i64.wrap (a - (14:Int))))+(3:Int)))) (eB,b) (e9,c)) fun d=>
             ((d.1.1,d.1.2),d.2)
            else
             bif (a == (17:Int)) then
              bY (h4 ((IntKind.i64.wrap (((IntKind.i64.wrap (a - (14:Int))))+(3:Int)))) (eB,b) (e9,c)) fun a=>
              ((a.1.1,a.1.2),a.2)
             else
              ((false,([]:List Nat)),(0:Int))
theorem F.aU{Y:K}{aB Z:V}(aR:a4 aB Z){E:Int}(Ma:In .i64 E){eB:Bool}{Lb:U}{Lc Ld:Nat}{D:List Nat}(K5:bJ Z Lb Lc D)(Lu:Ld=D.length){e9:Bool}{Le:U}{Lf Lg:Nat}{K7:List Nat}(K9:bJ Z Le Lf K7)(Lv:Lg=K7.length){K8:Int}(La:In .i64 K8)(g:dS (s2 dZ (c3 .i64)) aB Y (F.v E eB D e9 K7 K8)):F.t Y E eB Lb Ld Lc e9 Le Lg Lf K8 Z:=by
 subst Lu Lv
 unfold F.v at g
 unfold F.t
 refine cK fun Mb b d=>?_
 have Mc:=aR.le
 have Md:=b.lt
 have m:=d.aD
 refine cK fun Me a e=>?_
 have f:=(aR.trans d).le
 have Mf:=a.lt
 have n:=e.aD
 have b:=(b.B e)
 refine aI b (w _ _) rfl (bI rfl ?_)
 refine fB g (fun Lw g=>?_) (fun Lw g=>?_)
 ·refine aI b (w _ _) rfl (bI rfl ?_)
  refine bF (kZ.aY La) fun v G ⟨c,O⟩=>?_
  obtain⟨Mg,Lh⟩:∃ z,z=fE K8:=⟨_,rfl⟩
  rw [← Lh] at O
  replace g:=cC Lh g
  obtain⟨Mh,Mi,rfl,Lx⟩:=O
  refine bZ rfl (aM (aO rfl (aM (k rfl (bP (?_))))))
  have H:=c.aD
  have a:=(a.B c)
  refine bK a (w _ _) rfl fun P a h i=>?_
  refine bK a (w _ _) rfl fun K6 a j l=>?_
  refine aI a (w _ _) rfl (aO rfl ?_)
  refine aI a (w _ _) rfl (k rfl ?_)
  exact g _ _ (a1.B (a1.B (((aR.trans d).trans e).trans c) h f) j f) ⟨_,_,rfl,⟨_,_,rfl,((Lx.aD (i.trans l)).from ((aR.trans d).trans e).le)⟩,⟨rfl,(show In .i64 (0:Int) by decide)⟩⟩
 refine fB g (fun Ly g=>?_) (fun Ly g=>?_)
 ·refine aI b (c9 _ _ _) rfl (aO rfl ?_)
  refine aI b (c9 _ _ _) rfl (k rfl ?_)
  refine bF (oT.aY (K5.aD (m.trans n)) rfl) fun v G ⟨c,O⟩=>?_
  obtain⟨Mj,Li⟩:∃ z,z=oJ (eB,D):=⟨_,rfl⟩
  rw [← Li] at O
  replace g:=cC Li g
  obtain⟨_,_,rfl,⟨Mk,Ml,rfl,Lz⟩,⟨rfl,LA⟩⟩:=O
  refine dP rfl (aM (bZ rfl (aM (aO rfl (aM (k rfl (bP (aM (bI rfl (bP (?_)))))))))))
  have H:=c.aD
  have a:=(a.B c)
  refine bK a (w _ _) rfl fun P a h i=>?_
  refine bK a (w _ _) rfl fun K6 a j l=>?_
  refine aI a (w _ _) rfl (aO rfl ?_)
  refine aI a (w _ _) rfl (k rfl ?_)
  exact g _ _ (a1.B (a1.B (((aR.trans d).trans e).trans c) h f) j f) ⟨_,_,rfl,⟨_,_,rfl,((Lz.aD (i.trans l)).from ((aR.trans d).trans e).le)⟩,⟨rfl,LA⟩⟩
 refine fB g (fun LB g=>?_) (fun LB g=>?_)
 ·refine aI b (w _ _) rfl (bI rfl ?_)
  refine g3 ?_
  refine g3 ?_
  refine aI b (c9 _ _ _) rfl (aO rfl ?_)
  refine aI b (c9 _ _ _) rfl (k rfl ?_)
  refine aI b (c9 _ _ _) rfl (aO rfl ?_)
  refine aI b (c9 _ _ _) rfl (k rfl ?_)
  refine bF (h3.aY (iS _ _) (K5.aD (m.trans n)) rfl (K9.aD (m.trans n)) rfl) fun v G ⟨c,O⟩=>?_
  obtain⟨Mm,Lj⟩:∃ z,z=h4 ((IntKind.i64.wrap (((IntKind.i64.wrap (E - (7:Int))))+(0:Int)))) (eB,D) (e9,K7):=⟨_,rfl⟩
  rw [← Lj] at O
  replace g:=cC Lj g
  obtain⟨_,_,rfl,⟨Mn,Mo,rfl,LC⟩,⟨rfl,LD⟩⟩:=O
  refine dP rfl (aM (bZ rfl (aM (aO rfl (aM (k rfl (bP (aM (bI rfl (bP (?_)))))))))))
  have H:=c.aD
  have a:=(a.B c)
  refine bK a (w _ _) rfl fun P a h i=>?_
  refine bK a (w _ _) rfl fun K6 a j l=>?_
  refine aI a (w _ _) rfl (aO rfl ?_)
  refine aI a (w _ _) rfl (k rfl ?_)
  exact g _ _ (a1.B (a1.B (((aR.trans d).trans e).trans c) h f) j f) ⟨_,_,rfl,⟨_,_,rfl,((LC.aD (i.trans l)).from ((aR.trans d).trans e).le)⟩,⟨rfl,LD⟩⟩
 refine fB g (fun LF g=>?_) (fun LF g=>?_)
 ·refine aI b (w _ _) rfl (bI rfl ?_)
  refine g3 ?_
  refine g3 ?_
  refine aI b (c9 _ _ _) rfl (aO rfl ?_)
  refine aI b (c9 _ _ _) rfl (k rfl ?_)
  refine aI b (c9 _ _ _) rfl (aO rfl ?_)
  refine aI b (c9 _ _ _) rfl (k rfl ?_)
  refine bF (h3.aY (iS _ _) (K5.aD (m.trans n)) rfl (K9.aD (m.trans n)) rfl) fun v G ⟨c,O⟩=>?_
  obtain⟨Mp,Lk⟩:∃ z,z=h4 ((IntKind.i64.wrap (((IntKind.i64.wrap (E - (7:Int))))+(0:Int)))) (eB,D) (e9,K7):=⟨_,rfl⟩
  rw [← Lk] at O
  replace g:=cC Lk g
  obtain⟨_,_,rfl,⟨Mq,Mr,rfl,LG⟩,⟨rfl,LH⟩⟩:=O
  refine dP rfl (aM (bZ rfl (aM (aO rfl (aM (k rfl (bP (aM (bI rfl (bP (?_)))))))))))
  have H:=c.aD
  have a:=(a.B c)
  refine bK a (w _ _) rfl fun P a h i=>?_
  refine bK a (w _ _) rfl fun K6 a j l=>?_
  refine aI a (w _ _) rfl (aO rfl ?_)
  refine aI a (w _ _) rfl (k rfl ?_)
  exact g _ _ (a1.B (a1.B (((aR.trans d).trans e).trans c) h f) j f) ⟨_,_,rfl,⟨_,_,rfl,((LG.aD (i.trans l)).from ((aR.trans d).trans e).le)⟩,⟨rfl,LH⟩⟩
 refine fB g (fun LI g=>?_) (fun LI g=>?_)
 ·refine aI b (w _ _) rfl (bI rfl ?_)
  refine g3 ?_
  refine g3 ?_
  refine aI b (c9 _ _ _) rfl (aO rfl ?_)
  refine aI b (c9 _ _ _) rfl (k rfl ?_)
  refine aI b (c9 _ _ _) rfl (aO rfl ?_)
  refine aI b (c9 _ _ _) rfl (k rfl ?_)
  refine bF (h3.aY (iS _ _) (K5.aD (m.trans n)) rfl (K9.aD (m.trans n)) rfl) fun v G ⟨c,O⟩=>?_
  obtain⟨Ms,Ll⟩:∃ z,z=h4 ((IntKind.i64.wrap (((IntKind.i64.wrap (E - (7:Int))))+(0:Int)))) (eB,D) (e9,K7):=⟨_,rfl⟩
  rw [← Ll] at O
  replace g:=cC Ll g
  obtain⟨_,_,rfl,⟨Mt,Mu,rfl,LJ⟩,⟨rfl,LK⟩⟩:=O
  refine dP rfl (aM (bZ rfl (aM (aO rfl (aM (k rfl (bP (aM (bI rfl (bP (?_)))))))))))
  have H:=c.aD
  have a:=(a.B c)
  refine bK a (w _ _) rfl fun P a h i=>?_
  refine bK a (w _ _) rfl fun K6 a j l=>?_
  refine aI a (w _ _) rfl (aO rfl ?_)
  refine aI a (w _ _) rfl (k rfl ?_)
  exact g _ _ (a1.B (a1.B (((aR.trans d).trans e).trans c) h f) j f) ⟨_,_,rfl,⟨_,_,rfl,((LJ.aD (i.trans l)).from ((aR.trans d).trans e).le)⟩,⟨rfl,LK⟩⟩
 refine fB g (fun LL g=>?_) (fun LL g=>?_)
 ·refine aI b (w _ _) rfl (bI rfl ?_)
  refine g3 ?_
  refine g3 ?_
  refine aI b (c9 _ _ _) rfl (aO rfl ?_)
  refine aI b (c9 _ _ _) rfl (k rfl ?_)
  refine aI b (w _ _) rfl (bI rfl ?_)
  refine bF (k5.aY (iS _ _) (K5.aD (m.trans n)) rfl La) fun v G ⟨c,O⟩=>?_
  obtain⟨Mv,Lm⟩:∃ z,z=mQ ((IntKind.i64.wrap (((IntKind.i64.wrap (E - (10:Int))))+(0:Int)))) (eB,D) K8:=⟨_,rfl⟩
  rw [← Lm] at O
  replace g:=cC Lm g
  obtain⟨_,_,rfl,⟨Mw,Mx,rfl,LM⟩,⟨rfl,LN⟩⟩:=O
  refine dP rfl (aM (bZ rfl (aM (aO rfl (aM (k rfl (bP (aM (bI rfl (bP (?_)))))))))))
  have H:=c.aD
  have a:=(a.B c)
  refine bK a (w _ _) rfl fun P a h i=>?_
  refine bK a (w _ _) rfl fun K6 a j l=>?_
  refine aI a (w _ _) rfl (aO rfl ?_)
  refine aI a (w _ _) rfl (k rfl ?_)
  exact g _ _ (a1.B (a1.B (((aR.trans d).trans e).trans c) h f) j f) ⟨_,_,rfl,⟨_,_,rfl,((LM.aD (i.trans l)).from ((aR.trans d).trans e).le)⟩,⟨rfl,LN⟩⟩
 refine fB g (fun LO g=>?_) (fun LO g=>?_)
 ·refine aI b (w _ _) rfl (bI rfl ?_)
  refine g3 ?_
  refine g3 ?_
  refine aI b (c9 _ _ _) rfl (aO rfl ?_)
  refine aI b (c9 _ _ _) rfl (k rfl ?_)
  refine aI b (w _ _) rfl (bI rfl ?_)
  refine bF (k5.aY (iS _ _) (K5.aD (m.trans n)) rfl La) fun v G ⟨c,O⟩=>?_
  obtain⟨My,Ln⟩:∃ z,z=mQ ((IntKind.i64.wrap (((IntKind.i64.wrap (E - (10:Int))))+(0:Int)))) (eB,D) K8:=⟨_,rfl⟩
  rw [← Ln] at O
  replace g:=cC Ln g
  obtain⟨_,_,rfl,⟨Mz,MA,rfl,LP⟩,⟨rfl,LQ⟩⟩:=O
  refine dP rfl (aM (bZ rfl (aM (aO rfl (aM (k rfl (bP (aM (bI rfl (bP (?_)))))))))))
  have H:=c.aD
  have a:=(a.B c)
  refine bK a (w _ _) rfl fun P a h i=>?_
  refine bK a (w _ _) rfl fun K6 a j l=>?_
  refine aI a (w _ _) rfl (aO rfl ?_)
  refine aI a (w _ _) rfl (k rfl ?_)
  exact g _ _ (a1.B (a1.B (((aR.trans d).trans e).trans c) h f) j f) ⟨_,_,rfl,⟨_,_,rfl,((LP.aD (i.trans l)).from ((aR.trans d).trans e).le)⟩,⟨rfl,LQ⟩⟩
 refine fB g (fun LR g=>?_) (fun LR g=>?_)
 ·refine aI b (w _ _) rfl (bI rfl ?_)
  refine g3 ?_
  refine g3 ?_
  refine aI b (c9 _ _ _) rfl (aO rfl ?_)
  refine aI b (c9 _ _ _) rfl (k rfl ?_)
  refine aI b (w _ _) rfl (bI rfl ?_)
  refine bF (k5.aY (iS _ _) (K5.aD (m.trans n)) rfl La) fun v G ⟨c,O⟩=>?_
  obtain⟨MB,Lo⟩:∃ z,z=mQ ((IntKind.i64.wrap (((IntKind.i64.wrap (E - (10:Int))))+(0:Int)))) (eB,D) K8:=⟨_,rfl⟩
  rw [← Lo] at O
  replace g:=cC Lo g
  obtain⟨_,_,rfl,⟨MC,MD,rfl,LS⟩,⟨rfl,LU⟩⟩:=O
  refine dP rfl (aM (bZ rfl (aM (aO rfl (aM (k rfl (bP (aM (bI rfl (bP (?_)))))))))))
  have H:=c.aD
  have a:=(a.B c)
  refine bK a (w _ _) rfl fun P a h i=>?_
  refine bK a (w _ _) rfl fun K6 a j l=>?_
  refine aI a (w _ _) rfl (aO rfl ?_)
  refine aI a (w _ _) rfl (k rfl ?_)
  exact g _ _ (a1.B (a1.B (((aR.trans d).trans e).trans c) h f) j f) ⟨_,_,rfl,⟨_,_,rfl,((LS.aD (i.trans l)).from ((aR.trans d).trans e).le)⟩,⟨rfl,LU⟩⟩
 refine fB g (fun LV g=>?_) (fun LV g=>?_)
 ·refine aI b (w _ _) rfl (bI rfl ?_)
  refine g3 ?_
  refine g3 ?_
  refine aI b (c9 _ _ _) rfl (aO rfl ?_)
  refine aI b (c9 _ _ _) rfl (k rfl ?_)
  refine aI b (w _ _) rfl (bI rfl ?_)
  refine bF (k5.aY (iS _ _) (K5.aD (m.trans n)) rfl La) fun v G ⟨c,O⟩=>?_
  obtain⟨ME,Lp⟩:∃ z,z=mQ ((IntKind.i64.wrap (((IntKind.i64.wrap (E - (10:Int))))+(0:Int)))) (eB,D) K8:=⟨_,rfl⟩
  rw [← Lp] at O
  replace g:=cC Lp g
  obtain⟨_,_,rfl,⟨MF,MG,rfl,LW⟩,⟨rfl,LX⟩⟩:=O
  refine dP rfl (aM (bZ rfl (aM (aO rfl (aM (k rfl (bP (aM (bI rfl (bP (?_)))))))))))
  have H:=c.aD
  have a:=(a.B c)
  refine bK a (w _ _) rfl fun P a h i=>?_
  refine bK a (w _ _) rfl fun K6 a j l=>?_
  refine aI a (w _ _) rfl (aO rfl ?_)
  refine aI a (w _ _) rfl (k rfl ?_)
  exact g _ _ (a1.B (a1.B (((aR.trans d).trans e).trans c) h f) j f) ⟨_,_,rfl,⟨_,_,rfl,((LW.aD (i.trans l)).from ((aR.trans d).trans e).le)⟩,⟨rfl,LX⟩⟩
 refine fB g (fun LY g=>?_) (fun LY g=>?_)
 ·refine aI b (w _ _) rfl (bI rfl ?_)
  refine g3 ?_
  refine g3 ?_
  refine aI b (c9 _ _ _) rfl (aO rfl ?_)
  refine aI b (c9 _ _ _) rfl (k rfl ?_)
  refine aI b (c9 _ _ _) rfl (aO rfl ?_)
  refine aI b (c9 _ _ _) rfl (k rfl ?_)
  refine bF (h3.aY (iS _ _) (K5.aD (m.trans n)) rfl (K9.aD (m.trans n)) rfl) fun v G ⟨c,O⟩=>?_
  obtain⟨MH,Lq⟩:∃ z,z=h4 ((IntKind.i64.wrap (((IntKind.i64.wrap (E - (14:Int))))+(3:Int)))) (eB,D) (e9,K7):=⟨_,rfl⟩
  rw [← Lq] at O
  replace g:=cC Lq g
  obtain⟨_,_,rfl,⟨MI,MJ,rfl,LZ⟩,⟨rfl,L0⟩⟩:=O
  refine dP rfl (aM (bZ rfl (aM (aO rfl (aM (k rfl (bP (aM (bI rfl (bP (?_)))))))))))
  have H:=c.aD
  have a:=(a.B c)
  refine bK a (w _ _) rfl fun P a h i=>?_
  refine bK a (w _ _) rfl fun K6 a j l=>?_
  refine aI a (w _ _) rfl (aO rfl ?_)
  refine aI a (w _ _) rfl (k rfl ?_)
  exact g _ _ (a1.B (a1.B (((aR.trans d).trans e).trans c) h f) j f) ⟨_,_,rfl,⟨_,_,rfl,((LZ.aD (i.trans l)).from ((aR.trans d).trans e).le)⟩,⟨rfl,L0⟩⟩
 refine fB g (fun L1 g=>?_) (fun L1 g=>?_)
 ·refine aI b (w _ _) rfl (bI rfl ?_)
  refine g3 ?_
  refine g3 ?_
  refine aI b (c9 _ _ _) rfl (aO rfl ?_)
  refine aI b (c9 _ _ _) rfl (k rfl ?_)
  refine aI b (c9 _ _ _) rfl (aO rfl ?_)
  refine aI b (c9 _ _ _) rfl (k rfl ?_)
  refine bF (h3.aY (iS _ _) (K5.aD (m.trans n)) rfl (K9.aD (m.trans n)) rfl) fun v G ⟨c,O⟩=>?_
  obtain⟨MK,Lr⟩:∃ z,z=h4 ((IntKind.i64.wrap (((IntKind.i64.wrap (E - (14:Int))))+(3:Int)))) (eB,D) (e9,K7):=⟨_,rfl⟩
  rw [← Lr] at O
  replace g:=cC Lr g
  obtain⟨_,_,rfl,⟨ML,MM,rfl,L2⟩,⟨rfl,L3⟩⟩:=O
  refine dP rfl (aM (bZ rfl (aM (aO rfl (aM (k rfl (bP (aM (bI rfl (bP (?_)))))))))))
  have H:=c.aD
  have a:=(a.B c)
  refine bK a (w _ _) rfl fun P a h i=>?_
  refine bK a (w _ _) rfl fun K6 a j l=>?_
  refine aI a (w _ _) rfl (aO rfl ?_)
  refine aI a (w _ _) rfl (k rfl ?_)
  exact g _ _ (a1.B (a1.B (((aR.trans d).trans e).trans c) h f) j f) ⟨_,_,rfl,⟨_,_,rfl,((L2.aD (i.trans l)).from ((aR.trans d).trans e).le)⟩,⟨rfl,L3⟩⟩
 refine fB g (fun L4 g=>?_) (fun L4 g=>?_)
 ·refine aI b (w _ _) rfl (bI rfl ?_)
  refine g3 ?_
  refine g3 ?_
  refine aI b (c9 _ _ _) rfl (aO rfl ?_)
  refine aI b (c9 _ _ _) rfl (k rfl ?_)
  refine aI b (c9 _ _ _) rfl (aO rfl ?_)
  refine aI b (c9 _ _ _) rfl (k rfl ?_)
  refine bF (h3.aY (iS _ _) (K5.aD (m.trans n)) rfl (K9.aD (m.trans n)) rfl) fun v G ⟨c,O⟩=>?_
  obtain⟨MN,Ls⟩:∃ z,z=h4 ((IntKind.i64.wrap (((IntKind.i64.wrap (E - (14:Int))))+(3:Int)))) (eB,D) (e9,K7):=⟨_,rfl⟩
  rw [← Ls] at O
  replace g:=cC Ls g
  obtain⟨_,_,rfl,⟨MO,MP,rfl,L5⟩,⟨rfl,L6⟩⟩:=O
  refine dP rfl (aM (bZ rfl (aM (aO rfl (aM (k rfl (bP (aM (bI rfl (bP (?_)))))))))))
  have H:=c.aD
  have a:=(a.B c)
  refine bK a (w _ _) rfl fun P a h i=>?_
  refine bK a (w _ _) rfl fun K6 a j l=>?_
  refine aI a (w _ _) rfl (aO rfl ?_)
  refine aI a (w _ _) rfl (k rfl ?_)
  exact g _ _ (a1.B (a1.B (((aR.trans d).trans e).trans c) h f) j f) ⟨_,_,rfl,⟨_,_,rfl,((L5.aD (i.trans l)).from ((aR.trans d).trans e).le)⟩,⟨rfl,L6⟩⟩
 refine fB g (fun L7 g=>?_) (fun L7 g=>?_)
 ·refine aI b (w _ _) rfl (bI rfl ?_)
  refine g3 ?_
  refine g3 ?_
  refine aI b (c9 _ _ _) rfl (aO rfl ?_)
  refine aI b (c9 _ _ _) rfl (k rfl ?_)
  refine aI b (c9 _ _ _) rfl (aO rfl ?_)
  refine aI b (c9 _ _ _) rfl (k rfl ?_)
  refine bF (h3.aY (iS _ _) (K5.aD (m.trans n)) rfl (K9.aD (m.trans n)) rfl) fun v G ⟨c,O⟩=>?_
  obtain⟨MQ,Lt⟩:∃ z,z=h4 ((IntKind.i64.wrap (((IntKind.i64.wrap (E - (14:Int))))+(3:Int)))) (eB,D) (e9,K7):=⟨_,rfl⟩
  rw [← Lt] at O
  replace g:=cC Lt g
  obtain⟨_,_,rfl,⟨MR,MS,rfl,L8⟩,⟨rfl,L9⟩⟩:=O
  refine dP rfl (aM (bZ rfl (aM (aO rfl (aM (k rfl (bP (aM (bI rfl (bP (?_)))))))))))
  have H:=c.aD
  have a:=(a.B c)
  refine bK a (w _ _) rfl fun P a h i=>?_
  refine bK a (w _ _) rfl fun K6 a j l=>?_
  refine aI a (w _ _) rfl (aO rfl ?_)
  refine aI a (w _ _) rfl (k rfl ?_)
  exact g _ _ (a1.B (a1.B (((aR.trans d).trans e).trans c) h f) j f) ⟨_,_,rfl,⟨_,_,rfl,((L8.aD (i.trans l)).from ((aR.trans d).trans e).le)⟩,⟨rfl,L9⟩⟩
 refine bK a (w _ _) rfl fun G a c H=>?_
 refine bK a (w _ _) rfl fun P a h i=>?_
 refine aI a (w _ _) rfl (aO rfl ?_)
 refine aI a (w _ _) rfl (k rfl ?_)
 exact g _ _ (a1.B (a1.B ((aR.trans d).trans e) c f) h f) ⟨_,_,rfl,⟨_,_,rfl,(cN.nil _ _)⟩,⟨rfl,(show In .i64 (0:Int) by decide)⟩⟩
def v(a:Int)(eB:Bool)(b:List Nat)(e9:Bool)(c:List Nat)(d:Int):((Bool × List Nat) × Int):=F.v a eB b e9 c d
theorem aU{Z:V}{a:Int}(b:In .i64 a){eB:Bool}{c:U}{d e:Nat}{f:List Nat}(g:bJ Z c d f)(h:e=f.length){e9:Bool}{i:U}{j l:Nat}{m:List Nat}(n:bJ Z i j m)(t:l=m.length){D:Int}(E:In .i64 D):aF id #[.agg #[.int .i64 a,.bool eB,.slice c e d,.bool e9,.slice i l j,.int .i64 D]] Z fun c d=>a4 Z d∧(s2 dZ (c3 .i64)) Z d c (v a eB f e9 m D):=
 ok (F.aU (a4.refl _) b g h n t E fun v A M O=>⟨M,O⟩)
end oW
namespace iA
def aC.v(cU:Bool)(a:List Nat)(a:Bool)(b:List Nat)(c:Int):((Bool × List Nat) × Int):=
 ((a,b),c)
theorem aC.aU{Y:K}{aB Z:V}(aR:a4 aB Z){cU:Bool}{h:U}{i:Nat}{c:List Nat}(K6:cN dQ aB Z h i c){b:Nat}(a:cR Z b [.bool cU,.slice h c.length i])(j:aB.size≤b){l:Bool}{m:U}{n:Nat}{d:List Nat}(D:cN dQ aB Z m n d){dT:Nat}(e:cR Z dT [.bool l,.slice m d.length n])(K7:aB.size≤dT){f:Int}(E:In .i64 f)(K8:b ≠ dT)(dX:gK Z)(g:dS (s2 dZ (c3 .i64)) aB Y (aC.v cU c l d f)):aC.t Y (⟨b,0,none⟩:Addr) (⟨dT,0,none⟩:Addr) f Z:=by
 have K9:=a.lt
 have La:=e.lt
 unfold aC.v at g
 unfold aC.t
 refine aI e (w _ _) rfl (aO rfl ?_)
 refine aI e (w _ _) rfl (k rfl ?_)
 refine bK a (w _ _) rfl fun Lb a G H=>?_
 refine bK a (w _ _) rfl fun Lc a P K5=>?_
 refine aI a (w _ _) rfl (aO rfl ?_)
 refine aI a (w _ _) rfl (k rfl ?_)
 exact g _ _ (a1.B (a1.B aR G j) P j) ⟨_,_,rfl,⟨_,_,rfl,(D.aD (H.trans K5))⟩,⟨rfl,E⟩⟩
def F.v(a:Int)(eB:Bool)(b:List Nat)(e9:Bool)(c:List Nat)(d:Int):((Bool × List Nat) × Int):=
 bif (a == (1:Int)) then
  bY (fE d) fun e=>
  aC.v false ([]:List Nat) e.1 e.2 (0:Int)
 else
  bif (a == (6:Int)) then
   bY (oJ (eB,b)) fun e=>
   aC.v false ([]:List Nat) e.1.1 e.1.2 e.2
  else
   bif (a == (7:Int)) then
    bY (gR nZ (eB,b) (e9,c)) fun e=>
    aC.v false ([]:List Nat) e.1.1 e.1.2 e.2
   else
    bif (a == (8:Int)) then
     bY (gR vL (eB,b) (e9,c)) fun e=>
     aC.v false ([]:List Nat) e.1.1 e.1.2 e.2
    else
     bif (a == (9:Int)) then
      bY (gR oK (eB,b) (e9,c)) fun e=>
      aC.v false ([]:List Nat) e.1.1 e.1.2 e.2
     else
      bif (a == (10:Int)) then
       bY (qK (eB,b) d) fun e=>
       aC.v false ([]:List Nat) e.1.1 e.1.2 e.2
      else
       bif (a == (11:Int)) then
        bY (iM e4 (eB,b) d) fun e=>
        aC.v false ([]:List Nat) e.1.1 e.1.2 e.2
       else
        bif (a == (12:Int)) then
         bY (iM iL (eB,b) d) fun e=>
         aC.v false ([]:List Nat) e.1.1 e.1.2 e.2
        else
         bif (a == (13:Int)) then
          bY (iM gY (eB,b) d) fun d=>
          aC.v false ([]:List Nat) d.1.1 d.1.2 d.2
         else
          bif (a == (14:Int)) then
           bY (hM e4 (eB,b) (e9,c)) fun d=>
           aC.v false ([]:List Nat) d.1.1 d.1.2 d.2
          else
           bif (a == (15:Int)) then
            bY (hM iL (eB,b) (e9,c)) fun d=>
            aC.v false ([]:List Nat) d.1.1 d.1.2 d.2
           else
            bif (a == (16:Int)) then
             bY (hM gY (eB,b) (e9,c)) fun d=>
             aC.v false ([]:List Nat) d.1.1 d.1.2 d.2
            else
             bif (a == (17:Int)) then
              bY (hM iV (eB,b) (e9,c)) fun a=>
              aC.v false ([]:List Nat) a.1.1 a.1.2 a.2
             else
              aC.v false ([]:List Nat) false ([]:List Nat) (0:Int)
theorem F.aU{Y:K}{aB Z:V}(aR:a4 aB Z){Lf:Int}(Mf:In .i64 Lf){eB:Bool}{Lg:U}{Lh Li:Nat}{K5:List Nat}(K7:bJ Z Lg Lh K5)(Lz:Li=K5.length){e9:Bool}{Lj:U}{Lk Ll:Nat}{Lb:List Nat}(Ld:bJ Z Lj Lk Lb)(LA:Ll=Lb.length){Lc:Int}(Le:In .i64 Lc)(dX:gK Z)(g:dS (s2 dZ (c3 .i64)) aB Y (F.v Lf eB K5 e9 Lb Lc)):F.t Y Lf eB Lg Li Lh e9 Lj Ll Lk Lc Z:=by
 subst Lz LA
 unfold F.v at g
 unfold F.t
 refine cK fun Mg c G=>?_
 have Mh:=aR.le
 have Mi:=c.lt
 have n:=G.aD
 refine cK fun Mj d H=>?_
 have K6:=(aR.trans G).le
 have f:=d.lt
 have D:=H.aD
 refine cK fun Mk a e=>?_
 have h:=((aR.trans G).trans H).le
 have Ml:=a.lt
 have E:=e.aD
 have c:=((c.B H).B e)
 refine aI c (w _ _) rfl (bI rfl ?_)
 refine fB g (fun LB g=>?_) (fun LB g=>?_)
 ·refine aI c (w _ _) rfl (bI rfl ?_)
  refine bF (kD.aY Le) fun v K8 ⟨b,O⟩=>?_
  obtain⟨Mm,Lm⟩:∃ z,z=fE Lc:=⟨_,rfl⟩
  rw [← Lm] at O
  replace g:=cC Lm g
  obtain⟨Mn,Mo,rfl,LC⟩:=O
  refine bZ rfl (aM (aO rfl (aM (k rfl (bP (?_))))))
  have P:=b.aD
  have a:=(a.B b)
  refine bK a (w _ _) rfl fun K9 a i j=>?_
  refine bK a (w _ _) rfl fun La a l m=>?_
  have d:=((((d.B e).B b).bT (Nat.ne_of_lt f) i).bT (Nat.ne_of_lt f) l)
  exact aC.aU (a1.B (a1.B ((((aR.trans G).trans H).trans e).trans b) i h) l h) (cN.nil _ _) d K6 ((LC.aD (j.trans m)).from (((aR.trans G).trans H).trans e).le) a h (show In .i64 (0:Int) by decide) (Nat.ne_of_lt f) (dX.aD (n.trans (D.trans (E.trans (P.trans (j.trans m)))))) g
 refine fB g (fun LD g=>?_) (fun LD g=>?_)
 ·refine aI c (c9 _ _ _) rfl (aO rfl ?_)
  refine aI c (c9 _ _ _) rfl (k rfl ?_)
  refine bF (oL.aY (K7.aD (n.trans (D.trans E))) rfl) fun v K8 ⟨b,O⟩=>?_
  obtain⟨Mp,Ln⟩:∃ z,z=oJ (eB,K5):=⟨_,rfl⟩
  rw [← Ln] at O
  replace g:=cC Ln g
  obtain⟨_,_,rfl,⟨Mq,Mr,rfl,LF⟩,⟨rfl,LG⟩⟩:=O
  refine dP rfl (aM (bZ rfl (aM (aO rfl (aM (k rfl (bP (aM (bI rfl (bP (?_)))))))))))
  have P:=b.aD
  have a:=(a.B b)
  refine bK a (w _ _) rfl fun K9 a i j=>?_
  refine bK a (w _ _) rfl fun La a l m=>?_
  have d:=((((d.B e).B b).bT (Nat.ne_of_lt f) i).bT (Nat.ne_of_lt f) l)
  exact aC.aU (a1.B (a1.B ((((aR.trans G).trans H).trans e).trans b) i h) l h) (cN.nil _ _) d K6 ((LF.aD (j.trans m)).from (((aR.trans G).trans H).trans e).le) a h LG (Nat.ne_of_lt f) (dX.aD (n.trans (D.trans (E.trans (P.trans (j.trans m)))))) g
 refine fB g (fun LH g=>?_) (fun LH g=>?_)
 ·refine aI c (c9 _ _ _) rfl (aO rfl ?_)
  refine aI c (c9 _ _ _) rfl (k rfl ?_)
  refine aI c (c9 _ _ _) rfl (aO rfl ?_)
  refine aI c (c9 _ _ _) rfl (k rfl ?_)
  refine bF (kQ.aY (K7.aD (n.trans (D.trans E))) rfl (Ld.aD (n.trans (D.trans E))) rfl) fun v K8 ⟨b,O⟩=>?_
  obtain⟨Ms,Lo⟩:∃ z,z=gR nZ (eB,K5) (e9,Lb):=⟨_,rfl⟩
  rw [← Lo] at O
  replace g:=cC Lo g
  obtain⟨_,_,rfl,⟨Mt,Mu,rfl,LI⟩,⟨rfl,LJ⟩⟩:=O
  refine dP rfl (aM (bZ rfl (aM (aO rfl (aM (k rfl (bP (aM (bI rfl (bP (?_)))))))))))
  have P:=b.aD
  have a:=(a.B b)
  refine bK a (w _ _) rfl fun K9 a i j=>?_
  refine bK a (w _ _) rfl fun La a l m=>?_
  have d:=((((d.B e).B b).bT (Nat.ne_of_lt f) i).bT (Nat.ne_of_lt f) l)
  exact aC.aU (a1.B (a1.B ((((aR.trans G).trans H).trans e).trans b) i h) l h) (cN.nil _ _) d K6 ((LI.aD (j.trans m)).from (((aR.trans G).trans H).trans e).le) a h LJ (Nat.ne_of_lt f) (dX.aD (n.trans (D.trans (E.trans (P.trans (j.trans m)))))) g
 refine fB g (fun LK g=>?_) (fun LK g=>?_)
 ·refine aI c (c9 _ _ _) rfl (aO rfl ?_)
  refine aI c (c9 _ _ _) rfl (k rfl ?_)
  refine aI c (c9 _ _ _) rfl (aO rfl ?_)
  refine aI c (c9 _ _ _) rfl (k rfl ?_)
  refine bF (n0.aY (K7.aD (n.trans (D.trans E))) rfl (Ld.aD (n.trans (D.trans E))) rfl) fun v K8 ⟨b,O⟩=>?_
  obtain⟨Mv,Lp⟩:∃ z,z=gR vL (eB,K5) (e9,Lb):=⟨_,rfl⟩
  rw [← Lp] at O
  replace g:=cC Lp g
  obtain⟨_,_,rfl,⟨Mw,Mx,rfl,LL⟩,⟨rfl,LM⟩⟩:=O
  refine dP rfl (aM (bZ rfl (aM (aO rfl (aM (k rfl (bP (aM (bI rfl (bP (?_)))))))))))
  have P:=b.aD
  have a:=(a.B b)
  refine bK a (w _ _) rfl fun K9 a i j=>?_
  refine bK a (w _ _) rfl fun La a l m=>?_
  have d:=((((d.B e).B b).bT (Nat.ne_of_lt f) i).bT (Nat.ne_of_lt f) l)
  exact aC.aU (a1.B (a1.B ((((aR.trans G).trans H).trans e).trans b) i h) l h) (cN.nil _ _) d K6 ((LL.aD (j.trans m)).from (((aR.trans G).trans H).trans e).le) a h LM (Nat.ne_of_lt f) (dX.aD (n.trans (D.trans (E.trans (P.trans (j.trans m)))))) g
 refine fB g (fun LN g=>?_) (fun LN g=>?_)
 ·refine aI c (c9 _ _ _) rfl (aO rfl ?_)
  refine aI c (c9 _ _ _) rfl (k rfl ?_)
  refine aI c (c9 _ _ _) rfl (aO rfl ?_)
  refine aI c (c9 _ _ _) rfl (k rfl ?_)
  refine bF (kR.aY (K7.aD (n.trans (D.trans E))) rfl (Ld.aD (n.trans (D.trans E))) rfl) fun v K8 ⟨b,O⟩=>?_
  obtain⟨My,Lq⟩:∃ z,z=gR oK (eB,K5) (e9,Lb):=⟨_,rfl⟩
  rw [← Lq] at O
  replace g:=cC Lq g
  obtain⟨_,_,rfl,⟨Mz,MA,rfl,LO⟩,⟨rfl,LP⟩⟩:=O
  refine dP rfl (aM (bZ rfl (aM (aO rfl (aM (k rfl (bP (aM (bI rfl (bP (?_)))))))))))
  have P:=b.aD
  have a:=(a.B b)
  refine bK a (w _ _) rfl fun K9 a i j=>?_
  refine bK a (w _ _) rfl fun La a l m=>?_
  have d:=((((d.B e).B b).bT (Nat.ne_of_lt f) i).bT (Nat.ne_of_lt f) l)
  exact aC.aU (a1.B (a1.B ((((aR.trans G).trans H).trans e).trans b) i h) l h) (cN.nil _ _) d K6 ((LO.aD (j.trans m)).from (((aR.trans G).trans H).trans e).le) a h LP (Nat.ne_of_lt f) (dX.aD (n.trans (D.trans (E.trans (P.trans (j.trans m)))))) g
 refine fB g (fun LQ g=>?_) (fun LQ g=>?_)
 ·refine aI c (c9 _ _ _) rfl (aO rfl ?_)
  refine aI c (c9 _ _ _) rfl (k rfl ?_)
  refine aI c (w _ _) rfl (bI rfl ?_)
  refine bF (oM.aY (K7.aD (n.trans (D.trans E))) rfl Le) fun v K8 ⟨b,O⟩=>?_
  obtain⟨MB,Lr⟩:∃ z,z=qK (eB,K5) Lc:=⟨_,rfl⟩
  rw [← Lr] at O
  replace g:=cC Lr g
  obtain⟨_,_,rfl,⟨MC,MD,rfl,LR⟩,⟨rfl,LS⟩⟩:=O
  refine dP rfl (aM (bZ rfl (aM (aO rfl (aM (k rfl (bP (aM (bI rfl (bP (?_)))))))))))
  have P:=b.aD
  have a:=(a.B b)
  refine bK a (w _ _) rfl fun K9 a i j=>?_
  refine bK a (w _ _) rfl fun La a l m=>?_
  have d:=((((d.B e).B b).bT (Nat.ne_of_lt f) i).bT (Nat.ne_of_lt f) l)
  exact aC.aU (a1.B (a1.B ((((aR.trans G).trans H).trans e).trans b) i h) l h) (cN.nil _ _) d K6 ((LR.aD (j.trans m)).from (((aR.trans G).trans H).trans e).le) a h LS (Nat.ne_of_lt f) (dX.aD (n.trans (D.trans (E.trans (P.trans (j.trans m)))))) g
 refine fB g (fun LU g=>?_) (fun LU g=>?_)
 ·refine aI c (c9 _ _ _) rfl (aO rfl ?_)
  refine aI c (c9 _ _ _) rfl (k rfl ?_)
  refine aI c (w _ _) rfl (bI rfl ?_)
  refine bF (rC.aY (K7.aD (n.trans (D.trans E))) rfl Le (dX.aD (n.trans (D.trans E)))) fun v K8 ⟨b,O⟩=>?_
  obtain⟨ME,Ls⟩:∃ z,z=iM e4 (eB,K5) Lc:=⟨_,rfl⟩
  rw [← Ls] at O
  replace g:=cC Ls g
  obtain⟨_,_,rfl,⟨MF,MG,rfl,LV⟩,⟨rfl,LW⟩⟩:=O
  refine dP rfl (aM (bZ rfl (aM (aO rfl (aM (k rfl (bP (aM (bI rfl (bP (?_)))))))))))
  have P:=b.aD
  have a:=(a.B b)
  refine bK a (w _ _) rfl fun K9 a i j=>?_
  refine bK a (w _ _) rfl fun La a l m=>?_
  have d:=((((d.B e).B b).bT (Nat.ne_of_lt f) i).bT (Nat.ne_of_lt f) l)
  exact aC.aU (a1.B (a1.B ((((aR.trans G).trans H).trans e).trans b) i h) l h) (cN.nil _ _) d K6 ((LV.aD (j.trans m)).from (((aR.trans G).trans H).trans e).le) a h LW (Nat.ne_of_lt f) (dX.aD (n.trans (D.trans (E.trans (P.trans (j.trans m)))))) g
 refine fB g (fun LX g=>?_) (fun LX g=>?_)
 ·refine aI c (c9 _ _ _) rfl (aO rfl ?_)
  refine aI c (c9 _ _ _) rfl (k rfl ?_)
  refine aI c (w _ _) rfl (bI rfl ?_)
  refine bF (rD.aY (K7.aD (n.trans (D.trans E))) rfl Le (dX.aD (n.trans (D.trans E)))) fun v K8 ⟨b,O⟩=>?_
  obtain⟨MH,Lt⟩:∃ z,z=iM iL (eB,K5) Lc:=⟨_,rfl⟩
  rw [← Lt] at O
  replace g:=cC Lt g
  obtain⟨_,_,rfl,⟨MI,MJ,rfl,LY⟩,⟨rfl,LZ⟩⟩:=O
  refine dP rfl (aM (bZ rfl (aM (aO rfl (aM (k rfl (bP (aM (bI rfl (bP (?_)))))))))))
  have P:=b.aD
  have a:=(a.B b)
  refine bK a (w _ _) rfl fun K9 a i j=>?_
  refine bK a (w _ _) rfl fun La a l m=>?_
  have d:=((((d.B e).B b).bT (Nat.ne_of_lt f) i).bT (Nat.ne_of_lt f) l)
  exact aC.aU (a1.B (a1.B ((((aR.trans G).trans H).trans e).trans b) i h) l h) (cN.nil _ _) d K6 ((LY.aD (j.trans m)).from (((aR.trans G).trans H).trans e).le) a h LZ (Nat.ne_of_lt f) (dX.aD (n.trans (D.trans (E.trans (P.trans (j.trans m)))))) g
 refine fB g (fun L0 g=>?_) (fun L0 g=>?_)
 ·refine aI c (c9 _ _ _) rfl (aO rfl ?_)
  refine aI c (c9 _ _ _) rfl (k rfl ?_)
  refine aI c (w _ _) rfl (bI rfl ?_)
  refine bF (rE.aY (K7.aD (n.trans (D.trans E))) rfl Le (dX.aD (n.trans (D.trans E)))) fun v K8 ⟨b,O⟩=>?_
  obtain⟨MK,Lu⟩:∃ z,z=iM gY (eB,K5) Lc:=⟨_,rfl⟩
  rw [← Lu] at O
  replace g:=cC Lu g
  obtain⟨_,_,rfl,⟨ML,MM,rfl,L1⟩,⟨rfl,L2⟩⟩:=O
  refine dP rfl (aM (bZ rfl (aM (aO rfl (aM (k rfl (bP (aM (bI rfl (bP (?_)))))))))))
  have P:=b.aD
  have a:=(a.B b)
  refine bK a (w _ _) rfl fun K9 a i j=>?_
  refine bK a (w _ _) rfl fun La a l m=>?_
  have d:=((((d.B e).B b).bT (Nat.ne_of_lt f) i).bT (Nat.ne_of_lt f) l)
  exact aC.aU (a1.B (a1.B ((((aR.trans G).trans H).trans e).trans b) i h) l h) (cN.nil _ _) d K6 ((L1.aD (j.trans m)).from (((aR.trans G).trans H).trans e).le) a h L2 (Nat.ne_of_lt f) (dX.aD (n.trans (D.trans (E.trans (P.trans (j.trans m)))))) g
 refine fB g (fun L3 g=>?_) (fun L3 g=>?_)
 ·refine aI c (c9 _ _ _) rfl (aO rfl ?_)
  refine aI c (c9 _ _ _) rfl (k rfl ?_)
  refine aI c (c9 _ _ _) rfl (aO rfl ?_)
  refine aI c (c9 _ _ _) rfl (k rfl ?_)
  refine bF (rF.aY (K7.aD (n.trans (D.trans E))) rfl (Ld.aD (n.trans (D.trans E))) rfl) fun v K8 ⟨b,O⟩=>?_
  obtain⟨MN,Lv⟩:∃ z,z=hM e4 (eB,K5) (e9,Lb):=⟨_,rfl⟩
  rw [← Lv] at O
  replace g:=cC Lv g
  obtain⟨_,_,rfl,⟨MO,MP,rfl,L4⟩,⟨rfl,L5⟩⟩:=O
  refine dP rfl (aM (bZ rfl (aM (aO rfl (aM (k rfl (bP (aM (bI rfl (bP (?_)))))))))))
  have P:=b.aD
  have a:=(a.B b)
  refine bK a (w _ _) rfl fun K9 a i j=>?_
  refine bK a (w _ _) rfl fun La a l m=>?_
  have d:=((((d.B e).B b).bT (Nat.ne_of_lt f) i).bT (Nat.ne_of_lt f) l)
  exact aC.aU (a1.B (a1.B ((((aR.trans G).trans H).trans e).trans b) i h) l h) (cN.nil _ _) d K6 ((L4.aD (j.trans m)).from (((aR.trans G).trans H).trans e).le) a h L5 (Nat.ne_of_lt f) (dX.aD (n.trans (D.trans (E.trans (P.trans (j.trans m)))))) g
 refine fB g (fun L6 g=>?_) (fun L6 g=>?_)
 ·refine aI c (c9 _ _ _) rfl (aO rfl ?_)
  refine aI c (c9 _ _ _) rfl (k rfl ?_)
  refine aI c (c9 _ _ _) rfl (aO rfl ?_)
  refine aI c (c9 _ _ _) rfl (k rfl ?_)
  refine bF (rG.aY (K7.aD (n.trans (D.trans E))) rfl (Ld.aD (n.trans (D.trans E))) rfl) fun v K8 ⟨b,O⟩=>?_
  obtain⟨MQ,Lw⟩:∃ z,z=hM iL (eB,K5) (e9,Lb):=⟨_,rfl⟩
  rw [← Lw] at O
  replace g:=cC Lw g
  obtain⟨_,_,rfl,⟨MR,MS,rfl,L7⟩,⟨rfl,L8⟩⟩:=O
  refine dP rfl (aM (bZ rfl (aM (aO rfl (aM (k rfl (bP (aM (bI rfl (bP (?_)))))))))))
  have P:=b.aD
  have a:=(a.B b)
  refine bK a (w _ _) rfl fun K9 a i j=>?_
  refine bK a (w _ _) rfl fun La a l m=>?_
  have d:=((((d.B e).B b).bT (Nat.ne_of_lt f) i).bT (Nat.ne_of_lt f) l)
  exact aC.aU (a1.B (a1.B ((((aR.trans G).trans H).trans e).trans b) i h) l h) (cN.nil _ _) d K6 ((L7.aD (j.trans m)).from (((aR.trans G).trans H).trans e).le) a h L8 (Nat.ne_of_lt f) (dX.aD (n.trans (D.trans (E.trans (P.trans (j.trans m)))))) g
 refine fB g (fun L9 g=>?_) (fun L9 g=>?_)
 ·refine aI c (c9 _ _ _) rfl (aO rfl ?_)
  refine aI c (c9 _ _ _) rfl (k rfl ?_)
  refine aI c (c9 _ _ _) rfl (aO rfl ?_)
  refine aI c (c9 _ _ _) rfl (k rfl ?_)
  refine bF (rH.aY (K7.aD (n.trans (D.trans E))) rfl (Ld.aD (n.trans (D.trans E))) rfl) fun v K8 ⟨b,O⟩=>?_
  obtain⟨MT,Lx⟩:∃ z,z=hM gY (eB,K5) (e9,Lb):=⟨_,rfl⟩
  rw [← Lx] at O
  replace g:=cC Lx g
  obtain⟨_,_,rfl,⟨MU,MV,rfl,Ma⟩,⟨rfl,Mb⟩⟩:=O
  refine dP rfl (aM (bZ rfl (aM (aO rfl (aM (k rfl (bP (aM (bI rfl (bP (?_)))))))))))
  have P:=b.aD
  have a:=(a.B b)
  refine bK a (w _ _) rfl fun K9 a i j=>?_
  refine bK a (w _ _) rfl fun La a l m=>?_
  have d:=((((d.B e).B b).bT (Nat.ne_of_lt f) i).bT (Nat.ne_of_lt f) l)
  exact aC.aU (a1.B (a1.B ((((aR.trans G).trans H).trans e).trans b) i h) l h) (cN.nil _ _) d K6 ((Ma.aD (j.trans m)).from (((aR.trans G).trans H).trans e).le) a h Mb (Nat.ne_of_lt f) (dX.aD (n.trans (D.trans (E.trans (P.trans (j.trans m)))))) g
 refine fB g (fun Mc g=>?_) (fun Mc g=>?_)
 ·refine aI c (c9 _ _ _) rfl (aO rfl ?_)
  refine aI c (c9 _ _ _) rfl (k rfl ?_)
  refine aI c (c9 _ _ _) rfl (aO rfl ?_)
  refine aI c (c9 _ _ _) rfl (k rfl ?_)
  refine bF (mN.aY (K7.aD (n.trans (D.trans E))) rfl (Ld.aD (n.trans (D.trans E))) rfl) fun v K8 ⟨b,O⟩=>?_
  obtain⟨MW,Ly⟩:∃ z,z=hM iV (eB,K5) (e9,Lb):=⟨_,rfl⟩
  rw [← Ly] at O
  replace g:=cC Ly g
  obtain⟨_,_,rfl,⟨MX,MY,rfl,Md⟩,⟨rfl,Me⟩⟩:=O
  refine dP rfl (aM (bZ rfl (aM (aO rfl (aM (k rfl (bP (aM (bI rfl (bP (?_)))))))))))
  have P:=b.aD
  have a:=(a.B b)
  refine bK a (w _ _) rfl fun K9 a i j=>?_
  refine bK a (w _ _) rfl fun La a l m=>?_
  have d:=((((d.B e).B b).bT (Nat.ne_of_lt f) i).bT (Nat.ne_of_lt f) l)
  exact aC.aU (a1.B (a1.B ((((aR.trans G).trans H).trans e).trans b) i h) l h) (cN.nil _ _) d K6 ((Md.aD (j.trans m)).from (((aR.trans G).trans H).trans e).le) a h Me (Nat.ne_of_lt f) (dX.aD (n.trans (D.trans (E.trans (P.trans (j.trans m)))))) g
 have d:=(d.B e)
 exact aC.aU (((aR.trans G).trans H).trans e) (cN.nil _ _) d K6 (cN.nil _ _) a h (show In .i64 (0:Int) by decide) (Nat.ne_of_lt f) (dX.aD (n.trans (D.trans E))) g
def v(a:Int)(eB:Bool)(b:List Nat)(e9:Bool)(c:List Nat)(d:Int):((Bool × List Nat) × Int):=F.v a eB b e9 c d
theorem aU{Z:V}{a:Int}(b:In .i64 a){eB:Bool}{c:U}{d e:Nat}{f:List Nat}(g:bJ Z c d f)(h:e=f.length){e9:Bool}{i:U}{j l:Nat}{m:List Nat}(n:bJ Z i j m)(t:l=m.length){D:Int}(E:In .i64 D)(dX:gK Z):aF id #[.agg #[.int .i64 a,.bool eB,.slice c e d,.bool e9,.slice i l j,.int .i64 D]] Z fun c d=>a4 Z d∧(s2 dZ (c3 .i64)) Z d c (v a eB f e9 m D):=
 ok (F.aU (a4.refl _) b g h n t E dX fun v A M O=>⟨M,O⟩)
end iA
namespace pR
def F.v(a:Int)(eB:Bool)(b:List Nat)(e9:Bool)(c:List Nat)(d:Int)(aT:Bool)(d:List Nat)(cU:Bool)(e:List Nat):Bool:=
 bif (a == (2:Int)) then
  bY (decide (eJ (eB,b))) fun f=>
  ((decide (eJ (aT,d))) == f)
 else
  bif (a == (3:Int)) then
   (((gA (eV (aT,d)) 0)) == ((gA (eV (eB,b)) 0)))
  else
   bif (a == (4:Int)) then
    bY (nA (aT,d)) fun f=>
    bY (nA (eB,b)) fun g=>
    bif (f.1 == g.1) then
     (f.2 == g.2)
    else
     false
   else
    bif (a == (5:Int)) then
     bY (qL (aT,d) (cU,e)) fun a=>
     bY (qL (eB,b) (e9,c)) fun b=>
     bif (a.1 == b.1) then
      (a.2 == b.2)
     else
      false
    else
     true
theorem F.aU{Y:K}{aB Z:V}(aR:a4 aB Z){K5:Int}(LI:In .i64 K5){eB:Bool}{Lc:U}{Ld Le:Nat}{n:List Nat}(E:bJ Z Lc Ld n)(Lu:Le=n.length){e9:Bool}{Lf:U}{Lg Lh:Nat}{G:List Nat}(Lv:bJ Z Lf Lg G)(Lw:Lh=G.length){K6:Int}(LJ:In .i64 K6){aT:Bool}{Li:U}{Lj Lk:Nat}{D:List Nat}(H:bJ Z Li Lj D)(Lx:Lk=D.length){cU:Bool}{Ll:U}{Lm Ln:Nat}{P:List Nat}(Ly:bJ Z Ll Lm P)(Lz:Ln=P.length)(g:dS h0 aB Y (F.v K5 eB n e9 G K6 aT D cU P)):F.t Y K5 eB Lc Le Ld e9 Lf Lh Lg K6 aT Li Lk Lj cU Ll Ln Lm Z:=by
 subst Lu Lw Lx Lz
 unfold F.v at g
 unfold F.t
 refine cK fun LK a i=>?_
 have LL:=aR.le
 have Lo:=a.lt
 have j:=i.aD
 refine cK fun LM c l=>?_
 have LN:=(aR.trans i).le
 have Lp:=c.lt
 have h:=l.aD
 refine cK fun LO K7 f=>?_
 have LP:=((aR.trans i).trans l).le
 have LQ:=K7.lt
 have e:=f.aD
 have a:=((a.B l).B f)
 refine aI a (w _ _) rfl (bI rfl ?_)
 refine fB g (fun LA g=>?_) (fun LA g=>?_)
 ·have c:=(c.B f)
  refine⟨eY rfl ((e).lt Lp),?_⟩
  refine aI c (w _ _) rfl (aO rfl ?_)
  refine aI c (w _ _) rfl (k rfl ?_)
  refine bF (eQ.aY (H.aD (j.trans (h.trans e))) rfl) fun v K8 ⟨b,O⟩=>?_
  obtain rfl:=O
  refine aO rfl (?_)
  have m:=b.aD
  refine⟨b.c1 (Nat.le_refl _),?_⟩
  have a:=(a.B b)
  refine⟨eY (w _ _) ((h.trans e).lt Lo),?_⟩
  refine aI a (c9 _ _ _) rfl (aO rfl ?_)
  refine aI a (c9 _ _ _) rfl (k rfl ?_)
  refine bF (iW.aY (E.aD (j.trans (h.trans (e.trans m)))) rfl) fun v K9 ⟨d,O⟩=>?_
  obtain⟨LR,La⟩:∃ z,z=decide (eJ (eB,n)):=⟨_,rfl⟩
  rw [← La] at O
  replace g:=cC La g
  have LB:=sG eB n
  rw [← La] at LB
  obtain rfl:=O
  refine aO rfl (?_)
  have Lb:=d.aD
  refine⟨d.c1 (m).le,?_⟩
  exact g _ _ (((((aR.trans i).trans l).trans f).trans b).trans d) rfl
 refine fB g (fun LC g=>?_) (fun LC g=>?_)
 ·have c:=(c.B f)
  refine⟨eY rfl ((e).lt Lp),?_⟩
  refine aI c (w _ _) rfl (aO rfl ?_)
  refine aI c (w _ _) rfl (k rfl ?_)
  refine bF (nB.aY (H.aD (j.trans (h.trans e))) rfl) fun v K8 ⟨b,O⟩=>?_
  obtain⟨rfl,LS⟩:=O
  refine bI rfl (?_)
  have m:=b.aD
  refine⟨b.c1 (Nat.le_refl _),?_⟩
  have a:=(a.B b)
  refine⟨eY (w _ _) ((h.trans e).lt Lo),?_⟩
  refine aI a (c9 _ _ _) rfl (aO rfl ?_)
  refine aI a (c9 _ _ _) rfl (k rfl ?_)
  refine bF (oV.aY (E.aD (j.trans (h.trans (e.trans m)))) rfl) fun v K9 ⟨d,O⟩=>?_
  obtain⟨rfl,LU⟩:=O
  refine bI rfl (?_)
  have Lb:=d.aD
  refine⟨d.c1 (m).le,?_⟩
  exact g _ _ (((((aR.trans i).trans l).trans f).trans b).trans d) rfl
 refine fB g (fun LD g=>?_) (fun LD g=>?_)
 ·have c:=(c.B f)
  refine aI c (w _ _) rfl (aO rfl ?_)
  refine aI c (w _ _) rfl (k rfl ?_)
  refine bF (mM.aY (H.aD (j.trans (h.trans e))) rfl) fun v K8 ⟨b,O⟩=>?_
  obtain⟨LV,Lq⟩:∃ z,z=nA (aT,D):=⟨_,rfl⟩
  rw [← Lq] at O
  replace g:=cC Lq g
  obtain⟨_,_,rfl,⟨rfl,LW⟩,⟨rfl,LX⟩⟩:=O
  refine dP rfl (aM (bI rfl (aM (bI rfl (bP (?_))))))
  have m:=b.aD
  have a:=(a.B b)
  refine aI a (c9 _ _ _) rfl (aO rfl ?_)
  refine aI a (c9 _ _ _) rfl (k rfl ?_)
  refine bF (oU.aY (E.aD (j.trans (h.trans (e.trans m)))) rfl) fun v K9 ⟨d,O⟩=>?_
  obtain⟨LY,Lr⟩:∃ z,z=nA (eB,n):=⟨_,rfl⟩
  rw [← Lr] at O
  replace g:=cC Lr g
  obtain⟨_,_,rfl,⟨rfl,LZ⟩,⟨rfl,L0⟩⟩:=O
  refine dP rfl (aM (bI rfl (aM (bI rfl (bP (?_))))))
  have Lb:=d.aD
  refine fB g (fun LF g=>?_) (fun LF g=>?_)
  ·exact g _ _ (((((aR.trans i).trans l).trans f).trans b).trans d) rfl
  exact g _ _ (((((aR.trans i).trans l).trans f).trans b).trans d) rfl
 refine fB g (fun LG g=>?_) (fun LG g=>?_)
 ·have c:=(c.B f)
  refine aI c (w _ _) rfl (aO rfl ?_)
  refine aI c (w _ _) rfl (k rfl ?_)
  refine aI K7 (w _ _) rfl (aO rfl ?_)
  refine aI K7 (w _ _) rfl (k rfl ?_)
  refine bF (nC.aY (H.aD (j.trans (h.trans e))) rfl (Ly.aD (j.trans (h.trans e))) rfl) fun v K8 ⟨b,O⟩=>?_
  obtain⟨L1,Ls⟩:∃ z,z=qL (aT,D) (cU,P):=⟨_,rfl⟩
  rw [← Ls] at O
  replace g:=cC Ls g
  obtain⟨_,_,rfl,⟨rfl,L2⟩,⟨rfl,L3⟩⟩:=O
  refine dP rfl (aM (bI rfl (aM (bI rfl (bP (?_))))))
  have m:=b.aD
  have a:=(a.B b)
  refine aI a (c9 _ _ _) rfl (aO rfl ?_)
  refine aI a (c9 _ _ _) rfl (k rfl ?_)
  refine aI a (c9 _ _ _) rfl (aO rfl ?_)
  refine aI a (c9 _ _ _) rfl (k rfl ?_)
  refine bF (n3.aY (E.aD (j.trans (h.trans (e.trans m)))) rfl (Lv.aD (j.trans (h.trans (e.trans m)))) rfl) fun v K9 ⟨d,O⟩=>?_
  obtain⟨L4,Lt⟩:∃ z,z=qL (eB,n) (e9,G):=⟨_,rfl⟩
  rw [← Lt] at O
  replace g:=cC Lt g
  obtain⟨_,_,rfl,⟨rfl,L5⟩,⟨rfl,L6⟩⟩:=O
  refine dP rfl (aM (bI rfl (aM (bI rfl (bP (?_))))))
  have Lb:=d.aD
  refine fB g (fun LH g=>?_) (fun LH g=>?_)
  ·exact g _ _ (((((aR.trans i).trans l).trans f).trans b).trans d) rfl
  exact g _ _ (((((aR.trans i).trans l).trans f).trans b).trans d) rfl
 exact g _ _ (((aR.trans i).trans l).trans f) rfl
def v(a:Int)(eB:Bool)(b:List Nat)(e9:Bool)(c:List Nat)(d:Int)(aT:Bool)(e:List Nat)(cU:Bool)(f:List Nat):Bool:=F.v a eB b e9 c d aT e cU f
theorem aU{Z:V}{a:Int}(b:In .i64 a){eB:Bool}{c:U}{d e:Nat}{f:List Nat}(g:bJ Z c d f)(h:e=f.length){e9:Bool}{i:U}{j l:Nat}{m:List Nat}(n:bJ Z i j m)(t:l=m.length){D:Int}(E:In .i64 D){aT:Bool}{G:U}{H P:Nat}{K5:List Nat}(K6:bJ Z G H K5)(K7:P=K5.length){cU:Bool}{K8:U}{K9 La:Nat}{Lb:List Nat}(Lc:bJ Z K8 K9 Lb)(Ld:La=Lb.length):aF id #[.agg #[.int .i64 a,.bool eB,.slice c e d,.bool e9,.slice i l j,.int .i64 D],.agg #[.bool aT,.slice G P H],.agg #[.bool cU,.slice K8 La K9]] Z fun G H=>a4 Z H∧h0 Z H G (v a eB f e9 m D aT K5 cU Lb):=
 ok (F.aU (a4.refl _) b g h n t E K6 K7 Lc Ld fun v A M O=>⟨M,O⟩)
end pR
section
variable {a:U} {L l:Nat} {T:List Nat} {Z:V} {z:Bool}
theorem hC.aY(s:bJ Z a L T)(J:l=T.length):aF hC.id #[.agg #[.bool z,.slice a l L]] Z fun v A=>a4 Z A∧dZ Z A v (z,T):=hC.aU s J
end
theorem A3(M:Int)(I aN:fJ)(a9:Int→Int→Int)(Z:M < 3)(J:wV M=a9):h4 M I aN=gR a9 I aN:=by
 unfold h4 gR
 subst J
 by_cases g:eJ I∧eJ aN
 ·rw [if_pos g,if_pos g,if_neg (by omega)]
 ·rw [if_neg g,if_neg g]
theorem y4(M:Int)(I aN:fJ)(a9:Int→Int→Int)(Z:3≤M)(J:wV M=a9):h4 M I aN=hM a9 I aN:=by
 unfold h4 hM
 subst J
 by_cases g:eJ I∧eJ aN
 ·rw [if_pos g,if_pos g]
  by_cases b3:eV aN=0
  ·rw [if_pos ⟨Z,b3⟩,if_pos b3]
  ·rw [if_neg (fun Z=>b3 Z.2),if_neg b3]
 ·rw [if_neg g,if_neg g]
theorem I4(M:Int)(N:Bool)(T:List Nat)(L:Bool)(u:List Nat)(n:Int):oW.v M N T L u n=iA.v M N T L u n:=by
 unfold oW.v oW.F.v iA.v iA.F.v iA.aC.v
 simp only [bY,DR]
 by_cases a0:M=1
 ·subst a0;rfl
 by_cases a:M=6
 ·subst a;rfl
 by_cases b:M=7
 ·subst b
  have J:h4 (IntKind.i64.wrap (IntKind.i64.wrap (7 - 7)+0)) (N,T) (L,u)=gR nZ (N,T) (L,u):=A3 0 _ _ _ (by decide) rfl
  rw [J];rfl
 by_cases c:M=8
 ·subst c
  have J:h4 (IntKind.i64.wrap (IntKind.i64.wrap (8 - 7)+0)) (N,T) (L,u)=gR vL (N,T) (L,u):=A3 1 _ _ _ (by decide) rfl
  rw [J];rfl
 by_cases d:M=9
 ·subst d
  have J:h4 (IntKind.i64.wrap (IntKind.i64.wrap (9 - 7)+0)) (N,T) (L,u)=gR oK (N,T) (L,u):=A3 2 _ _ _ (by decide) rfl
  rw [J];rfl
 by_cases e:M=10
 ·subst e
  have J:mQ (IntKind.i64.wrap (IntKind.i64.wrap (10 - 10)+0)) (N,T) n=qK (N,T) n:=rfl
  rw [J];rfl
 by_cases f:M=11
 ·subst f
  have J:mQ (IntKind.i64.wrap (IntKind.i64.wrap (11 - 10)+0)) (N,T) n=iM e4 (N,T) n:=rfl
  rw [J];rfl
 by_cases g:M=12
 ·subst g
  have J:mQ (IntKind.i64.wrap (IntKind.i64.wrap (12 - 10)+0)) (N,T) n=iM iL (N,T) n:=rfl
  rw [J];rfl
 by_cases h:M=13
 ·subst h
  have J:mQ (IntKind.i64.wrap (IntKind.i64.wrap (13 - 10)+0)) (N,T) n=iM gY (N,T) n:=rfl
  rw [J];rfl
 by_cases i:M=14
 ·subst i
  have J:h4 (IntKind.i64.wrap (IntKind.i64.wrap (14 - 14)+3)) (N,T) (L,u)=hM e4 (N,T) (L,u):=y4 3 _ _ _ (by decide) rfl
  rw [J];rfl
 by_cases j:M=15
 ·subst j
  have J:h4 (IntKind.i64.wrap (IntKind.i64.wrap (15 - 14)+3)) (N,T) (L,u)=hM iL (N,T) (L,u):=y4 4 _ _ _ (by decide) rfl
  rw [J];rfl
 by_cases l:M=16
 ·subst l
  have J:h4 (IntKind.i64.wrap (IntKind.i64.wrap (16 - 14)+3)) (N,T) (L,u)=hM gY (N,T) (L,u):=y4 5 _ _ _ (by decide) rfl
  rw [J];rfl
 by_cases t:M=17
 ·subst t
  have J:h4 (IntKind.i64.wrap (IntKind.i64.wrap (17 - 14)+3)) (N,T) (L,u)=hM iV (N,T) (L,u):=y4 6 _ _ _ (by decide) rfl
  rw [J];rfl
 have b3:∀ m:Int,¬ M=m→(M == m)=false:=fun m Z=>by simp [Z]
 rw [b3 1 a0,b3 6 a,b3 7 b,b3 8 c,b3 9 d,b3 10 e,b3 11 f,b3 12 g,b3 13 h,b3 14 i,b3 15 j,b3 16 l,b3 17 t]
 rfl
def y5(Q C:Int):Int:=IntKind.u64.wrap (IntKind.u64.wrap (11944390636716687360+jM .u64 (IntKind.u64.wrap (IntKind.i64.wrap (Q+1))) 24)+IntKind.u64.wrap C)
def jG(Q C:Int):Nat:=(y5 Q C).toNat
theorem y6(Q C:Int):jG Q C < 18446744073709551616:=by
 have:=pB.mp (iS .u64 (IntKind.u64.wrap (11944390636716687360+jM .u64 (IntKind.u64.wrap (IntKind.i64.wrap (Q+1))) 24)+IntKind.u64.wrap C))
 unfold jG y5;omega
theorem I5(Q C:Int):y5 Q C=((jG Q C:Nat):Int):=by
 have:=pB.mp (iS .u64 (IntKind.u64.wrap (11944390636716687360+jM .u64 (IntKind.u64.wrap (IntKind.i64.wrap (Q+1))) 24)+IntKind.u64.wrap C))
 unfold jG y5;omega
theorem I6(Q C:Int)(Z:V):aF l2.id #[.int .i64 Q,.int .i64 C] Z fun v A=>v=.int .u64 ((jG Q C:Nat):Int)∧A=Z:=by
 refine l2.ok ?_
 unfold l2.t l2.F.t
 refine⟨⟨by decide,⟨⟨⟨⟨?_,rfl⟩⟩⟩⟩⟩⟩
 rw [← I5];rfl
theorem sH(Q C:Int){Z:V}{p:Int→Prop}(g:p ((jG Q C:Nat):Int)):j8 l2.id #[.int .i64 Q,.int .i64 C] Z fun v=>aV .u64 v p:=
 ⟨_,I6 Q C Z,bI rfl g⟩
def marks(n:Nat):List Nat:=(List.range 80).map fun M=>jG (-1) ((n+M:Nat):Int)
theorem l3(n:Nat):(marks n).length=80:=by simp [marks]
theorem D3{n M:Nat}(a:M < 80):(marks n)[M]?=some (jG (-1) ((n+M:Nat):Int)):=by
 simp [marks,a]
theorem y7{a:U}{L l:Nat}{T:List Nat}{Z:V}(s:bJ Z a L T)(e:l=T.length)(aP:T.length≤35184372088700):
  aF lQ.id #[.slice a l L] Z fun v A=>a4 Z A∧∃ o,Z.size≤o∧v=.tuple #[.slice (some ⟨o,0,none⟩) T.length (T.length+80),.slice (some ⟨o,0,none⟩) (T.length+80) (T.length+80)]∧eM A o (T ++ marks T.length):=by
 subst e
 refine lQ.ok ?_
 unfold lQ.t lQ.F.t
 refine cP ((T.length+80:Nat):Int) (by omega) (by omega) (by omega) ?_
 refine nQ (T.length+80) rfl rfl rfl rfl (by omega) fun a0 f c=>?_
 refine v8 f (s.B c) (by simp;omega) rfl (Nat.le_refl _) c fun g d h=>?_
 have i:List.take (List.replicate (T.length+80) 0).length T ++ List.drop T.length (List.replicate (T.length+80) 0)=T ++ ((marks T.length).take 0 ++ List.replicate (80 - 0) 0):=by
  rw [List.length_replicate,List.take_of_length_le (by omega),List.drop_replicate,List.take_zero,List.nil_append]
  congr 2;omega
 rw [i] at d
 unfold lQ.a7.t
 refine⟨80+1,?_⟩
 have j:∀ (M C:Nat) (b:V),C+M=80→a4 Z b→eM b Z.size (T ++ ((marks T.length).take C ++ List.replicate (80 - C) 0))→
   lQ.bG.t (fun v A=>a4 Z A∧∃ o,Z.size≤o∧v=.tuple #[.slice (some ⟨o,0,none⟩) T.length (T.length+80),.slice (some ⟨o,0,none⟩) (T.length+80) (T.length+80)]∧eM A o (T ++ marks T.length)) (M+1) a T.length L (some ⟨Z.size,0,none⟩) (T.length+80) (T.length+80) ((T.length+C:Nat):Int) b:=by
  intro M
  induction M with
  | zero=>
   intro C b m b1 q
   unfold lQ.bG.t lQ.b0.t
   refine cD (fun aP=>absurd aP (by omega)) fun _=>?_
   have n:C=80:=by omega
   subst n
   rw [List.take_of_length_le (by rw [l3];omega),Nat.sub_self,List.replicate_zero,List.append_nil] at q
   unfold lQ.aC.t
   refine u3 rfl (by omega) ?_
   exact⟨b1,Z.size,Nat.le_refl _,rfl,q⟩
  | succ M D=>
   intro C b m b1 q
   unfold lQ.bG.t lQ.b0.t
   refine cD (fun _=>?_) fun aP=>absurd (by omega) aP
   refine sH _ _ ?_
   refine mX q (C:=T.length+C) rfl (by simp [l3];omega) (by simp [l3];omega) rfl (y6 _ _) fun E=>?_
   refine cP ((T.length+(C+1):Nat):Int) (by omega) (by omega) (by omega) ?_
   refine D (C+1) _ (by omega) (a1.B b1 (a1.set _ _ _ _) (Nat.le_refl _)) ?_
   have G:(T ++ ((marks T.length).take C ++ List.replicate (80 - C) 0)).set (T.length+C) (jG (-1) ((T.length+C:Nat):Int))=T ++ ((marks T.length).take (C+1) ++ List.replicate (80 - (C+1)) 0):=by
    have H:((marks T.length).take C).length=C:=by rw [List.length_take,l3];omega
    rw [List.set_append_right _ _ (by omega),Nat.add_sub_cancel_left,List.set_append_right _ _ (by omega),H,Nat.sub_self,show 80 - C=80 - (C+1)+1 by omega,List.replicate_succ,List.set_cons_zero,List.take_add_one,D3 (by omega)]
    simp
   rw [← G];exact E
 exact j 80 0 g (by omega) h d
theorem I7{T:List Nat}{C:Nat}(a:C < T.length+80):(T ++ marks T.length).getD C 0=if C < T.length then T.getD C 0 else jG (-1) ((C:Nat):Int):=by
 split
 ·rename_i Z
  simp [List.getD,List.getElem?_append_left Z]
 ·rename_i Z
  have:(marks T.length)[C - T.length]?=some (jG (-1) ((T.length+(C - T.length):Nat):Int)):=D3 (by omega)
  rw [show T.length+(C - T.length)=C by omega] at this
  simp [List.getD,List.getElem?_append_right (show T.length≤C by omega),this]
theorem I8{a N:U}{L bH l m:Nat}{T:List Nat}{Z:V}(s:bJ Z a L (T ++ marks T.length))(O:bJ Z N bH T)(f:l=T.length+80)(g:m=T.length):
  aF kT.id #[.slice a l L,.slice N m bH] Z fun v A=>v=.bool true∧A=Z:=by
 subst f;subst g
 have a0:=s.len
 rw [List.length_append,l3] at a0
 refine kT.ok ?_
 unfold kT.t kT.F.t
 refine cP ((T.length+80:Nat):Int) (by omega) (by omega) (by omega) ?_
 refine mZ (fun b=>absurd rfl b) fun _=>?_
 unfold kT.a7.t
 refine⟨T.length+80+1,?_⟩
 have c:T.length+80=(T ++ marks T.length).length:=by rw [List.length_append,l3]
 have h:∀ (M C:Nat),C+M=T.length+80→kT.bG.t (fun v A=>v=.bool true∧A=Z) (M+1) a (T.length+80) L N T.length bH (C:Int) Z:=by
  intro M
  induction M with
  | zero=>
   intro C i
   unfold kT.bG.t kT.b0.t
   refine cD (fun aP=>absurd aP (by omega)) fun _=>?_
   exact⟨rfl,rfl⟩
  | succ M d=>
   intro C i
   unfold kT.bG.t kT.b0.t
   refine cD (fun _=>?_) fun aP=>absurd (by omega) aP
   have e:=I7 (T:=T) (C:=C) (by omega)
   refine cD (fun dE=>?_) fun j=>?_
   ·refine fG s (C:=C) rfl c (by omega) ?_
    refine fG O (C:=C) rfl rfl (by omega) ?_
    rw [e,if_pos (by omega)]
    refine mZ (fun b=>absurd rfl b) fun _=>?_
    refine cD (fun aP=>absurd aP (by omega)) fun _=>?_
    refine cP ((C+1:Nat):Int) (by omega) (by omega) (by omega) ?_
    exact d (C+1) (by omega)
   ·refine cD (fun _=>?_) fun aP=>absurd (by omega) aP
    refine fG s (C:=C) rfl c (by omega) ?_
    refine sH _ _ ?_
    rw [e,if_neg (by omega)]
    refine mZ (fun b=>absurd rfl b) fun _=>?_
    refine cP ((C+1:Nat):Int) (by omega) (by omega) (by omega) ?_
    exact d (C+1) (by omega)
 exact h (T.length+80) 0 (by omega)
theorem vO{a N:U}{L bH l m:Nat}{T:List Nat}{Z:V}(s:bJ Z a L (T ++ marks T.length))(O:bJ Z N bH T)(b:l=T.length+80)(c:m=T.length){p:Bool→Prop}(g:p true):
  j8 kT.id #[.slice a l L,.slice N m bH] Z fun v=>b9 v p:=⟨_,I8 s O b c,aO rfl g⟩
theorem I9{I:Int}{p:Int→Prop}(g:∀ n:Nat,n < 18446744073709551616→p (n:Int)):a2 (uN .u64 I) p:=by
 refine⟨?_⟩
 have:=pB.mp (show In .u64 (uN .u64 I) from iS _ _)
 obtain⟨n,a⟩:=Int.eq_ofNat_of_zero_le this.1
 rw [a];exact g n (by omega)
theorem D4{o l L:Nat}{aK:List Nat}{Z:V}(q:eM Z o aK)(d:l=aK.length):
  aF n5.id #[.slice (some ⟨o,0,none⟩) l L] Z fun v A=>v=.tuple #[]∧a1 o Z A∧∃ fI,eM A o fI∧fI.length=aK.length:=by
 subst d
 have a0:=q.len
 refine n5.ok ?_
 unfold n5.t n5.F.t
 refine⟨aK.length+1,?_⟩
 have e:∀ (M C:Nat) (fI:List Nat) (a:V),C+M=aK.length→fI.length=aK.length→a1 o Z a→eM a o fI→n5.e3.t (fun v A=>v=.tuple #[]∧a1 o Z A∧∃ fI,eM A o fI∧fI.length=aK.length) (M+1) (some ⟨o,0,none⟩) aK.length L (C:Int) a:=by
  intro M
  induction M with
  | zero=>
   intro C fI a f b b1 c
   unfold n5.e3.t n5.a7.t
   refine cD (fun aP=>absurd aP (by omega)) fun _=>?_
   exact⟨rfl,b1,fI,c,b⟩
  | succ M g=>
   intro C fI a f b b1 c
   unfold n5.e3.t n5.a7.t
   refine cD (fun _=>?_) fun aP=>absurd (by omega) aP
   refine sH _ _ ?_
   refine I9 fun n h=>?_
   refine mX c (C:=C) rfl b.symm (by omega) rfl h fun i=>?_
   refine cP ((C+1:Nat):Int) (by omega) (by omega) (by omega) ?_
   exact g (C+1) _ _ (by omega) (by simp [b]) (b1.trans (a1.set _ _ _ _)) i
 exact e aK.length 0 aK Z (by omega) rfl (a1.refl _ _) q
def gD(Q:Nat):Nat→Nat→List Nat
 | _,0=>[]
 | M,n+1=>jG (Q:Int) (M:Int) :: gD Q (M+1) n
theorem jH(Q:Nat):∀ M n,(gD Q M n).length=n
 | _,0=>rfl
 | M,n+1=>by simp [gD,jH Q (M+1) n]
theorem A4(Q:Nat):∀ M n,∀ I ∈ gD Q M n,dQ.ok I
 | _,0=>by simp [gD]
 | M,n+1=>by
  intro I a
  rcases List.mem_cons.mp a with J | J
  ·subst J;exact y6 _ _
  ·exact A4 Q (M+1) n I J
theorem y8(Q:Nat):∀ M n m,gD Q M (n+m)=gD Q M n ++ gD Q (M+n) m
 | M,0,m=>by simp [gD]
 | M,n+1,m=>by
  rw [show n+1+m=(n+m)+1 by omega]
  simp only [gD,List.cons_append]
  rw [y8 Q (M+1) n m,show M+1+n=M+(n+1) by omega]
theorem y9(Q:Nat):∀ M n C,C < n→(gD Q M n)[C]?=some (jG (Q:Int) ((M+C:Nat):Int))
 | M,0,C,Z=>absurd Z (by omega)
 | M,n+1,0,_=>by simp [gD]
 | M,n+1,C+1,Z=>by
  simp only [gD,List.getElem?_cons_succ]
  rw [y9 Q (M+1) n C (by omega),show M+1+C=M+(C+1) by omega]
theorem D5{Q M n C:Nat}(Z:C < n):(gD Q M n).getD C 0=jG (Q:Int) ((M+C:Nat):Int):=by simp [List.getD,y9 Q M n C Z]
theorem Ja{Q n C:Nat}:(gD Q 0 n).set C (jG (Q:Int) (C:Int))=gD Q 0 n:=by
 refine List.ext_getElem? fun z=>?_
 by_cases J:C=z
 ·subst J
  by_cases Z:C < n
  ·rw [List.getElem?_set_self (by rw [jH];exact Z),y9 Q 0 n C Z,Nat.zero_add]
  ·rw [List.set_eq_of_length_le (by rw [jH];omega)]
 ·rw [List.getElem?_set_ne J]
abbrev gO:=Nat→Option (Nat × Nat × Nat)
def sI(aX:gO)(N:Nat)(I:Nat × Nat × Nat):gO:=fun L=>if L=N then some I else aX L
theorem vP(aX:gO)(N:Nat)(I:Nat × Nat × Nat):sI aX N I N=some I:=by simp [sI]
theorem vQ{aX:gO}{N L:Nat}{I:Nat × Nat × Nat}(Z:L ≠ N):sI aX N I L=aX L:=by simp [sI,Z]
structure hY(c4 Z:V)(aX:gO):Prop where
 at_:∀ N Q bN m,aX N=some (Q,bN,m)→c4.size≤N∧∃ rest,dI dQ Z N (gD Q 0 bN ++ rest)∧bN+rest.length=m
theorem hY.lt{c4 Z:V}{aX:gO}(a:hY c4 Z aX){N:Nat}{I:Nat × Nat × Nat}(J:aX N=some I):N < Z.size:=by
 obtain⟨Q,bN,m⟩:=I
 obtain⟨_,rest,q,_⟩:=a.at_ N Q bN m J
 exact q.lt
theorem hY.ge{c4 Z:V}{aX:gO}(a:hY c4 Z aX){N:Nat}(aP:Z.size≤N):aX N=none:=by
 cases J:aX N with
 | none=>rfl
 | some I=>have:=a.lt J;omega
theorem hY.qY{c4 Z:V}{aX:gO}(a:hY c4 Z aX){N:Nat}(aP:N < c4.size):aX N=none:=by
 cases J:aX N with
 | none=>rfl
 | some I=>obtain⟨Q,bN,m⟩:=I;have:=(a.at_ N Q bN m J).1;omega
theorem hY.B{c4 Z A:V}{aX:gO}(a:hY c4 Z aX)(M:a4 Z A):hY c4 A aX:=
 ⟨fun N Q bN m J=>let ⟨a0,rest,q,b⟩:=a.at_ N Q bN m J;⟨a0,rest,q.B M,b⟩⟩
theorem hY.Ay{c4 Z A:V}{aX:gO}{a:U}(b:hY c4 Z aX)(M:qA a Z A)(c:∀ z,a=some z→aX z.block=none):hY c4 A aX:=
 ⟨fun N Q bN m J=>let ⟨a0,rest,q,d⟩:=b.at_ N Q bN m J;⟨a0,rest,q.Ay M (fun z e f=>(by rw [← f,c z e] at J;cases J)),d⟩⟩
structure iX(aX:gO)(Z:V)(g8:gO)(A:V):Prop where
 le:∀ N Q bN m,aX N=some (Q,bN,m)→∃ gH,bN≤gH∧g8 N=some (Q,gH,m)
 size:Z.size≤A.size
 off:∀ N,N < Z.size→aX N=none→g8 N=none∧A[N]?=Z[N]?
theorem iX.refl(aX:gO)(Z:V):iX aX Z aX Z:=⟨fun _ _ bN _ J=>⟨bN,Nat.le_refl _,J⟩,Nat.le_refl _,fun _ _ J=>⟨J,rfl⟩⟩
theorem iX.trans{aX g8 c:gO}{Z A d:V}(I:iX aX Z g8 A)(aN:iX g8 A c d):iX aX Z c d:=by
 refine⟨fun N Q bN m J=>?_,Nat.le_trans I.size aN.size,fun N aP J=>?_⟩
 ·obtain⟨e,a0,a⟩:=I.le N Q bN m J
  obtain⟨f,g,b⟩:=aN.le N Q e m a
  exact⟨f,Nat.le_trans a0 g,b⟩
 ·obtain⟨a,b⟩:=I.off N aP J
  obtain⟨h,i⟩:=aN.off N (Nat.lt_of_lt_of_le aP I.size) a
  exact⟨h,i.trans b⟩
theorem iX.B(aX:gO){Z A:V}(M:a4 Z A):iX aX Z aX A:=⟨fun _ _ bN _ J=>⟨bN,Nat.le_refl _,J⟩,M.le,fun N aP J=>⟨J,M.pre N aP⟩⟩
def iO(aX:gO)(Q C:Nat)(O:fU):Prop:=O.2.1≤O.2.2∧O.2.1≤17592186044416∧((O.1=none∧O.2.2=0)∨∃ N bN m,O.1=some ⟨N,0,none⟩∧aX N=some (Q,bN,m)∧C≤bN∧O.2.2≤m)
theorem iO.step{aX g8:gO}{Z A:V}{Q C:Nat}{O:fU}(dK:iO aX Q C O)(a:iX aX Z g8 A):iO g8 Q C O:=by
 obtain⟨a0,b,c⟩:=dK
 refine⟨a0,b,c.imp id ?_⟩
 rintro⟨N,bN,m,d,e,f,g⟩
 obtain⟨gH,h,J⟩:=a.le N Q bN m e
 exact⟨N,gH,m,d,J,Nat.le_trans f h,g⟩
theorem iO.Jb{aX:gO}{Q C:Nat}{O:fU}(dK:iO aX Q C O):iO aX Q 0 O:=by
 obtain⟨a0,a,b⟩:=dK
 refine⟨a0,a,b.imp id ?_⟩
 rintro⟨N,bN,m,c,d,f,e⟩
 exact⟨N,bN,m,c,d,Nat.zero_le _,e⟩
theorem Jc{Q bN n:Nat}(Z:n≤bN)(rest:List Nat):gD Q 0 bN ++ rest=gD Q 0 n ++ (gD Q n (bN - n) ++ rest):=by
 have J:=y8 Q 0 n (bN - n)
 rw [show n+(bN - n)=bN by omega,Nat.zero_add] at J
 rw [J,List.append_assoc]
theorem iO.rd{c4 Z:V}{aX:gO}{Q:Nat}{O:fU}(c:hY c4 Z aX)(dK:iO aX Q O.2.1 O):cB dQ Z O.1 O.2.2 (gD Q 0 O.2.1):=by
 obtain⟨a0,d,e⟩:=dK
 rcases e with ⟨a,b⟩ | ⟨N,bN,m,a,b,f,g⟩
 ·have:O.2.1=0:=by omega
  rw [this];exact cB.nil _ _ _
 ·obtain⟨_,rest,q,_⟩:=c.at_ N Q bN m b
  rw [Jc f] at q
  rw [a]
  exact q.rd (by rw [jH];exact Nat.le_trans d (by decide)) (by rw [jH];exact a0)
theorem hY.put{c4 Z:V}{aX:gO}(d:hY c4 Z aX){N Q bN m C:Nat}(J:aX N=some (Q,bN,m))(n:C≤bN)(t:C < m):
  hY c4 (fY Z ⟨N,C,none⟩ (g2 (jG (Q:Int) (C:Int)))) (sI aX N (Q,max bN (C+1),m))∧iX aX Z (sI aX N (Q,max bN (C+1),m)) (fY Z ⟨N,C,none⟩ (g2 (jG (Q:Int) (C:Int)))):=by
 constructor
 ·refine⟨fun L e gH f a=>?_⟩
  by_cases b:L=N
  ·subst b
   rw [vP] at a
   simp only [Option.some.injEq,Prod.mk.injEq] at a
   obtain⟨rfl,rfl,rfl⟩:=a
   obtain⟨a0,rest,q,c⟩:=d.at_ L Q bN m J
   refine⟨a0,?_⟩
   have fM:=q.set C (v:=jG (Q:Int) (C:Int)) (y6 _ _)
   by_cases h:C < bN
   ·rw [List.set_append_left _ _ (by rw [jH];exact h),Ja] at fM
    rw [show max bN (C+1)=bN by omega]
    exact⟨rest,fM,c⟩
   ·have i:C=bN:=by omega
    subst i
    rw [List.set_append_right _ _ (by rw [jH];exact Nat.le_refl _),jH,Nat.sub_self] at fM
    cases rest with
    | nil=>simp at c;omega
    | cons s cY=>
     rw [show max C (C+1)=C+1 by omega]
     refine⟨cY,?_,by simp at c;omega⟩
     have j:gD Q 0 (C+1) ++ cY=gD Q 0 C ++ (jG (Q:Int) (C:Int) :: cY):=by
      rw [y8 Q 0 C 1,Nat.zero_add];simp [gD]
     rw [j];exact fM
  ·rw [vQ b] at a
   obtain⟨a0,rest,q,c⟩:=d.at_ L e gH f a
   exact⟨a0,rest,q.bT b (a1.set _ _ _ _),c⟩
 ·refine⟨fun L e gH f a=>?_,by rw [Ab];exact Nat.le_refl _,fun L b a=>?_⟩
  ·by_cases b:L=N
   ·subst b
    rw [J] at a
    simp only [Option.some.injEq,Prod.mk.injEq] at a
    obtain⟨rfl,rfl,rfl⟩:=a
    exact⟨_,Nat.le_max_left _ _,vP _ _ _⟩
   ·exact⟨gH,Nat.le_refl _,by rw [vQ b];exact a⟩
  ·have g:L ≠ N:=fun l=>by subst l;rw [J] at a;cases a
   exact⟨by rw [vQ g];exact a,Aa g⟩
theorem hY.cell{c4 Z:V}{aX:gO}(a:hY c4 Z aX){N Q bN m C:Nat}(J:aX N=some (Q,bN,m))(c:C < m):(∃ q,fQ Z ⟨N,C,none⟩=some q)∧mB Z ⟨N,C,none⟩=false:=by
 obtain⟨_,rest,q,d⟩:=a.at_ N Q bN m J
 have b:C < (gD Q 0 bN ++ rest).length:=by rw [List.length_append,jH];omega
 exact⟨⟨_,q.cell (List.getElem?_eq_getElem b)⟩,q.frozen C⟩
theorem Jd{c4 Z:V}{aX:gO}{Q C:Nat}{O:fU}(c:hY c4 Z aX)(dK:iO aX Q C O)(t:C < O.2.1){p:V→Prop}
  (g:∀ A g8,hY c4 A g8→iX aX Z g8 A→iO g8 Q (C+1) O→p A):cL O.1 O.2.1 (C:Int) 1 fun o=>aW Z o (.int .u64 ((jG (Q:Int) (C:Int):Nat):Int)) p:=by
 obtain⟨a0,d,e⟩:=dK
 rcases e with ⟨a,b⟩ | ⟨N,bN,m,a,b,f,h⟩
 ·omega
 ·obtain⟨i,j⟩:=c.put b f (by omega)
  have l:iO (sI aX N (Q,max bN (C+1),m)) Q (C+1) O:=⟨a0,d,Or.inr ⟨N,_,m,a,vP _ _ _,by omega,h⟩⟩
  have n:=g _ _ i j l
  refine⟨⟨by omega,by omega⟩,?_⟩
  rw [a]
  show aW Z ((⟨N,0,none⟩:Addr).add ((C:Int).toNat*1)) _ _
  rw [show(C:Int).toNat*1=C by omega,w]
  exact⟨c.cell b (by omega),n⟩
theorem hY.D6{c4:V}{N Q n m:Nat}:∀ (M a:Nat) {Z:V} {aX:gO} {bN:Nat},hY c4 Z aX→aX N=some (Q,bN,m)→n+a≤bN→n+a+M≤m→
  ∃ g8 gH,hY c4 (iD Z ⟨N,n,none⟩ a ((gD Q (n+a) M).map dQ.eI)) g8∧iX aX Z g8 (iD Z ⟨N,n,none⟩ a ((gD Q (n+a) M).map dQ.eI))∧g8 N=some (Q,gH,m)∧n+a+M≤gH
 | 0,a,Z,aX,bN,b,J,c,d=>⟨aX,bN,b,iX.refl _ _,J,c⟩
 | M+1,a,Z,aX,bN,b,J,c,d=>by
  obtain⟨e,f⟩:=b.put J c (by omega)
  obtain⟨g8,gH,g,l4,h,l⟩:=hY.D6 M (a+1) (n:=n) e (vP _ _ _) (by omega) (by omega)
  have i:(⟨N,n,none⟩:Addr).add a=⟨N,n+a,none⟩:=by rw [← w N n,add_add,w]
  have j:iD Z ⟨N,n,none⟩ a ((gD Q (n+a) (M+1)).map dQ.eI)=iD (fY Z ⟨N,n+a,none⟩ (g2 (jG (Q:Int) ((n+a:Nat):Int)))) ⟨N,n,none⟩ (a+1) ((gD Q (n+(a+1)) M).map dQ.eI):=by
   show iD (fY Z ((⟨N,n,none⟩:Addr).add a) (g2 (jG (Q:Int) ((n+a:Nat):Int)))) ⟨N,n,none⟩ (a+1) ((gD Q (n+a+1) M).map dQ.eI)=_
   rw [i];rfl
  rw [j]
  exact⟨g8,gH,g,f.trans l4,h,by omega⟩
theorem D7{c4 Z:V}{aX:gO}{J:TypeId}{e:dO}{Q M a:Nat}{O:fU}{t:U}{bX v:Nat}(f:hY c4 Z aX)(aR:c4.size≤Z.size)(dK:iO aX Q O.2.1 O)(s:cB dQ Z t bX (gD Q O.2.1 M))(La:a=M)(Ln:1≤M)
  (Lb:e.aK=[dQ.eI 0]) (i:e.leaves.length=1) (aP:e.bytes=8) (D:O.2.1+M≤17592186044416) {p:U→Nat→Nat→V→Prop}
  (E:∀ (c:fU) A g8,iO g8 Q c.2.1 c→c.2.1=O.2.1+M→hY c4 A g8→iX aX Z g8 A→p c.1 c.2.1 c.2.2 A):gW Z J e O.1 O.2.1 O.2.2 (.slice t a v) p:=by
 subst La
 have Lc:=dK
 obtain⟨a0,Lo,Ld⟩:=dK
 have cY:=s.wG (l:=a) (bX:=v) a (by rw [jH];exact Nat.le_refl _)
 rw [List.take_of_length_le (by rw [jH];exact Nat.le_refl _)] at cY
 refine⟨a,(gD Q O.2.1 a).map dQ.eI,rfl,by rw [i];exact cY,?_,?_⟩
 ·intro G
  rcases Ld with ⟨H,j⟩ | ⟨N,bN,m,H,j,Lp,Le⟩
  ·omega
  ·rw [H,i,Nat.mul_one]
   show o1 Z ((⟨N,0,none⟩:Addr).add O.2.1) 0 ((gD Q O.2.1 a).map dQ.eI).length∧p (some ⟨N,0,none⟩) (O.2.1+a) O.2.2 (iD Z ((⟨N,0,none⟩:Addr).add O.2.1) 0 ((gD Q O.2.1 a).map dQ.eI))
   rw [w]
   obtain⟨g8,gH,P,K5,Lf,K6⟩:=f.D6 (n:=O.2.1) a 0 j (by omega) (by omega)
   rw [Nat.add_zero] at P K5 K6
   refine⟨x1 fun C Lg=>?_,?_⟩
   ·rw [List.length_map,jH] at Lg
    have Lh:(⟨N,O.2.1,none⟩:Addr).add (0+C)=⟨N,O.2.1+C,none⟩:=by rw [Nat.zero_add,← w N O.2.1,add_add,w]
    rw [Lh]
    exact f.cell j (by omega)
   ·exact E (some ⟨N,0,none⟩,O.2.1+a,O.2.2) _ g8 ⟨G,D,Or.inr ⟨N,gH,m,rfl,Lf,K6,Le⟩⟩ rfl P K5
 ·intro G
  refine⟨?_,by omega,by omega,(gD Q 0 O.2.1).map dQ.eI,?_,?_⟩
  ·rw [aP];exact growslice_fits (by omega) (by omega)
  ·have K7:=(iO.rd f Lc).wG (l:=O.2.1) (bX:=O.2.2) O.2.1 (by rw [jH];exact Nat.le_refl _)
   rw [List.take_of_length_le (by rw [jH];exact Nat.le_refl _)] at K7
   rw [i];exact K7
  ·intro g Li
   have Lj:aX Z.size=none:=f.ge (Nat.le_refl _)
   have b1:a4 Z (Z.push (.cells ((gD Q 0 O.2.1).map dQ.eI ++ ((gD Q O.2.1 a).map dQ.eI ++ hT e.aK (g - (O.2.1+a)))).toArray J (0,0))):=⟨by simp,fun Lq Lr=>by rw [Array.getElem?_push];rw [if_neg (by omega)]⟩
   refine E (some ⟨Z.size,0,none⟩,O.2.1+a,g) _ (sI aX Z.size (Q,O.2.1+a,g)) ⟨Li,D,Or.inr ⟨Z.size,O.2.1+a,g,rfl,vP _ _ _,Nat.le_refl _,Nat.le_refl _⟩⟩ rfl ⟨fun L K8 gH K9 b=>?_⟩ ⟨fun L K8 gH K9 b=>?_,b1.le,fun L d b=>?_⟩
   ·by_cases d:L=Z.size
    ·subst d
     rw [vP] at b
     simp only [Option.some.injEq,Prod.mk.injEq] at b
     obtain⟨rfl,rfl,rfl⟩:=b
     refine⟨aR,List.replicate (g - (O.2.1+a)) 0,⟨fun I Lk=>?_,J,?_⟩,by rw [List.length_replicate];omega⟩
     ·rcases List.mem_append.mp Lk with h | h
      ·exact A4 _ _ _ I h
      ·rw [List.eq_of_mem_replicate h];exact As
     ·rw [Lb,xU,y8 Q 0 O.2.1 a,Nat.zero_add];simp
    ·rw [vQ d] at b
     obtain⟨h,rest,q,Ll⟩:=f.at_ L K8 gH K9 b
     exact⟨h,rest,q.B b1,Ll⟩
   ·have d:L ≠ Z.size:=fun Lm=>by subst Lm;rw [Lj] at b;cases b
    exact⟨gH,Nat.le_refl _,by rw [vQ d];exact b⟩
   ·exact⟨by rw [vQ (by omega)];exact b,b1.pre L d⟩
structure lR(c4 c2 Z:V)(aX:gO)(S:U)(R:Nat)(aY:List fU):Prop where
 rJ:hY c4 Z aX
 b1:a4 c4 Z
 A5:c4.size≤c2.size
 le:c2.size≤Z.size
 aJ:cB tN Z S R aY
 aP:∀ z,S=some z→aX z.block=none
 dE:∀ z,S=some z→z.block < c2.size
theorem lR.step{c4 c2 Z A:V}{aX g8:gO}{S:U}{R:Nat}{aY:List fU}(O:lR c4 c2 Z aX S R aY)(c:hY c4 A g8)(a:iX aX Z g8 A):lR c4 c2 A g8 S R aY:=by
 have le:=O.le
 refine⟨c,⟨Nat.le_trans O.b1.le a.size,fun N aP=>?_⟩,O.A5,Nat.le_trans O.le a.size,⟨O.aJ.len,O.aJ.cap,O.aJ.ok,fun Q I d=>?_⟩,fun z b=>?_,O.dE⟩
 ·exact((a.off N (Nat.lt_of_lt_of_le aP O.b1.le) (O.rJ.qY aP)).2).trans (O.b1.pre N aP)
 ·obtain⟨z,J,g⟩:=O.aJ.at_ Q I d
  refine⟨z,J,?_⟩
  have:=O.dE z J
  have e:A[(z.add Q).block]?=Z[(z.add Q).block]?:=by rw [tD];exact(a.off z.block (by omega) (O.aP z J)).2
  rw [tC e];exact g
 ·have:=O.dE z b
  exact(a.off z.block (by omega) (O.aP z b)).1
theorem lR.B{c4 c2 Z A:V}{aX:gO}{S:U}{R:Nat}{aY:List fU}(O:lR c4 c2 Z aX S R aY)(M:a4 Z A):lR c4 c2 A aX S R aY:=O.step (O.rJ.B M) (iX.B aX M)
structure sJ(c2 Z:V)(aX:gO)(a:U)(L:Nat)(fX:List fU)(n:Nat):Prop where
 hV:cN tN c2 Z a L fX
 zA:∀ z,a=some z→aX z.block=none
 all:∀ (C:Nat) O,fX[C]?=some O→iO aX (C % n) O.2.1 O
theorem sJ.step{c2 Z A:V}{aX g8:gO}{a:U}{L n:Nat}{fX:List fU}(g:sJ c2 Z aX a L fX n)(d:iX aX Z g8 A):sJ c2 A g8 a L fX n:=by
 have dE:∀ z,a=some z→z.block < Z.size:=fun z b=>by
  rcases g.hV.here with ⟨_,J,_⟩ | ⟨N,rest,c,e,q,f⟩
  ·rw [J] at b;cases b
  ·rw [c] at b;cases b;exact q.lt
 refine⟨⟨g.hV.len,g.hV.cap,?_⟩,fun z b=>(d.off _ (dE z b) (g.zA z b)).1,fun C O J=>(g.all C O J).step d⟩
 rcases g.hV.here with J | ⟨N,rest,c,e,q,f⟩
 ·exact Or.inl J
 ·have aP:=d.off N q.lt (g.zA _ c)
  refine Or.inr ⟨N,rest,c,e,?_,f⟩
  obtain⟨h,at_⟩:=q.at_
  exact⟨q.ok,h,by rw [aP.2];exact at_⟩
theorem D8{c4 c2 Z:V}{aX:gO}{S i:U}{R m v n Q:Nat}{aY fX:List fU}{J H:TypeId}{f:dO}{O:fU}(bD:lR c4 c2 Z aX S R aY)(G:sJ c2 Z aX i m fX n)(Lh:fX.length+1≤100000)(P:v=fX.length)(K5:iO aX Q O.2.1 O)(bE:fX.length % n=Q)
  (K6:f.aK=[tN.eI (none,0,0)]) (K7:f.leaves.length=1) (aP:f.bytes=24) {p:U→Nat→Nat→V→Prop}
  (K8:∀ h cW A,lR c4 c2 A aX S R aY→sJ c2 A aX h cW (fX ++ [O]) n→p h (fX.length+1) cW A):b4 Z J [.slice O.1 O.2.1 O.2.2] fun o K9=>gW K9 H f i v m (.slice (some o) 1 1) p:=by
 refine wF tN [O] rfl (fun _ _=>trivial) fun a0 La D=>?_
 have a:=bD.B D
 have d:=G.step (iX.B aX D)
 refine CF (aB:=c2) d.hV a.le (La.o9 (L:=1) (show 1≤11728124029610 by decide) (Nat.le_refl 1)) P rfl K7 ((none,0,0):fU) K6 trivial 24 aP (by decide) (by simp;show _≤11728124029610;omega) (fun Li=>by simp;omega) fun h cW A Lb e Lj Lc=>?_
 have E:∀ N,N < c2.size→fT N i:=cN.Ax d.hV
 have Ld:lR c4 c2 A aX S R aY:=by
  have Lk:=a.le
  refine⟨a.rJ.Ay e d.zA,⟨Nat.le_trans a.b1.le e.le,fun N aP=>?_⟩,a.A5,Nat.le_trans a.le e.le,⟨a.aJ.len,a.aJ.cap,a.aJ.ok,fun C I Le=>?_⟩,a.aP,a.dE⟩
  ·have Ll:c4.size≤a0.size:=a.b1.le
   have Lm:=a.A5
   exact(e.pre N (by omega) (E N (by omega))).trans (a.b1.pre N aP)
  ·obtain⟨z,c,g⟩:=a.aJ.at_ C I Le
   refine⟨z,c,?_⟩
   have:=a.dE z c
   have Lf:A[(z.add C).block]?=a0[(z.add C).block]?:=by rw [tD];exact e.pre z.block (by omega) (E _ this)
   rw [tC Lf];exact g
 refine K8 h cW A Ld ⟨Lb,fun z c=>?_,fun C t b=>?_⟩
 ·rcases Lc with j | ⟨N,j,Lg⟩
  ·rw [j] at c;exact d.zA z c
  ·rw [j] at c;cases c;exact a.rJ.ge Lg
 ·rcases Nat.lt_or_ge C fX.length with l | l
  ·rw [List.getElem?_append_left l] at b;exact d.all C t b
  ·rw [List.getElem?_append_right l] at b
   cases aJ:C - fX.length with
   | zero=>
    rw [aJ] at b;simp at b;subst b
    rw [show C=fX.length by omega,bE];exact K5
   | succ bH=>rw [aJ] at b;simp at b
variable {c4 c2:V} {S:U} {R:Nat} {aY:List fU}
abbrev mR(c4:V):K:=fun v A=>v=.bool true∧a4 c4 A
theorem Je{Z:V}{aX:gO}(bD:lR c4 c2 Z aX S R aY)(i:aY.length≤50000)(all:∀ (C:Nat) O,aY[C]?=some O→iO aX C O.2.1 O):
  ∀ (M Q:Nat),Q+M=aY.length→eF.dN.t (mR c4) (M+1) S aY.length R (Q:Int) Z:=by
 intro M
 induction M with
 | zero=>
  intro Q c
  unfold eF.dN.t eF.dD.t
  refine cD (fun aP=>absurd aP (by omega)) fun _=>?_
  exact⟨rfl,bD.b1⟩
 | succ M d=>
  intro Q c
  unfold eF.dN.t eF.dD.t
  refine cD (fun _=>?_) fun aP=>absurd (by omega) aP
  obtain⟨O,a⟩:∃ O,aY[Q]?=some O:=⟨aY[Q]'(by omega),by simp⟩
  have b:=all Q O a
  have s:=iO.rd bD.rJ b
  have j:=b.2.1
  unfold eF.eL.t
  refine⟨O.2.1+1,?_⟩
  have e:∀ (m C:Nat),C+m=O.2.1→eF.eT.t (mR c4) (eF.dN.t (mR c4) (M+1)) (m+1) S aY.length R (Q:Int) (C:Int) Z:=by
   intro m
   induction m with
   | zero=>
    intro C f
    unfold eF.eT.t eF.g7.t
    refine nS bD.aJ rfl rfl a ?_
    refine cD (fun aP=>absurd aP (by omega)) fun _=>?_
    unfold eF.eC.t
    refine cP ((Q+1:Nat):Int) (by omega) (by omega) (by omega) ?_
    exact d (Q+1) (by omega)
   | succ m g=>
    intro C f
    unfold eF.eT.t eF.g7.t
    refine nS bD.aJ rfl rfl a ?_
    refine cD (fun _=>?_) fun aP=>absurd (by omega) aP
    refine nS bD.aJ rfl rfl a ?_
    refine wD s (C:=C) rfl (by rw [jH]) (by rw [jH];omega) ?_
    refine sH _ _ ?_
    rw [D5 (by omega),Nat.zero_add]
    refine mZ (fun h=>absurd rfl h) fun _=>?_
    refine cP ((C+1:Nat):Int) (by omega) (by omega) (by omega) ?_
    exact g (C+1) (by omega)
  exact e O.2.1 0 (by omega)
theorem Jf{Z:V}{aX:gO}{b:U}{c:Nat}{fX:List fU}(bD:lR c4 c2 Z aX S R aY)(e:aY.length≤50000)(all:∀ (C:Nat) O,aY[C]?=some O→iO aX C O.2.1 O)(G:sJ c2 Z aX b c fX aY.length)(n:fX.length=aY.length+aY.length):
  ∀ (M Q:Nat),Q+M=fX.length→eF.iY.t (mR c4) (M+1) S aY.length R b fX.length c (Q:Int) Z:=by
 intro M
 induction M with
 | zero=>
  intro Q f
  unfold eF.iY.t eF.sK.t
  refine cD (fun aP=>absurd aP (by omega)) fun _=>?_
  unfold eF.cA.t
  exact⟨aY.length+1,Je bD e all aY.length 0 (by omega)⟩
 | succ M g=>
  intro Q f
  unfold eF.iY.t eF.sK.t
  refine cD (fun _=>?_) fun aP=>absurd (by omega) aP
  obtain⟨O,a⟩:∃ O,fX[Q]?=some O:=⟨fX[Q]'(by omega),by simp⟩
  have d:=G.all Q O a
  have s:=iO.rd bD.rJ d
  have v:=d.2.1
  unfold eF.rK.t
  refine⟨O.2.1+1,?_⟩
  have h:∀ (m C:Nat),C+m=O.2.1→eF.l5.t (mR c4) (eF.iY.t (mR c4) (M+1)) (m+1) S aY.length R b fX.length c (Q:Int) (C:Int) Z:=by
   intro m
   induction m with
   | zero=>
    intro C i
    unfold eF.l5.t eF.sL.t
    refine nS G.hV.rd rfl rfl a ?_
    refine cD (fun aP=>absurd aP (by omega)) fun _=>?_
    unfold eF.oX.t
    refine cP ((Q+1:Nat):Int) (by omega) (by omega) (by omega) ?_
    exact g (Q+1) (by omega)
   | succ m j=>
    intro C i
    unfold eF.l5.t eF.sL.t
    refine nS G.hV.rd rfl rfl a ?_
    refine cD (fun _=>?_) fun aP=>absurd (by omega) aP
    refine nS G.hV.rd rfl rfl a ?_
    refine wD s (C:=C) rfl (by rw [jH]) (by rw [jH];omega) ?_
    refine⟨by omega,⟨?_⟩⟩
    rw [r0]
    refine sH _ _ ?_
    rw [D5 (by omega),Nat.zero_add]
    refine mZ (fun l=>absurd rfl l) fun _=>?_
    refine cP ((C+1:Nat):Int) (by omega) (by omega) (by omega) ?_
    exact j (C+1) (by omega)
  exact h O.2.1 0 (by omega)
theorem Jg(Ll:aY.length≤10000)(l:∀ (C:Nat) O,aY[C]?=some O→O.2.1≤17592186044336):
  ∀ (M Q:Nat) (Z:V) (aX:gO) (c:U) (d:Nat) (fX:List fU),Q+M=aY.length→fX.length=aY.length+Q→lR c4 c2 Z aX S R aY→(∀ (C:Nat) O,aY[C]?=some O→iO aX C O.2.1 O)→sJ c2 Z aX c d fX aY.length→
   eF.iB.t (mR c4) (M+1) S aY.length R c fX.length d (Q:Int) Z:=by
 intro M
 induction M with
 | zero=>
  intro Q Z aX c d fX n i bD all G
  unfold eF.iB.t eF.sM.t
  refine cD (fun aP=>absurd aP (by omega)) fun _=>?_
  unfold eF.hN.t
  exact⟨fX.length+1,Jf bD (by omega) all G (by omega) fX.length 0 (by omega)⟩
 | succ M v=>
  intro Q Z aX c d fX n i bD all G
  unfold eF.iB.t eF.sM.t
  refine cD (fun _=>?_) fun aP=>absurd (by omega) aP
  unfold eF.rL.t
  obtain⟨O,g⟩:∃ O,aY[Q]?=some O:=⟨aY[Q]'(by omega),by simp⟩
  have Lm:=l Q O g
  refine nQ 80 rfl rfl rfl rfl (by omega) fun a0 D E=>?_
  unfold eF.sN.t
  refine⟨80+1,?_⟩
  have H:∀ (m C:Nat) (e:V),C+m=80→a4 Z e→eM e Z.size ((gD Q O.2.1 80).take C ++ List.replicate (80 - C) 0)→
    eF.l6.t (mR c4) (eF.iB.t (mR c4) (M+1)) (m+1) S aY.length R c fX.length d (Q:Int) (some ⟨Z.size,0,none⟩) ((80:Int).toNat) ((80:Int).toNat) (C:Int) e:=by
   intro m
   induction m with
   | zero=>
    intro C e P f h
    have K5:C=80:=by omega
    subst K5
    unfold eF.l6.t eF.sO.t
    refine cD (fun aP=>absurd aP (by decide)) fun _=>?_
    rw [List.take_of_length_le (by rw [jH];exact Nat.le_refl _),Nat.sub_self,List.replicate_zero,List.append_nil] at h
    have a:=bD.B f
    have K6:=G.step (iX.B aX f)
    unfold eF.pS.t
    refine nS a.aJ rfl rfl g ?_
    have b:(gD Q O.2.1 80).length=80:=jH _ _ _
    refine D7 a.rJ a.b1.le (all Q O g) (h.p8.o9 (L:=80) (by rw [b];decide) (by rw [b];exact Nat.le_refl _)) rfl (by decide) rfl rfl rfl (by omega) fun j Ln dT K7 Lo K8 tP=>?_
    have K9:=a.step K8 tP
    have La:=K6.step tP
    refine D8 K9 La (by omega) rfl K7 (by rw [i,Nat.add_mod_left];exact Nat.mod_eq_of_lt (by omega)) rfl rfl rfl fun Lb Lc Ld Le Lf=>?_
    unfold eF.mS.t
    refine cP ((Q+1:Nat):Int) (by omega) (by omega) (by omega) ?_
    have Lg:fX.length+1=(fX ++ [j]).length:=by simp
    rw [Lg]
    exact v (Q+1) Ld dT Lb Lc (fX ++ [j]) (by omega) (by simp;omega) Le (fun C t Lh=>(all C t Lh).step tP) Lf
   | succ m Li=>
    intro C e P f h
    have a:=bD.B f
    unfold eF.l6.t eF.sO.t
    refine cD (fun _=>?_) fun aP=>absurd (by omega) aP
    refine nS a.aJ rfl rfl g ?_
    refine cP ((O.2.1+C:Nat):Int) (by omega) (by omega) (by omega) ?_
    refine sH _ _ ?_
    have b:((gD Q O.2.1 80).take C).length=C:=by rw [List.length_take,jH];omega
    refine mX h (C:=C) rfl (by rw [List.length_append,b,List.length_replicate];show 80=_;omega) (by rw [List.length_append,b,List.length_replicate];omega) rfl (y6 _ _) fun Lj=>?_
    refine cP ((C+1:Nat):Int) (by omega) (by omega) (by omega) ?_
    refine Li (C+1) _ (by omega) (a1.B f (a1.set _ _ _ _) (Nat.le_refl _)) ?_
    have Lk:((gD Q O.2.1 80).take C ++ List.replicate (80 - C) 0).set C (jG (Q:Int) ((O.2.1+C:Nat):Int))=(gD Q O.2.1 80).take (C+1) ++ List.replicate (80 - (C+1)) 0:=by
     rw [List.set_append_right _ _ (by omega),b,Nat.sub_self,show 80 - C=80 - (C+1)+1 by omega,List.replicate_succ,List.set_cons_zero,List.take_add_one,y9 Q O.2.1 80 C (by omega)]
     simp
    rw [← Lk];exact Lj
  exact H 80 0 a0 (by omega) E D
theorem Jh(D:aY.length≤10000)(j:∀ (C:Nat) O,aY[C]?=some O→O.2.1≤17592186044336):
  ∀ (M Q:Nat) (Z:V) (aX:gO) (b:U) (c:Nat) (fX:List fU),Q+M=aY.length→fX.length=Q→lR c4 c2 Z aX S R aY→(∀ (C:Nat) O,aY[C]?=some O→iO aX C O.2.1 O)→sJ c2 Z aX b c fX aY.length→
   eF.iC.t (mR c4) (M+1) S aY.length R b fX.length c (Q:Int) Z:=by
 intro M
 induction M with
 | zero=>
  intro Q Z aX b c fX E l bD all G
  unfold eF.iC.t eF.sP.t
  refine cD (fun aP=>absurd aP (by omega)) fun _=>?_
  unfold eF.jW.t
  exact⟨aY.length+1,Jg D j aY.length 0 Z aX b c fX (by omega) (by omega) bD all G⟩
 | succ M H=>
  intro Q Z aX b c fX E l bD all G
  unfold eF.iC.t eF.sP.t
  refine cD (fun _=>?_) fun aP=>absurd (by omega) aP
  unfold eF.rM.t
  obtain⟨O,e⟩:∃ O,aY[Q]?=some O:=⟨aY[Q]'(by omega),by simp⟩
  have Li:=j Q O e
  refine nS bD.aJ rfl rfl e ?_
  unfold eF.sQ.t
  refine⟨16+1,?_⟩
  have P:∀ (m C:Nat) (d:V) (a:gO) (t:fU),C+m=16→lR c4 c2 d a S R aY→iX aX Z a d→iO a Q t.2.1 t→t.2.1=O.2.1+C→
    eF.l7.t (mR c4) (eF.iC.t (mR c4) (M+1)) (m+1) S aY.length R b fX.length c (Q:Int) t.1 t.2.1 t.2.2 (C:Int) d:=by
   intro m
   induction m with
   | zero=>
    intro C d a t K5 f g mt n
    unfold eF.l7.t eF.sR.t
    refine cD (fun aP=>absurd aP (by omega)) fun _=>?_
    unfold eF.pT.t
    have K6:=G.step g
    refine D8 f K6 (by omega) rfl mt (by rw [l];exact Nat.mod_eq_of_lt (by omega)) rfl rfl rfl fun K7 K8 h K9 La=>?_
    unfold eF.mT.t
    refine cP ((Q+1:Nat):Int) (by omega) (by omega) (by omega) ?_
    have Lb:fX.length+1=(fX ++ [t]).length:=by simp
    rw [Lb]
    exact H (Q+1) h a K7 K8 (fX ++ [t]) (by omega) (by simp;omega) K9 (fun C dU Lc=>(all C dU Lc).step g) La
   | succ m Ld=>
    intro C d a t K5 f g mt n
    unfold eF.l7.t eF.sR.t
    refine cD (fun _=>?_) fun aP=>absurd (by omega) aP
    refine nS f.aJ rfl rfl e ?_
    refine cP ((O.2.1+C:Nat):Int) (by omega) (by omega) (by omega) ?_
    refine sH _ _ ?_
    refine wF dQ (gD Q t.2.1 1) (by rw [n];rfl) (A4 _ _ _) fun Lj Le v=>?_
    have i:=f.B v
    refine D7 i.rJ i.b1.le mt (Le.o9 (L:=1) (by rw [jH];decide) (by rw [jH];exact Nat.le_refl _)) rfl (Nat.le_refl _) rfl rfl rfl (by omega) fun Lf h gT Lg Lk Lh AB=>?_
    refine cP ((C+1:Nat):Int) (by omega) (by omega) (by omega) ?_
    exact Ld (C+1) h gT Lf (by omega) (i.step Lh AB) (g.trans ((iX.B a v).trans AB)) Lg (by omega)
  exact P 16 0 Z aX O (by omega) bD (iX.refl _ _) (all Q O e) (by omega)
theorem Ji(l:aY.length≤10000)(i:∀ (C:Nat) O,aY[C]?=some O→O.2.1≤17592186044336):
  ∀ (M Q:Nat) (Z:V) (aX:gO),Q+M=aY.length→lR c4 c2 Z aX S R aY→(∀ (C:Nat) O,aY[C]?=some O→iO aX C (if C < Q then O.2.1 else 0) O)→
   eF.iZ.t (mR c4) (M+1) S aY.length R (Q:Int) Z:=by
 intro M
 induction M with
 | zero=>
  intro Q Z aX n bD all
  unfold eF.iZ.t eF.sS.t
  refine cD (fun aP=>absurd aP (by omega)) fun _=>?_
  unfold eF.aC.t eF.sT.t
  refine⟨aY.length+1,Jh l i aY.length 0 Z aX none 0 [] (by omega) rfl bD (fun C O e=>?_) ⟨cN.nil _ _,fun z J=>(by cases J),fun C O J=>(by simp at J)⟩⟩
  have:=all C O e
  rw [if_pos (by have:=(List.getElem?_eq_some_iff.mp e).1;omega)] at this
  exact this
 | succ M v=>
  intro Q Z aX n bD all
  unfold eF.iZ.t eF.sS.t
  refine cD (fun _=>?_) fun aP=>absurd (by omega) aP
  unfold eF.rN.t
  obtain⟨O,b⟩:∃ O,aY[Q]?=some O:=⟨aY[Q]'(by omega),by simp⟩
  have K6:=i Q O b
  refine⟨O.2.1+1,?_⟩
  have D:∀ (m C:Nat) (c:V) (d:gO),C+m=O.2.1→lR c4 c2 c d S R aY→iX aX Z d c→iO d Q C O→
    eF.l8.t (mR c4) (eF.iZ.t (mR c4) (M+1)) (m+1) S aY.length R (Q:Int) (C:Int) c:=by
   intro m
   induction m with
   | zero=>
    intro C c d e a f g
    unfold eF.l8.t eF.sU.t
    refine nS a.aJ rfl rfl b ?_
    refine cD (fun aP=>absurd aP (by omega)) fun _=>?_
    unfold eF.oY.t
    refine cP ((Q+1:Nat):Int) (by omega) (by omega) (by omega) ?_
    refine v (Q+1) c d (by omega) a fun z t h=>?_
    by_cases J:z=Q
    ·subst J
     rw [b] at h;cases h
     rw [if_pos (by omega)]
     have E:C=O.2.1:=by omega
     subst E;exact g
    ·have:=(all z t h).step f
     by_cases j:z < Q
     ·rw [if_pos j] at this;rw [if_pos (by omega)];exact this
     ·rw [if_neg j] at this;rw [if_neg (by omega)];exact this
   | succ m G=>
    intro C c d e a f g
    unfold eF.l8.t eF.sU.t
    refine nS a.aJ rfl rfl b ?_
    refine cD (fun _=>?_) fun aP=>absurd (by omega) aP
    refine nS a.aJ rfl rfl b ?_
    refine sH _ _ ?_
    refine Jd a.rJ g (by omega) fun H dT P tP K5=>?_
    refine cP ((C+1:Nat):Int) (by omega) (by omega) (by omega) ?_
    exact G (C+1) H dT (by omega) (a.step P tP) (f.trans tP) K5
  refine D O.2.1 0 Z aX (by omega) bD (iX.refl _ _) ?_
  exact(all Q O b).Jb
structure Sep(c4 Z:V)(aY:List fU):Prop where
 one:∀ O ∈ aY,O.2.1≤O.2.2∧O.2.1≤17592186044336∧((O.1=none∧O.2.2=0)∨∃ N aK,O.1=some ⟨N,0,none⟩∧c4.size≤N∧dI dQ Z N aK∧O.2.2≤aK.length)
 two:∀ (Q C:Nat) (O t:fU) (z o:Addr),aY[Q]?=some O→aY[C]?=some t→O.1=some z→t.1=some o→z.block=o.block→Q=C
open Classical in
noncomputable def tZ(Z:V)(aY:List fU):gO:=fun N=>if a:∃ Q:Nat,∃ O:fU,aY[Q]?=some O∧O.1=some ⟨N,0,none⟩ then some (Classical.choose a,0,(n8 Z N).getD 0) else none
theorem dI.n8{Z:V}{N:Nat}{aK:List Nat}(q:dI dQ Z N aK):Gv.n8 Z N=some aK.length:=by
 obtain⟨J,g⟩:=q.at_
 unfold Gv.n8
 rw [g];simp
theorem D9{c4 Z:V}{aY:List fU}(dK:Sep c4 Z aY){Q:Nat}{O:fU}{N:Nat}{aK:List Nat}(bE:aY[Q]?=some O)(aP:O.1=some ⟨N,0,none⟩)(q:dI dQ Z N aK):tZ Z aY N=some (Q,0,aK.length):=by
 have a:∃ Q:Nat,∃ O:fU,aY[Q]?=some O∧O.1=some ⟨N,0,none⟩:=⟨Q,O,bE,aP⟩
 unfold tZ
 rw [dif_pos a,dI.n8 q]
 obtain⟨t,b,c⟩:=Classical.choose_spec a
 have J:=dK.two _ Q t O _ _ b bE c aP rfl
 rw [J];rfl
theorem Jj{c4 Z:V}{aY:List fU}(dK:Sep c4 Z aY):hY c4 Z (tZ Z aY):=by
 refine⟨fun N Q bN m J=>?_⟩
 by_cases b:∃ Q:Nat,∃ O:fU,aY[Q]?=some O∧O.1=some ⟨N,0,none⟩
 ·obtain⟨C,O,c,aP⟩:=b
  obtain⟨_,_,d⟩:=dK.one O (List.mem_of_getElem? c)
  rcases d with ⟨a,_⟩ | ⟨f,aK,a,e,q,g⟩
  ·rw [a] at aP;cases aP
  ·rw [a] at aP;cases aP
   rw [D9 dK c a q] at J
   simp only [Option.some.injEq,Prod.mk.injEq] at J
   obtain⟨rfl,rfl,rfl⟩:=J
   exact⟨e,aK,by simpa [gD] using q,by omega⟩
 ·unfold tZ at J
  rw [dif_neg b] at J;cases J
theorem Jk{c4 Z:V}{S:U}{R l:Nat}{aY:List fU}(c:a4 c4 Z)(aJ:cB tN Z S R aY)(f:l=aY.length)(g:aY.length≤10000)(dK:Sep c4 Z aY)(d:∀ z,S=some z→z.block < Z.size∧∀ O ∈ aY,∀ o,O.1=some o→o.block ≠ z.block):
  aF eF.id #[.slice S l R] Z fun v A=>v=.bool true∧a4 c4 A:=by
 subst f
 refine eF.ok ?_
 unfold eF.t eF.F.t eF.sV.t
 have bD:lR c4 Z Z (tZ Z aY) S R aY:=⟨Jj dK,c,c.le,Nat.le_refl _,aJ,fun z b=>by
  unfold tZ
  rw [dif_neg]
  rintro⟨Q,O,bE,aP⟩
  exact(d z b).2 O (List.mem_of_getElem? bE) _ aP rfl,fun z b=>(d z b).1⟩
 refine⟨aY.length+1,Ji g (fun C O a=>(dK.one O (List.mem_of_getElem? a)).2.1) aY.length 0 Z (tZ Z aY) (by omega) bD fun C O a=>?_⟩
 rw [if_neg (by omega)]
 obtain⟨a0,j,h⟩:=dK.one O (List.mem_of_getElem? a)
 refine⟨a0,by omega,h.imp id ?_⟩
 rintro⟨N,aK,e,m,q,i⟩
 exact⟨N,0,aK.length,e,D9 dK a e q,Nat.le_refl _,i⟩
end Go.Proofs.YtllhckjfhefcdaaGreatDoor.G
